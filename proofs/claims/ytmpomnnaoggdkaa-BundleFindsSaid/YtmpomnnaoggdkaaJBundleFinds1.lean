/- Part 1 of the proof of BundleFinds: what the program's functions come to. -/
import Derived.ProofKit
import Derived.WalkKit
import Derived.Test.YtmpomnnaoggdkaaL3
import Derived.Test.YtmpomnnaoggdkaaProg
/- Varints and sums over bytes, in plain terms: no program in sight. -/
namespace Go.Proofs.Ytmpomnnaoggdkaa.E
open Go Go.RowKit
set_option linter.unusedVariables false
set_option linter.unusedSimpArgs false
theorem xor_lt8 {a b : Nat} (ha : a < 256) (hb : b < 256) : a ^^^ b < 256 := Nat.xor_lt_two_pow (n := 8) ha hb
theorem xor_lt32 {a b : Nat} (ha : a < 4294967296) (hb : b < 4294967296) : a ^^^ b < 4294967296 := Nat.xor_lt_two_pow (n := 32) ha hb
theorem ci_length (l : List Nat) : (ci l).length = l.length := List.length_map _
theorem ci_append (a b : List Nat) : ci (a ++ b) = ci a ++ ci b := List.map_append
theorem ci_nil : ci [] = [] := rfl
theorem ci_cons (a : Nat) (l : List Nat) : ci (a :: l) = (a : Int) :: ci l := rfl
theorem ci_take (l : List Nat) (n : Nat) : (ci l).take n = ci (l.take n) := by simp [ci, List.map_take]
theorem ci_drop (l : List Nat) (n : Nat) : (ci l).drop n = ci (l.drop n) := by simp [ci, List.map_drop]
theorem ci_set (l : List Nat) (n x : Nat) : (ci l).set n (x : Int) = ci (l.set n x) := by simp [ci, List.map_set]
theorem ci_inj {a b : List Nat} (h : ci a = ci b) : a = b := by
  have := congrArg (List.map Int.toNat) h
  simpa [ci, List.map_map, Function.comp_def] using this
theorem to_ci {l : List Int} {b : Nat} (h : ∀ x ∈ l, 0 ≤ x ∧ x < (b : Int)) : ∃ m : List Nat, l = ci m ∧ ∀ x ∈ m, x < b := by
  refine ⟨l.map Int.toNat, ?_, ?_⟩
  · simp only [ci, List.map_map]
    conv => lhs; rw [← List.map_id l]
    refine List.map_congr_left (fun x hx => ?_)
    have := h x hx
    simp
    omega
  · intro x hx
    obtain ⟨y, hy, rfl⟩ := List.mem_map.1 hx
    have := h y hy
    omega
theorem getD_lt {l : List Nat} {b i : Nat} (h : ∀ x ∈ l, x < b) (hb : 0 < b) : l.getD i 0 < b := by
  rw [List.getD_eq_getElem?_getD]
  cases hg : l[i]? with
  | none => exact hb
  | some x => exact h x (List.mem_of_getElem? hg)
def vb (n : Nat) : List Nat := if n < 128 then [n] else (n % 128 + 128) :: vb (n / 128)
termination_by n
decreasing_by omega
theorem vb_small {n : Nat} (h : n < 128) : vb n = [n] := by rw [vb, if_pos h]
theorem vb_big {n : Nat} (h : ¬ n < 128) : vb n = (n % 128 + 128) :: vb (n / 128) := by rw [vb, if_neg h]
theorem vb_lt (n : Nat) : ∀ x ∈ vb n, x < 256 := by
  induction n using Nat.strongRecOn with
  | ind n ih =>
    intro x hx
    by_cases h : n < 128
    · rw [vb_small h, List.mem_singleton] at hx; omega
    · rw [vb_big h, List.mem_cons] at hx
      rcases hx with rfl | hx
      · omega
      · exact ih (n / 128) (by omega) x hx
theorem vb_length_pos (n : Nat) : 1 ≤ (vb n).length := by
  by_cases h : n < 128
  · rw [vb_small h]; simp
  · rw [vb_big h]; simp
theorem vb_len_le : ∀ (s n : Nat), 1 ≤ s → n < 128 ^ s → (vb n).length ≤ s
  | 0, n, h, _ => absurd h (by omega)
  | s + 1, n, _, h => by
    by_cases h1 : n < 128
    · rw [vb_small h1]; simp
    · rw [vb_big h1, List.length_cons]
      have hs : 1 ≤ s := by
        rcases Nat.eq_zero_or_pos s with rfl | hs
        · exact absurd (by simpa using h) h1
        · exact hs
      have := vb_len_le s (n / 128) hs (by rw [Nat.pow_succ] at h; exact Nat.div_lt_of_lt_mul (by rw [Nat.mul_comm]; exact h))
      omega
theorem vb_len_ge : ∀ (s n : Nat), 128 ^ s ≤ n → s + 1 ≤ (vb n).length
  | 0, n, _ => vb_length_pos n
  | s + 1, n, h => by
    have hp : 1 ≤ 128 ^ s := Nat.pow_pos (by omega)
    have h1 : ¬ n < 128 := by rw [Nat.pow_succ] at h; omega
    rw [vb_big h1, List.length_cons]
    have := vb_len_ge s (n / 128) (by rw [Nat.pow_succ] at h; exact (Nat.le_div_iff_mul_le (by omega)).2 h)
    omega
theorem vb_length_le10 {n : Nat} (h : n < 18446744073709551616) : (vb n).length ≤ 10 := vb_len_le 10 n (by omega) (Nat.lt_of_lt_of_le h (by decide))
theorem vb_length_mono {n m : Nat} (h : (vb n).length < (vb m).length) : n < m := by
  rcases Nat.lt_or_ge n m with h1 | h1
  · exact h1
  exfalso
  have : ∀ (a b : Nat), b ≤ a → (vb b).length ≤ (vb a).length := by
    intro a
    induction a using Nat.strongRecOn with
    | ind a ih =>
      intro b hb
      by_cases hb1 : b < 128
      · rw [vb_small hb1]; exact vb_length_pos a
      · rw [vb_big hb1, vb_big (show ¬ a < 128 by omega), List.length_cons, List.length_cons]
        exact Nat.succ_le_succ (ih (a / 128) (by omega) (b / 128) (by omega))
  have := this n m h1
  omega
def num : List Nat → Nat
  | [] => 0
  | x :: s => x % 128 + 128 * num s
theorem num_snoc : ∀ (p : List Nat) (x : Nat), num (p ++ [x]) = num p + x % 128 * 128 ^ p.length
  | [], x => by simp [num]
  | y :: p, x => by
    rw [List.cons_append, num, num, num_snoc p x, List.length_cons, Nat.pow_succ, Nat.mul_add, ← Nat.add_assoc, Nat.mul_left_comm, Nat.mul_comm 128 (128 ^ p.length)]
theorem num_lt : ∀ p : List Nat, num p < 128 ^ p.length
  | [] => by simp [num]
  | y :: p => by
    have := num_lt p
    rw [num, List.length_cons, Nat.pow_succ]
    omega
theorem num_vb (n : Nat) : num (vb n) = n := by
  induction n using Nat.strongRecOn with
  | ind n ih =>
    by_cases h : n < 128
    · rw [vb_small h, num, num]; omega
    · rw [vb_big h, num, ih (n / 128) (by omega)]; omega
theorem vb_num : ∀ (q : List Nat) (x : Nat), (∀ y ∈ q, 128 ≤ y ∧ y < 256) → x < 128 → (q = [] ∨ x ≠ 0) → vb (num (q ++ [x])) = q ++ [x]
  | [], x, _, hx, _ => by
    rw [List.nil_append, num, num, show x % 128 + 128 * 0 = x by omega, vb_small hx]
  | y :: q, x, hq, hx, h => by
    have h0 : x ≠ 0 := h.resolve_left (by simp)
    have hy := hq y (List.mem_cons_self ..)
    have hp : 1 ≤ 128 ^ q.length := Nat.pow_pos (by omega)
    have h1 : 1 ≤ num (q ++ [x]) := by
      rw [num_snoc, Nat.mod_eq_of_lt hx]
      have : 1 * 1 ≤ x * 128 ^ q.length := Nat.mul_le_mul (by omega) hp
      omega
    rw [List.cons_append, num, vb_big (by omega)]
    rw [show (y % 128 + 128 * num (q ++ [x])) % 128 + 128 = y by omega, show (y % 128 + 128 * num (q ++ [x])) / 128 = num (q ++ [x]) by omega]
    rw [vb_num q x (fun z hz => hq z (List.mem_cons_of_mem _ hz)) hx (Or.inr h0)]
def lead : List Nat → Nat
  | [] => 0
  | x :: s => if 128 ≤ x then lead s + 1 else 0
theorem lead_le : ∀ s : List Nat, lead s ≤ s.length
  | [] => Nat.le_refl _
  | x :: s => by
    rw [lead]
    split
    · simpa using lead_le s
    · simp
theorem lead_hi : ∀ (s : List Nat) (j : Nat), j < lead s → 128 ≤ s.getD j 0
  | [], j, h => absurd h (by simp [lead])
  | x :: s, 0, h => by
    rw [lead] at h
    split at h
    · assumption
    · omega
  | x :: s, j + 1, h => by
    rw [lead] at h
    split at h
    · simpa using lead_hi s j (by omega)
    · omega
theorem lead_lo : ∀ s : List Nat, lead s < s.length → s.getD (lead s) 0 < 128
  | [], h => absurd h (by simp)
  | x :: s, h => by
    by_cases hx : 128 ≤ x
    · rw [lead, if_pos hx] at h ⊢
      simpa using lead_lo s (by simpa using h)
    · rw [lead, if_neg hx]
      simpa using Nat.lt_of_not_le hx
theorem lead_vb : ∀ (s n : Nat) (r : List Nat), (vb n).length = s → lead (vb n ++ r) + 1 = (vb n).length
  | 0, n, r, h => by have := vb_length_pos n; omega
  | s + 1, n, r, h => by
    by_cases h1 : n < 128
    · rw [vb_small h1]; simp only [List.cons_append, lead, if_neg (show ¬ 128 ≤ n by omega), List.length_cons, List.length_nil]
    · rw [vb_big h1, List.length_cons] at h ⊢
      rw [List.cons_append, lead, if_pos (by omega), lead_vb s (n / 128) r (by omega)]
def vbad (s : List Nat) (i : Nat) : Prop := (s.getD i 0 = 0 ∧ 0 < i) ∨ (i = 9 ∧ 1 < s.getD i 0)
instance (s : List Nat) (i : Nat) : Decidable (vbad s i) := by unfold vbad; infer_instance
def vtake (s : List Nat) : Nat × List Nat × Nat :=
  if 10 ≤ lead s then (0, [], 3) else if lead s = s.length then (0, [], 2) else if vbad s (lead s) then (0, [], 3)
  else (num (s.take (lead s + 1)), s.drop (lead s + 1), 0)
theorem take_snoc {s : List Nat} {i : Nat} (h : i < s.length) : s.take (i + 1) = s.take i ++ [s.getD i 0] := by
  rw [List.take_succ_eq_append_getElem h, List.getD_eq_getElem?_getD, List.getElem?_eq_getElem h]; rfl
theorem take_hi {s : List Nat} {i : Nat} (hs : ∀ x ∈ s, x < 256) (hi : i ≤ lead s) : ∀ y ∈ s.take i, 128 ≤ y ∧ y < 256 := by
  intro y hy
  refine ⟨?_, hs y (List.mem_of_mem_take hy)⟩
  obtain ⟨j, hj, rfl⟩ := List.mem_iff_getElem.1 hy
  rw [List.length_take] at hj
  have := lead_hi s j (by omega)
  rw [List.getD_eq_getElem?_getD, List.getElem?_eq_getElem (by omega)] at this
  rw [List.getElem_take]
  exact this
theorem canon {s : List Nat} (hs : ∀ x ∈ s, x < 256) (h10 : lead s < 10) (hl : lead s < s.length) (hb : ¬ vbad s (lead s)) :
    num (s.take (lead s + 1)) < 18446744073709551616 ∧ vb (num (s.take (lead s + 1))) = s.take (lead s + 1) := by
  have hx := lead_lo s hl
  have hn := num_lt (s.take (lead s))
  rw [List.length_take, Nat.min_eq_left (by omega)] at hn
  unfold vbad at hb
  refine ⟨?_, ?_⟩
  · rw [take_snoc hl, num_snoc, List.length_take, Nat.min_eq_left (by omega), Nat.mod_eq_of_lt hx]
    rcases Nat.lt_or_ge (lead s) 9 with h9 | h9
    · have h3 : (128 : Nat) ^ (lead s) ≤ 128 ^ 8 := Nat.pow_le_pow_right (by omega) (by omega)
      have h4 : s.getD (lead s) 0 * 128 ^ (lead s) ≤ 127 * 128 ^ 8 := Nat.mul_le_mul (by omega) h3
      omega
    · have h9' : lead s = 9 := by omega
      have h5 : s.getD (lead s) 0 ≤ 1 := by omega
      have h4 : s.getD (lead s) 0 * 128 ^ (lead s) ≤ 1 * 128 ^ 9 := Nat.mul_le_mul h5 (by rw [h9']; exact Nat.le_refl _)
      rw [h9'] at hn h4 ⊢
      omega
  · rw [take_snoc hl]
    refine vb_num _ _ (take_hi hs (Nat.le_refl _)) hx ?_
    by_cases h0 : lead s = 0
    · left; rw [h0]; rfl
    · right; omega
theorem not_canon {s : List Nat} (h10 : lead s < 10) (hl : lead s < s.length) (hb : vbad s (lead s)) :
    vb (num (s.take (lead s + 1)) % 18446744073709551616) ≠ s.take (lead s + 1) := by
  intro h
  have hx := lead_lo s hl
  have e := congrArg num h
  rw [num_vb] at e
  have hlen := congrArg List.length h
  rw [List.length_take, Nat.min_eq_left (by omega)] at hlen
  rcases hb with ⟨h0, hi⟩ | ⟨h9, h1⟩
  · have h2 : num (s.take (lead s + 1)) < 128 ^ lead s := by
      rw [take_snoc hl, h0, num_snoc]
      have := num_lt (s.take (lead s))
      rw [List.length_take, Nat.min_eq_left (by omega)] at this
      simpa using this
    rw [← e] at h2
    have := vb_len_le (lead s) _ hi h2
    omega
  · have h2 : 2 * 128 ^ 9 ≤ num (s.take (lead s + 1)) := by
      rw [take_snoc hl, num_snoc, List.length_take, Nat.min_eq_left (by omega), Nat.mod_eq_of_lt hx, h9]
      have : 2 * 128 ^ 9 ≤ s.getD 9 0 * 128 ^ 9 := Nat.mul_le_mul (by rw [h9] at h1; omega) (Nat.le_refl _)
      omega
    have h3 : num (s.take (lead s + 1)) % 18446744073709551616 < 18446744073709551616 := Nat.mod_lt _ (by omega)
    omega
theorem vtake_vb {n : Nat} (h : n < 18446744073709551616) (r : List Nat) : vtake (vb n ++ r) = (n, r, 0) := by
  have hl := lead_vb _ n r rfl
  have h10 := vb_length_le10 h
  have hp := vb_length_pos n
  have e1 : (vb n ++ r).take (lead (vb n ++ r) + 1) = vb n := by rw [hl, List.take_left]
  have hlt : lead (vb n ++ r) < (vb n ++ r).length := by rw [List.length_append]; omega
  unfold vtake
  rw [if_neg (by omega), if_neg (by omega), if_neg, hl, List.take_left, List.drop_left, num_vb]
  intro hb
  refine not_canon (by omega) hlt hb ?_
  rw [e1, num_vb, Nat.mod_eq_of_lt h]
theorem vtake_ok {s : List Nat} (hs : ∀ x ∈ s, x < 256) (h : (vtake s).2.2 = 0) : (vtake s).1 < 18446744073709551616 ∧ vb (vtake s).1 ++ (vtake s).2.1 = s := by
  unfold vtake at h ⊢
  by_cases h1 : 10 ≤ lead s
  · rw [if_pos h1] at h; exact absurd h (by simp)
  rw [if_neg h1] at h ⊢
  by_cases h2 : lead s = s.length
  · rw [if_pos h2] at h; exact absurd h (by simp)
  rw [if_neg h2] at h ⊢
  by_cases h3 : vbad s (lead s)
  · rw [if_pos h3] at h; exact absurd h (by simp)
  rw [if_neg h3]
  obtain ⟨c1, c2⟩ := canon hs (by omega) (Nat.lt_of_le_of_ne (lead_le s) h2) h3
  refine ⟨c1, ?_⟩
  rw [c2, List.take_append_drop]
theorem vtake_rest {s : List Nat} : (vtake s).2.1.length ≤ s.length ∧ ∀ x ∈ (vtake s).2.1, x ∈ s := by
  unfold vtake
  split
  · simp
  split
  · simp
  split
  · simp
  · refine ⟨by simp, fun x hx => List.mem_of_mem_drop hx⟩
theorem vtake_lt {s : List Nat} (hs : ∀ x ∈ s, x < 256) : (vtake s).1 < 18446744073709551616 := by
  unfold vtake
  split
  · simp
  split
  · simp
  split
  · simp
  · have := lead_le s
    exact (canon hs (by omega) (by omega) (by assumption)).1
def isLen (n l : Nat) : Prop := n < 2 ^ l ∧ (l = 0 ∨ 2 ^ (l - 1) ≤ n)
instance (n l : Nat) : Decidable (isLen n l) := by unfold isLen; infer_instance
theorem isLen_up {n l m : Nat} (hn : 2 ^ m ≤ n) (h : isLen (n / 2 ^ m) l) : isLen n (l + m) := by
  obtain ⟨h1, h2⟩ := h
  have hp : 0 < 2 ^ m := Nat.two_pow_pos m
  have hq : 1 ≤ n / 2 ^ m := (Nat.le_div_iff_mul_le hp).2 (by omega)
  have hl : l ≠ 0 := by
    intro h0
    rw [h0] at h1
    omega
  refine ⟨?_, Or.inr ?_⟩
  · rw [Nat.pow_add]; exact (Nat.div_lt_iff_lt_mul hp).1 h1
  · have h3 := h2.resolve_left hl
    rw [show l + m - 1 = (l - 1) + m by omega, Nat.pow_add]
    exact (Nat.le_div_iff_mul_le hp).1 h3
theorem isLen_vb {n l : Nat} (h : isLen n l) : ((vb n).length : Int) = if 1 < (l + 6) / 7 then (((l + 6) / 7 : Nat) : Int) else 1 := by
  obtain ⟨h1, h2⟩ := h
  have hle : n < 128 ^ ((l + 6) / 7) := by
    rw [show (128 : Nat) = 2 ^ 7 from rfl, ← Nat.pow_mul]
    exact Nat.lt_of_lt_of_le h1 (Nat.pow_le_pow_right (by omega) (by omega))
  split
  · next hs =>
    have hge : 128 ^ ((l + 6) / 7 - 1) ≤ n := by
      rw [show (128 : Nat) = 2 ^ 7 from rfl, ← Nat.pow_mul]
      exact Nat.le_trans (Nat.pow_le_pow_right (by omega) (by omega)) (h2.resolve_left (by omega))
    have a := vb_len_le _ n (by omega) hle
    have b := vb_len_ge _ n hge
    omega
  · next hs =>
    have h128 : n < 128 := by
      refine Nat.lt_of_lt_of_le hle ?_
      exact Nat.le_trans (Nat.pow_le_pow_right (by omega) (show (l + 6) / 7 ≤ 1 by omega)) (by simp)
    rw [vb_small h128]; rfl
def stp (c : Nat) : Nat := if c % 2 = 1 then (c / 2) ^^^ 3988292384 else c / 2
def ent (i : Nat) : Nat := stp (stp (stp (stp (stp (stp (stp (stp i)))))))
def tbl : List Nat := (List.range 256).map ent
def mor (t : List Nat) : Nat → List Nat → Nat
  | c, [] => c
  | c, x :: b => mor t (t.getD ((c % 256) ^^^ x) 0 ^^^ (c / 256)) b
def csum (t b : List Nat) : Nat := mor t 4294967295 b ^^^ 4294967295
theorem tbl_length : tbl.length = 256 := by simp [tbl]
theorem tbl_lt : ∀ x ∈ tbl, x < 4294967296 := by decide +kernel
theorem nxt_lt {t : List Nat} (ht : ∀ x ∈ t, x < 4294967296) (c x : Nat) (hc : c < 4294967296) : t.getD ((c % 256) ^^^ x) 0 ^^^ (c / 256) < 4294967296 :=
  xor_lt32 (getD_lt ht (by omega)) (by omega)
theorem mor_lt {t : List Nat} (ht : ∀ x ∈ t, x < 4294967296) : ∀ (b : List Nat) (c : Nat), c < 4294967296 → mor t c b < 4294967296
  | [], c, hc => hc
  | x :: b, c, hc => mor_lt ht b _ (nxt_lt ht c x hc)
theorem mor_append (t : List Nat) : ∀ (a b : List Nat) (c : Nat), mor t c (a ++ b) = mor t (mor t c a) b
  | [], b, c => rfl
  | x :: a, b, c => mor_append t a b _
theorem csum_lt {t : List Nat} (ht : ∀ x ∈ t, x < 4294967296) (b : List Nat) : csum t b < 4294967296 := xor_lt32 (mor_lt ht b _ (by omega)) (by omega)
theorem tbl_at {j : Nat} (h : j < 256) : tbl.getD j 0 = ent j := by
  simp only [tbl, List.getD_eq_getElem?_getD, List.getElem?_map, List.getElem?_range h, Option.map_some, Option.getD_some]
theorem xor_mod256 {c x : Nat} (hx : x < 256) : (c ^^^ x) % 256 = (c % 256) ^^^ x := by
  have := Nat.xor_mod_two_pow (a := c) (b := x) (n := 8)
  rw [show (2 : Nat) ^ 8 = 256 from rfl, Nat.mod_eq_of_lt hx] at this
  exact this
def four (c : Nat) : List Nat := [c % 256, c / 256 % 256, c / 65536 % 256, c / 16777216 % 256]
theorem four_lt (c : Nat) : ∀ x ∈ four c, x < 256 := by
  intro x hx
  simp only [four, List.mem_cons, List.not_mem_nil, or_false] at hx
  omega
theorem four_length (c : Nat) : (four c).length = 4 := rfl
def sealed (t b : List Nat) : List Nat := b ++ four (csum t b)
theorem sealed_length (t b : List Nat) : (sealed t b).length = b.length + 4 := by simp [sealed, four_length]
theorem sealed_lt (t : List Nat) {b : List Nat} (hb : ∀ x ∈ b, x < 256) : ∀ x ∈ sealed t b, x < 256 := by
  intro x hx
  rcases List.mem_append.1 hx with h | h
  · exact hb x h
  · exact four_lt _ x h
def opened (t s : List Nat) : List Nat × Nat := if s.length < 4 then ([], 2) else if four (csum t (s.take (s.length - 4))) = s.drop (s.length - 4) then (s.take (s.length - 4), 0) else ([], 4)
theorem open_sealed (t b : List Nat) : opened t (sealed t b) = (b, 0) := by
  unfold opened
  rw [sealed_length, if_neg (by omega), show b.length + 4 - 4 = b.length by omega]
  unfold sealed
  rw [List.take_left, List.drop_left, if_pos rfl]
/-- The lengths of bytes in bits. -/
def lenL : List Int := [0, 1, 2, 2, 3, 3, 3, 3, 4, 4, 4, 4, 4, 4, 4, 4, 5, 5, 5, 5, 5, 5, 5, 5, 5, 5, 5, 5, 5, 5, 5, 5, 6, 6, 6, 6, 6, 6, 6, 6, 6, 6, 6, 6, 6, 6, 6, 6, 6, 6, 6, 6, 6, 6, 6, 6, 6, 6, 6, 6, 6, 6, 6, 6, 7, 7, 7, 7, 7, 7, 7, 7, 7, 7, 7, 7, 7, 7, 7, 7, 7, 7, 7, 7, 7, 7, 7, 7, 7, 7, 7, 7, 7, 7, 7, 7, 7, 7, 7, 7, 7, 7, 7, 7, 7, 7, 7, 7, 7, 7, 7, 7, 7, 7, 7, 7, 7, 7, 7, 7, 7, 7, 7, 7, 7, 7, 7, 7, 8, 8, 8, 8, 8, 8, 8, 8, 8, 8, 8, 8, 8, 8, 8, 8, 8, 8, 8, 8, 8, 8, 8, 8, 8, 8, 8, 8, 8, 8, 8, 8, 8, 8, 8, 8, 8, 8, 8, 8, 8, 8, 8, 8, 8, 8, 8, 8, 8, 8, 8, 8, 8, 8, 8, 8, 8, 8, 8, 8, 8, 8, 8, 8, 8, 8, 8, 8, 8, 8, 8, 8, 8, 8, 8, 8, 8, 8, 8, 8, 8, 8, 8, 8, 8, 8, 8, 8, 8, 8, 8, 8, 8, 8, 8, 8, 8, 8, 8, 8, 8, 8, 8, 8, 8, 8, 8, 8, 8, 8, 8, 8, 8, 8, 8, 8, 8, 8, 8, 8, 8, 8, 8, 8, 8, 8, 8, 8]
theorem lenL_at : ∀ v ∈ List.range 256, ∃ l ∈ List.range 9, lenL[v]? = some (l : Int) ∧ isLen v l := by decide +kernel
def bl (n : Nat) : Nat := if n = 0 then 0 else bl (n / 2) + 1
termination_by n
decreasing_by omega
theorem isLen_bl (n : Nat) : isLen n (bl n) := by
  induction n using Nat.strongRecOn with
  | ind n ih =>
    by_cases h : n = 0
    · rw [bl, if_pos h, h]; exact ⟨by decide, .inl rfl⟩
    · rw [bl, if_neg h]
      by_cases h1 : n = 1
      · subst h1
        have e : bl (1 / 2) = 0 := by rw [bl]; rfl
        rw [e]; exact ⟨by decide, .inr (by decide)⟩
      · exact isLen_up (m := 1) (by omega) (by simpa using ih (n / 2) (by omega))
theorem isLen_unique {n a b : Nat} (ha : isLen n a) (hb : isLen n b) : a = b := by
  obtain ⟨a1, a2⟩ := ha
  obtain ⟨b1, b2⟩ := hb
  rcases Nat.lt_trichotomy a b with h | h | h
  · have h1 : 2 ^ a ≤ 2 ^ (b - 1) := Nat.pow_le_pow_right (by omega) (by omega)
    have := b2.resolve_left (by omega)
    omega
  · exact h
  · have h1 : 2 ^ b ≤ 2 ^ (a - 1) := Nat.pow_le_pow_right (by omega) (by omega)
    have := a2.resolve_left (by omega)
    omega
def u8 (n : Nat) : PV := .int .u8 n
def u32 (n : Nat) : PV := .int .u32 n
attribute [simp] u8 u32
/-- Bytes. -/
@[simp] abbrev bV (l : List Nat) (o : Bool) : PV := .lst 1 (l.map u8) o
end Go.Proofs.Ytmpomnnaoggdkaa.E
/- The functions of this claim as operations on plain values. -/
namespace Go.Proofs.Ytmpomnnaoggdkaa.E
open Go Go.RowKit Go.Proofs
set_option linter.unusedVariables false
set_option maxRecDepth 100000
def p2 : PFn :=
  ⟨1, [], .region [
     ⟨some 0, none, .callF 1 [] []⟩]⟩
theorem t2 : compF Try.prog {} 2 = some p2 := by kernel_rfl
def p3 : PFn :=
  ⟨34, [.t 2], .seq
    (.region [
      ⟨some 2, none, .mv true (.c (.bool false))⟩])
    (.seq
     (.seq
      (.region [
        ⟨some 7, none, .mv false (.t 0)⟩,
        ⟨some 8, none, .callF 6 [.t 7, .c (.int .i64 120), .c (.int .i64 3000)] []⟩,
        ⟨some 9, none, .un .not (.t 8)⟩])
      (.cond (.t 9)
       (.seq
        (.region [
          ⟨some 10, none, .callF 7 [] []⟩,
          ⟨some 2, none, .mv true (.t 10)⟩])
        .ret)
       .skip))
     (.seq
      (.region [
        ⟨some 12, none, .mv false (.t 0)⟩,
        ⟨some 13, none, .callF 8 [.t 12] []⟩,
        ⟨some 11, none, .mv true (.t 13)⟩,
        ⟨some 14, none, .ext true (.t 11) 0⟩,
        ⟨some 15, none, .ext false (.t 11) 1⟩,
        ⟨some 3, none, .mv true (.t 14)⟩,
        ⟨some 4, none, .mv true (.t 15)⟩])
      (.seq
       (.region [
         ⟨some 17, none, .mv false (.t 0)⟩,
         ⟨some 18, none, .callF 9 [.t 17] []⟩,
         ⟨some 16, none, .mv true (.t 18)⟩,
         ⟨some 19, none, .ext true (.t 16) 0⟩,
         ⟨some 20, none, .ext false (.t 16) 1⟩,
         ⟨some 5, none, .mv true (.t 19)⟩,
         ⟨some 6, none, .mv true (.t 20)⟩])
       (.seq
        (.region [
          ⟨some 21, none, .callF 7 [] []⟩,
          ⟨some 22, none, .mv false (.t 21)⟩,
          ⟨some 23, some (22, true), .mv false (.t 3)⟩,
          ⟨some 24, some (22, true), .cvS (.t 23)⟩,
          ⟨some 25, some (22, true), .mv false (.t 5)⟩,
          ⟨some 26, some (22, true), .cvS (.t 25)⟩,
          ⟨some 27, some (22, true), .bin .eql (.t 24) (.t 26)⟩,
          ⟨some 28, none, .pick (.t 22) (.t 27) (.c (.bool false))⟩,
          ⟨some 29, none, .mv false (.t 28)⟩,
          ⟨some 30, some (29, true), .mv false (.t 4)⟩,
          ⟨some 31, some (29, true), .mv false (.t 6)⟩,
          ⟨some 32, some (29, true), .bin .eql (.t 30) (.t 31)⟩,
          ⟨some 33, none, .pick (.t 29) (.t 32) (.c (.bool false))⟩,
          ⟨some 2, none, .mv true (.t 33)⟩])
        .ret))))⟩
theorem t3 : compF Try.prog {} 3 = some p3 := by kernel_rfl
def p4 : PFn :=
  ⟨124, [.t 4], .seq
    (.region [
      ⟨some 4, none, .mv true (.c (.bool false))⟩])
    (.seq
     (.seq
      (.region [
        ⟨some 18, none, .mv false (.t 0)⟩,
        ⟨some 19, none, .callF 6 [.t 18, .c (.int .i64 120), .c (.int .i64 3000)] []⟩,
        ⟨some 20, none, .un .not (.t 19)⟩,
        ⟨some 21, none, .mv false (.t 20)⟩,
        ⟨some 22, some (21, false), .mv false (.t 1)⟩,
        ⟨some 23, some (21, false), .len false (.t 22)⟩,
        ⟨some 24, some (21, false), .bin .gtr (.t 23) (.c (.int .i64 3000))⟩,
        ⟨some 25, none, .pick (.t 21) (.c (.bool true)) (.t 24)⟩])
      (.cond (.t 25)
       (.seq
        (.region [
          ⟨some 26, none, .callF 7 [] []⟩,
          ⟨some 4, none, .mv true (.t 26)⟩])
        .ret)
       .skip))
     (.seq
      (.region [
        ⟨some 28, none, .mv false (.t 0)⟩,
        ⟨some 29, none, .callF 8 [.t 28] []⟩,
        ⟨some 27, none, .mv true (.t 29)⟩,
        ⟨some 30, none, .ext true (.t 27) 0⟩,
        ⟨some 31, none, .ext false (.t 27) 1⟩,
        ⟨some 5, none, .mv true (.t 30)⟩,
        ⟨some 6, none, .mv true (.t 31)⟩])
      (.seq
       (.seq
        (.region [
          ⟨some 7, none, .mv true (.c (.int .i64 0))⟩])
        (.block 0
         (.loop
          (.seq
           (.seq
            (.region [
              ⟨some 32, none, .mv false (.t 6)⟩,
              ⟨some 33, none, .bin .eql (.t 32) (.c (.int .i64 0))⟩,
              ⟨some 34, none, .mv false (.t 33)⟩,
              ⟨some 35, some (34, true), .mv false (.t 7)⟩,
              ⟨some 36, some (34, true), .mv false (.t 0)⟩,
              ⟨some 37, some (34, true), .len false (.t 36)⟩,
              ⟨some 38, some (34, true), .bin .lss (.t 35) (.t 37)⟩,
              ⟨some 39, none, .pick (.t 34) (.t 38) (.c (.bool false))⟩])
            (.cond (.t 39)
             .skip
             (.exit 0)))
           (.seq
            (.block 1
             (.seq
              (.region [
                ⟨some 43, none, .mv false (.t 5)⟩,
                ⟨some 44, none, .mv false (.t 0)⟩,
                ⟨some 45, none, .mv false (.t 7)⟩,
                ⟨some 46, none, .iad 1 (.t 44) (.t 45)⟩,
                ⟨some 47, none, .ld 1 false false (.t 46)⟩,
                ⟨some 48, none, .iad 1 (.t 47) (.c (.int .i64 0))⟩,
                ⟨some 49, none, .ld 1 false false (.t 48)⟩,
                ⟨some 50, none, .callF 10 [.t 43, .t 49] []⟩,
                ⟨some 42, none, .mv true (.t 50)⟩,
                ⟨some 51, none, .ext false (.t 42) 0⟩,
                ⟨some 52, none, .ext false (.t 42) 1⟩,
                ⟨some 8, none, .mv true (.t 51)⟩,
                ⟨some 9, none, .mv true (.t 52)⟩])
              (.seq
               (.region [
                 ⟨some 53, none, .mv false (.t 9)⟩,
                 ⟨some 54, none, .bin .neq (.t 53) (.c (.int .i64 0))⟩,
                 ⟨some 55, none, .mv false (.t 54)⟩,
                 ⟨some 56, some (55, false), .mv false (.t 8)⟩,
                 ⟨some 57, some (55, false), .mv false (.t 0)⟩,
                 ⟨some 58, some (55, false), .mv false (.t 7)⟩,
                 ⟨some 59, some (55, false), .iad 1 (.t 57) (.t 58)⟩,
                 ⟨some 60, some (55, false), .ld 1 false false (.t 59)⟩,
                 ⟨some 61, some (55, false), .iad 1 (.t 60) (.c (.int .i64 1))⟩,
                 ⟨some 62, some (55, false), .ld 1 false false (.t 61)⟩,
                 ⟨some 63, some (55, false), .bin .neq (.t 56) (.t 62)⟩,
                 ⟨some 64, none, .pick (.t 55) (.c (.bool true)) (.t 63)⟩])
               (.cond (.t 64)
                (.seq
                 (.region [
                   ⟨some 4, none, .mv true (.c (.bool false))⟩])
                 .ret)
                .skip))))
            (.region [
              ⟨some 40, none, .mv false (.t 7)⟩,
              ⟨some 41, none, .bin .add (.t 40) (.c (.int .i64 1))⟩,
              ⟨some 7, none, .mv true (.t 41)⟩]))))))
       (.seq
        (.region [
          ⟨some 66, none, .mv false (.t 5)⟩,
          ⟨some 67, none, .callF 11 [.t 66] []⟩,
          ⟨some 65, none, .mv true (.t 67)⟩,
          ⟨some 68, none, .ext true (.t 65) 0⟩,
          ⟨some 69, none, .ext false (.t 65) 1⟩,
          ⟨some 70, none, .ext false (.t 65) 2⟩,
          ⟨some 10, none, .mv true (.t 68)⟩,
          ⟨some 11, none, .mv true (.t 69)⟩,
          ⟨some 12, none, .mv true (.t 70)⟩])
        (.seq
         (.seq
          (.region [
            ⟨some 71, none, .mv false (.t 6)⟩,
            ⟨some 72, none, .bin .eql (.t 71) (.c (.int .i64 0))⟩,
            ⟨some 73, none, .mv false (.t 72)⟩,
            ⟨some 74, some (73, true), .mv false (.t 12)⟩,
            ⟨some 75, some (73, true), .bin .neq (.t 74) (.c (.int .i64 0))⟩,
            ⟨some 76, some (73, true), .mv false (.t 75)⟩,
            ⟨some 77, some (76, false), .mv false (.t 11)⟩,
            ⟨some 78, some (76, false), .mv false (.t 5)⟩,
            ⟨some 79, some (76, false), .len false (.t 78)⟩,
            ⟨some 80, some (76, false), .bin .neq (.t 77) (.t 79)⟩,
            ⟨some 81, some (73, true), .pick (.t 76) (.c (.bool true)) (.t 80)⟩,
            ⟨some 82, some (73, true), .mv false (.t 81)⟩,
            ⟨some 83, some (82, false), .mv false (.t 5)⟩,
            ⟨some 84, some (82, false), .callF 12 [.t 83] []⟩,
            ⟨some 85, some (82, false), .un .not (.t 84)⟩,
            ⟨some 86, some (73, true), .pick (.t 82) (.c (.bool true)) (.t 85)⟩,
            ⟨some 87, some (73, true), .mv false (.t 86)⟩,
            ⟨some 88, some (87, false), .mv false (.t 10)⟩,
            ⟨some 89, some (87, false), .callF 14 [.t 88] []⟩,
            ⟨some 90, some (87, false), .mv false (.t 0)⟩,
            ⟨some 91, some (87, false), .callF 13 [.t 89, .t 90] []⟩,
            ⟨some 92, some (87, false), .un .not (.t 91)⟩,
            ⟨some 93, some (73, true), .pick (.t 87) (.c (.bool true)) (.t 92)⟩,
            ⟨some 94, none, .pick (.t 73) (.t 93) (.c (.bool false))⟩])
          (.cond (.t 94)
           (.seq
            (.region [
              ⟨some 4, none, .mv true (.c (.bool false))⟩])
            .ret)
           .skip))
         (.seq
          (.region [
            ⟨some 96, none, .mv false (.t 1)⟩,
            ⟨some 97, none, .callF 11 [.t 96] []⟩,
            ⟨some 95, none, .mv true (.t 97)⟩,
            ⟨some 98, none, .ext true (.t 95) 0⟩,
            ⟨some 99, none, .ext false (.t 95) 1⟩,
            ⟨some 100, none, .ext false (.t 95) 2⟩,
            ⟨some 13, none, .mv true (.t 98)⟩,
            ⟨some 14, none, .mv true (.t 99)⟩,
            ⟨some 15, none, .mv true (.t 100)⟩])
          (.seq
           (.region [
             ⟨some 102, none, .mv false (.t 13)⟩,
             ⟨some 103, none, .callF 14 [.t 102] []⟩,
             ⟨some 104, none, .callF 8 [.t 103] []⟩,
             ⟨some 101, none, .mv true (.t 104)⟩,
             ⟨some 105, none, .ext true (.t 101) 0⟩,
             ⟨some 106, none, .ext false (.t 101) 1⟩,
             ⟨some 16, none, .mv true (.t 105)⟩,
             ⟨some 17, none, .mv true (.t 106)⟩])
           (.seq
            (.region [
              ⟨some 107, none, .callF 7 [] []⟩,
              ⟨some 108, none, .mv false (.t 107)⟩,
              ⟨some 109, some (108, true), .mv false (.t 1)⟩,
              ⟨some 110, some (108, true), .callF 12 [.t 109] []⟩,
              ⟨some 111, some (108, true), .un .not (.t 110)⟩,
              ⟨some 112, some (108, true), .mv false (.t 111)⟩,
              ⟨some 113, some (112, false), .mv false (.t 17)⟩,
              ⟨some 114, some (112, false), .bin .eql (.t 113) (.c (.int .i64 0))⟩,
              ⟨some 115, some (112, false), .mv false (.t 114)⟩,
              ⟨some 116, some (115, true), .mv false (.t 16)⟩,
              ⟨some 117, some (115, true), .cvS (.t 116)⟩,
              ⟨some 118, some (115, true), .mv false (.t 1)⟩,
              ⟨some 119, some (115, true), .cvS (.t 118)⟩,
              ⟨some 120, some (115, true), .bin .eql (.t 117) (.t 119)⟩,
              ⟨some 121, some (112, false), .pick (.t 115) (.t 120) (.c (.bool false))⟩,
              ⟨some 122, some (108, true), .pick (.t 112) (.c (.bool true)) (.t 121)⟩,
              ⟨some 123, none, .pick (.t 108) (.t 122) (.c (.bool false))⟩,
              ⟨some 4, none, .mv true (.t 123)⟩])
            .ret))))))))⟩
theorem t4 : compF Try.prog {} 4 = some p4 := by kernel_rfl
def p5 : PFn :=
  ⟨147, [.t 4], .seq
    (.region [
      ⟨some 4, none, .mv true (.c (.bool false))⟩])
    (.seq
     (.seq
      (.region [
        ⟨some 17, none, .mv false (.t 0)⟩,
        ⟨some 18, none, .len false (.t 17)⟩,
        ⟨some 19, none, .bin .gtr (.t 18) (.c (.int .i64 3000))⟩])
      (.cond (.t 19)
       (.seq
        (.region [
          ⟨some 20, none, .callF 7 [] []⟩,
          ⟨some 4, none, .mv true (.t 20)⟩])
        .ret)
       .skip))
     (.seq
      (.region [
        ⟨some 22, none, .mv false (.t 0)⟩,
        ⟨some 23, none, .callF 11 [.t 22] []⟩,
        ⟨some 21, none, .mv true (.t 23)⟩,
        ⟨some 24, none, .ext true (.t 21) 0⟩,
        ⟨some 25, none, .ext false (.t 21) 1⟩,
        ⟨some 26, none, .ext false (.t 21) 2⟩,
        ⟨some 5, none, .mv true (.t 24)⟩,
        ⟨some 6, none, .mv true (.t 25)⟩,
        ⟨some 7, none, .mv true (.t 26)⟩])
      (.seq
       (.region [
         ⟨some 28, none, .mv false (.t 0)⟩,
         ⟨some 29, none, .callF 15 [.t 28] []⟩,
         ⟨some 27, none, .mv true (.t 29)⟩,
         ⟨some 30, none, .ext true (.t 27) 0⟩,
         ⟨some 31, none, .ext false (.t 27) 1⟩,
         ⟨some 32, none, .ext false (.t 27) 2⟩,
         ⟨some 8, none, .mv true (.t 30)⟩,
         ⟨some 9, none, .mv true (.t 31)⟩,
         ⟨some 10, none, .mv true (.t 32)⟩])
       (.seq
        (.seq
         (.region [
           ⟨some 33, none, .mv false (.t 5)⟩,
           ⟨some 34, none, .len false (.t 33)⟩,
           ⟨some 35, none, .mv false (.t 8)⟩,
           ⟨some 36, none, .len false (.t 35)⟩,
           ⟨some 37, none, .bin .gtr (.t 34) (.t 36)⟩,
           ⟨some 38, none, .mv false (.t 37)⟩,
           ⟨some 39, some (38, false), .mv false (.t 8)⟩,
           ⟨some 40, some (38, false), .len false (.t 39)⟩,
           ⟨some 41, some (38, false), .mv false (.t 9)⟩,
           ⟨some 42, some (38, false), .len false (.t 41)⟩,
           ⟨some 43, some (38, false), .bin .neq (.t 40) (.t 42)⟩,
           ⟨some 44, none, .pick (.t 38) (.c (.bool true)) (.t 43)⟩,
           ⟨some 45, none, .mv false (.t 44)⟩,
           ⟨some 46, some (45, false), .mv false (.t 10)⟩,
           ⟨some 47, some (45, false), .bin .neq (.t 46) (.c (.int .i64 0))⟩,
           ⟨some 48, some (45, false), .mv false (.t 47)⟩,
           ⟨some 49, some (48, true), .mv false (.t 8)⟩,
           ⟨some 50, some (48, true), .len false (.t 49)⟩,
           ⟨some 51, some (48, true), .bin .gtr (.t 50) (.c (.int .i64 0))⟩,
           ⟨some 52, some (45, false), .pick (.t 48) (.t 51) (.c (.bool false))⟩,
           ⟨some 53, none, .pick (.t 45) (.c (.bool true)) (.t 52)⟩])
         (.cond (.t 53)
          (.seq
           (.region [
             ⟨some 4, none, .mv true (.c (.bool false))⟩])
           .ret)
          .skip))
        (.seq
         (.region [
           ⟨some 11, none, .mv true (.c (.bool false))⟩])
         (.seq
          (.seq
           (.region [
             ⟨some 12, none, .mv true (.c (.int .i64 0))⟩])
           (.block 0
            (.loop
             (.seq
              (.seq
               (.region [
                 ⟨some 54, none, .mv false (.t 12)⟩,
                 ⟨some 55, none, .mv false (.t 8)⟩,
                 ⟨some 56, none, .len false (.t 55)⟩,
                 ⟨some 57, none, .bin .lss (.t 54) (.t 56)⟩])
               (.cond (.t 57)
                .skip
                (.exit 0)))
              (.seq
               (.block 1
                (.seq
                 (.region [
                   ⟨some 61, none, .mv false (.t 0)⟩,
                   ⟨some 62, none, .mv false (.t 8)⟩,
                   ⟨some 63, none, .mv false (.t 12)⟩,
                   ⟨some 64, none, .iad 1 (.t 62) (.t 63)⟩,
                   ⟨some 65, none, .ld 1 false false (.t 64)⟩,
                   ⟨some 66, none, .callF 10 [.t 61, .t 65] []⟩,
                   ⟨some 60, none, .mv true (.t 66)⟩,
                   ⟨some 67, none, .ext false (.t 60) 0⟩,
                   ⟨some 68, none, .ext false (.t 60) 1⟩,
                   ⟨some 13, none, .mv true (.t 67)⟩,
                   ⟨some 14, none, .mv true (.t 68)⟩])
                 (.seq
                  (.seq
                   (.draw [
                     ⟨some 69, none, .mv false (.t 12)⟩,
                     ⟨some 70, none, .mv false (.t 5)⟩,
                     ⟨some 71, none, .len false (.t 70)⟩,
                     ⟨some 72, none, .bin .lss (.t 69) (.t 71)⟩,
                     ⟨some 73, none, .mv false (.t 72)⟩,
                     ⟨some 74, some (73, true), .mv false (.t 14)⟩,
                     ⟨some 75, some (73, true), .bin .neq (.t 74) (.c (.int .i64 0))⟩,
                     ⟨some 76, some (73, true), .mv false (.t 75)⟩,
                     ⟨some 77, some (76, false), .mv false (.t 13)⟩,
                     ⟨some 78, some (76, false), .len true (.t 77)⟩,
                     ⟨some 79, some (76, false), .mv false (.t 9)⟩,
                     ⟨some 80, some (76, false), .mv false (.t 12)⟩,
                     ⟨some 81, some (76, false), .iad 1 (.t 79) (.t 80)⟩,
                     ⟨some 82, some (76, false), .ld 1 false false (.t 81)⟩,
                     ⟨some 83, some (76, false), .bin .neq (.t 78) (.t 82)⟩,
                     ⟨some 84, some (73, true), .pick (.t 76) (.c (.bool true)) (.t 83)⟩,
                     ⟨some 85, some (73, true), .mv false (.t 84)⟩,
                     ⟨some 86, some (85, false), .mv false (.t 5)⟩,
                     ⟨some 87, some (85, false), .mv false (.t 12)⟩,
                     ⟨some 88, some (85, false), .iad 2 (.t 86) (.t 87)⟩,
                     ⟨some 89, some (85, false), .fad 1 (.t 88)⟩,
                     ⟨some 90, some (85, false), .ld 1 false false (.t 89)⟩,
                     ⟨some 91, some (85, false), .mv false (.t 8)⟩,
                     ⟨some 92, some (85, false), .mv false (.t 12)⟩,
                     ⟨some 93, some (85, false), .iad 1 (.t 91) (.t 92)⟩,
                     ⟨some 94, some (85, false), .ld 1 false false (.t 93)⟩,
                     ⟨some 95, some (85, false), .mv false (.t 13)⟩,
                     ⟨some 96, some (85, false), .bsl 1 2 false [.str [], .str []] [(0, .t 94), (1, .t 95)] false⟩,
                     ⟨some 97, some (85, false), .bsl 1 1 false [.lst 0 [] true] [(0, .t 96)] false⟩,
                     ⟨some 98, some (85, false), .callF 13 [.t 90, .t 97] []⟩,
                     ⟨some 99, some (85, false), .un .not (.t 98)⟩,
                     ⟨some 100, some (73, true), .pick (.t 85) (.c (.bool true)) (.t 99)⟩,
                     ⟨some 101, none, .pick (.t 73) (.t 100) (.c (.bool false))⟩,
                     ⟨some 102, none, .mv false (.t 101)⟩,
                     ⟨some 103, some (102, false), .mv false (.t 12)⟩,
                     ⟨some 104, some (102, false), .mv false (.t 5)⟩,
                     ⟨some 105, some (102, false), .len false (.t 104)⟩,
                     ⟨some 106, some (102, false), .bin .geq (.t 103) (.t 105)⟩,
                     ⟨some 107, some (102, false), .mv false (.t 106)⟩,
                     ⟨some 108, some (107, true), .mv false (.t 14)⟩,
                     ⟨some 109, some (107, true), .bin .neq (.t 108) (.c (.int .i64 16))⟩,
                     ⟨some 110, some (102, false), .pick (.t 107) (.t 109) (.c (.bool false))⟩,
                     ⟨some 111, none, .pick (.t 102) (.c (.bool true)) (.t 110)⟩] [])
                   (.cond (.t 111)
                    (.seq
                     (.region [
                       ⟨some 4, none, .mv true (.c (.bool false))⟩])
                     .ret)
                    .skip))
                  (.region [
                    ⟨some 112, none, .mv false (.t 11)⟩,
                    ⟨some 113, none, .mv false (.t 112)⟩,
                    ⟨some 114, some (113, false), .mv false (.t 8)⟩,
                    ⟨some 115, some (113, false), .mv false (.t 12)⟩,
                    ⟨some 116, some (113, false), .iad 1 (.t 114) (.t 115)⟩,
                    ⟨some 117, some (113, false), .ld 1 false false (.t 116)⟩,
                    ⟨some 118, some (113, false), .mv false (.t 1)⟩,
                    ⟨some 119, some (113, false), .bin .eql (.t 117) (.t 118)⟩,
                    ⟨some 120, none, .pick (.t 113) (.c (.bool true)) (.t 119)⟩,
                    ⟨some 11, none, .mv true (.t 120)⟩]))))
               (.region [
                 ⟨some 58, none, .mv false (.t 12)⟩,
                 ⟨some 59, none, .bin .add (.t 58) (.c (.int .i64 1))⟩,
                 ⟨some 12, none, .mv true (.t 59)⟩]))))))
          (.seq
           (.region [
             ⟨some 122, none, .mv false (.t 0)⟩,
             ⟨some 123, none, .mv false (.t 1)⟩,
             ⟨some 124, none, .callF 10 [.t 122, .t 123] []⟩,
             ⟨some 121, none, .mv true (.t 124)⟩,
             ⟨some 125, none, .ext false (.t 121) 0⟩,
             ⟨some 126, none, .ext false (.t 121) 1⟩,
             ⟨some 15, none, .mv true (.t 125)⟩,
             ⟨some 16, none, .mv true (.t 126)⟩])
           (.seq
            (.region [
              ⟨some 127, none, .callF 7 [] []⟩,
              ⟨some 128, none, .mv false (.t 127)⟩,
              ⟨some 129, some (128, true), .mv false (.t 10)⟩,
              ⟨some 130, some (128, true), .bin .neq (.t 129) (.c (.int .i64 0))⟩,
              ⟨some 131, some (128, true), .mv false (.t 130)⟩,
              ⟨some 132, some (131, true), .mv false (.t 16)⟩,
              ⟨some 133, some (131, true), .bin .eql (.t 132) (.c (.int .i64 3))⟩,
              ⟨some 134, some (128, true), .pick (.t 131) (.t 133) (.c (.bool false))⟩,
              ⟨some 135, some (128, true), .mv false (.t 134)⟩,
              ⟨some 136, some (135, false), .mv false (.t 10)⟩,
              ⟨some 137, some (135, false), .bin .eql (.t 136) (.c (.int .i64 0))⟩,
              ⟨some 138, some (135, false), .mv false (.t 137)⟩,
              ⟨some 139, some (138, true), .mv false (.t 16)⟩,
              ⟨some 140, some (138, true), .bin .eql (.t 139) (.c (.int .i64 6))⟩,
              ⟨some 141, some (138, true), .mv false (.t 11)⟩,
              ⟨some 142, some (138, true), .un .not (.t 141)⟩,
              ⟨some 143, some (138, true), .binB false (.t 140) (.t 142)⟩,
              ⟨some 144, some (135, false), .pick (.t 138) (.t 143) (.c (.bool false))⟩,
              ⟨some 145, some (128, true), .pick (.t 135) (.c (.bool true)) (.t 144)⟩,
              ⟨some 146, none, .pick (.t 128) (.t 145) (.c (.bool false))⟩,
              ⟨some 4, none, .mv true (.t 146)⟩])
            .ret))))))))⟩
theorem t5 : compF Try.prog {} 5 = some p5 := by kernel_rfl
def p6 : PFn :=
  ⟨43, [.t 6], .seq
    (.region [
      ⟨some 6, none, .mv true (.c (.bool false))⟩])
    (.seq
     (.region [
       ⟨some 7, none, .mv true (.c (.int .i64 0))⟩])
     (.seq
      (.seq
       (.region [
         ⟨some 8, none, .mv true (.c (.int .i64 0))⟩])
       (.block 0
        (.loop
         (.seq
          (.seq
           (.region [
             ⟨some 10, none, .mv false (.t 8)⟩,
             ⟨some 11, none, .mv false (.t 0)⟩,
             ⟨some 12, none, .len false (.t 11)⟩,
             ⟨some 13, none, .bin .lss (.t 10) (.t 12)⟩])
           (.cond (.t 13)
            .skip
            (.exit 0)))
          (.seq
           (.block 1
            (.seq
             (.region [
               ⟨some 9, none, .mv true (.c (.int .i64 0))⟩])
             (.block 2
              (.loop
               (.seq
                (.seq
                 (.region [
                   ⟨some 16, none, .mv false (.t 9)⟩,
                   ⟨some 17, none, .mv false (.t 0)⟩,
                   ⟨some 18, none, .mv false (.t 8)⟩,
                   ⟨some 19, none, .iad 1 (.t 17) (.t 18)⟩,
                   ⟨some 20, none, .ld 1 false false (.t 19)⟩,
                   ⟨some 21, none, .len false (.t 20)⟩,
                   ⟨some 22, none, .bin .lss (.t 16) (.t 21)⟩])
                 (.cond (.t 22)
                  .skip
                  (.exit 2)))
                (.seq
                 (.block 3
                  (.seq
                   (.region [
                     ⟨some 25, none, .mv false (.t 7)⟩,
                     ⟨some 26, none, .bin .add (.t 25) (.c (.int .i64 1))⟩,
                     ⟨some 27, none, .mv false (.t 0)⟩,
                     ⟨some 28, none, .mv false (.t 8)⟩,
                     ⟨some 29, none, .iad 1 (.t 27) (.t 28)⟩,
                     ⟨some 30, none, .ld 1 false false (.t 29)⟩,
                     ⟨some 31, none, .mv false (.t 9)⟩,
                     ⟨some 32, none, .iad 1 (.t 30) (.t 31)⟩,
                     ⟨some 33, none, .ld 1 false false (.t 32)⟩,
                     ⟨some 34, none, .len true (.t 33)⟩,
                     ⟨some 35, none, .bin .add (.t 26) (.t 34)⟩,
                     ⟨some 7, none, .mv true (.t 35)⟩])
                   (.seq
                    (.region [
                      ⟨some 36, none, .mv false (.t 7)⟩,
                      ⟨some 37, none, .mv false (.t 2)⟩,
                      ⟨some 38, none, .bin .gtr (.t 36) (.t 37)⟩])
                    (.cond (.t 38)
                     (.seq
                      (.region [
                        ⟨some 6, none, .mv true (.c (.bool false))⟩])
                      .ret)
                     .skip))))
                 (.region [
                   ⟨some 23, none, .mv false (.t 9)⟩,
                   ⟨some 24, none, .bin .add (.t 23) (.c (.int .i64 1))⟩,
                   ⟨some 9, none, .mv true (.t 24)⟩])))))))
           (.region [
             ⟨some 14, none, .mv false (.t 8)⟩,
             ⟨some 15, none, .bin .add (.t 14) (.c (.int .i64 1))⟩,
             ⟨some 8, none, .mv true (.t 15)⟩]))))))
      (.seq
       (.region [
         ⟨some 39, none, .mv false (.t 0)⟩,
         ⟨some 40, none, .len false (.t 39)⟩,
         ⟨some 41, none, .mv false (.t 1)⟩,
         ⟨some 42, none, .bin .leq (.t 40) (.t 41)⟩,
         ⟨some 6, none, .mv true (.t 42)⟩])
       .ret)))⟩
theorem t6 : compF Try.prog {} 6 = some p6 := by kernel_rfl
def p7 : PFn :=
  ⟨51, [.t 0], .seq
    (.region [
      ⟨some 0, none, .mv true (.c (.bool false))⟩])
    (.seq
     (.region [
       ⟨some 10, none, .bsl 1 2 false [.str [], .str []] [(0, .c (.str [97])), (1, .c (.str [120]))] false⟩,
       ⟨some 11, none, .bsl 1 2 false [.str [], .str []] [(0, .c (.str [98])), (1, .c (.str []))] false⟩,
       ⟨some 12, none, .bsl 1 2 false [.lst 0 [] true, .lst 0 [] true] [(0, .t 10), (1, .t 11)] false⟩,
       ⟨some 13, none, .callF 8 [.t 12] []⟩,
       ⟨some 9, none, .mv true (.t 13)⟩,
       ⟨some 14, none, .ext true (.t 9) 0⟩,
       ⟨some 15, none, .ext false (.t 9) 1⟩,
       ⟨some 1, none, .mv true (.t 14)⟩,
       ⟨some 2, none, .mv true (.t 15)⟩])
     (.seq
      (.region [
        ⟨some 17, none, .mv false (.t 1)⟩,
        ⟨some 18, none, .callF 10 [.t 17, .c (.str [97])] []⟩,
        ⟨some 16, none, .mv true (.t 18)⟩,
        ⟨some 19, none, .ext false (.t 16) 0⟩,
        ⟨some 20, none, .ext false (.t 16) 1⟩,
        ⟨some 3, none, .mv true (.t 19)⟩,
        ⟨some 4, none, .mv true (.t 20)⟩])
      (.seq
       (.region [
         ⟨some 22, none, .mv false (.t 1)⟩,
         ⟨some 23, none, .callF 10 [.t 22, .c (.str [99])] []⟩,
         ⟨some 21, none, .mv true (.t 23)⟩,
         ⟨some 24, none, .ext false (.t 21) 0⟩,
         ⟨some 25, none, .ext false (.t 21) 1⟩,
         ⟨some 5, none, .mv true (.t 24)⟩,
         ⟨some 6, none, .mv true (.t 25)⟩])
       (.seq
        (.region [
          ⟨some 27, none, .bsl 1 2 false [.str [], .str []] [(0, .c (.str [98])), (1, .c (.str []))] false⟩,
          ⟨some 28, none, .bsl 1 2 false [.str [], .str []] [(0, .c (.str [97])), (1, .c (.str []))] false⟩,
          ⟨some 29, none, .bsl 1 2 false [.lst 0 [] true, .lst 0 [] true] [(0, .t 27), (1, .t 28)] false⟩,
          ⟨some 30, none, .callF 8 [.t 29] []⟩,
          ⟨some 26, none, .mv true (.t 30)⟩,
          ⟨some 31, none, .ext true (.t 26) 0⟩,
          ⟨some 32, none, .ext false (.t 26) 1⟩,
          ⟨some 7, none, .mv true (.t 31)⟩,
          ⟨some 8, none, .mv true (.t 32)⟩])
        (.seq
         (.region [
           ⟨some 33, none, .mv false (.t 2)⟩,
           ⟨some 34, none, .bin .eql (.t 33) (.c (.int .i64 0))⟩,
           ⟨some 35, none, .mv false (.t 34)⟩,
           ⟨some 36, some (35, true), .mv false (.t 3)⟩,
           ⟨some 37, some (35, true), .bin .eql (.t 36) (.c (.str [120]))⟩,
           ⟨some 38, none, .pick (.t 35) (.t 37) (.c (.bool false))⟩,
           ⟨some 39, none, .mv false (.t 38)⟩,
           ⟨some 40, some (39, true), .mv false (.t 4)⟩,
           ⟨some 41, some (39, true), .bin .eql (.t 40) (.c (.int .i64 0))⟩,
           ⟨some 42, none, .pick (.t 39) (.t 41) (.c (.bool false))⟩,
           ⟨some 43, none, .mv false (.t 42)⟩,
           ⟨some 44, some (43, true), .mv false (.t 6)⟩,
           ⟨some 45, some (43, true), .bin .eql (.t 44) (.c (.int .i64 6))⟩,
           ⟨some 46, none, .pick (.t 43) (.t 45) (.c (.bool false))⟩,
           ⟨some 47, none, .mv false (.t 46)⟩,
           ⟨some 48, some (47, true), .mv false (.t 8)⟩,
           ⟨some 49, some (47, true), .bin .eql (.t 48) (.c (.int .i64 10))⟩,
           ⟨some 50, none, .pick (.t 47) (.t 49) (.c (.bool false))⟩,
           ⟨some 0, none, .mv true (.t 50)⟩])
         .ret)))))⟩
theorem t7 : compF Try.prog {} 7 = some p7 := by kernel_rfl
def p8 : PFn :=
  ⟨84, [.t 2, .t 3], .seq
    (.region [
      ⟨some 2, none, .mv true (.c (.lst 0 [] true))⟩,
      ⟨some 3, none, .mv true (.c (.int .i64 0))⟩])
    (.seq
     (.seq
      (.region [
        ⟨some 11, none, .mv false (.t 0)⟩,
        ⟨some 12, none, .len false (.t 11)⟩,
        ⟨some 13, none, .bin .gtr (.t 12) (.c (.int .i64 1000))⟩])
      (.cond (.t 13)
       (.seq
        (.region [
          ⟨some 2, none, .mv true (.c (.lst 0 [] true))⟩,
          ⟨some 3, none, .mv true (.c (.int .i64 10))⟩])
        .ret)
       .skip))
     (.seq
      (.region [
        ⟨some 14, none, .mv false (.t 0)⟩,
        ⟨some 15, none, .len false (.t 14)⟩,
        ⟨some 16, none, .cvI .u64 (.t 15)⟩,
        ⟨some 17, none, .callF 16 [.c (.lst 0 [] true), .t 16] []⟩,
        ⟨some 18, none, .callF 17 [] []⟩,
        ⟨some 4, none, .mv true (.t 17)⟩,
        ⟨some 5, none, .mv true (.t 18)⟩])
      (.seq
       (.region [
         ⟨some 6, none, .mv true (.c (.lst 0 [] true))⟩])
       (.seq
        (.seq
         (.region [
           ⟨some 19, none, .mv false (.t 0)⟩,
           ⟨some 20, none, .len false (.t 19)⟩,
           ⟨some 21, none, .mv false (.c (.int .i64 0))⟩])
         (.block 0
          (.loop
           (.seq
            (.region [
              ⟨some 22, none, .bin .lss (.t 21) (.t 20)⟩])
            (.seq
             (.cond (.t 22)
              .skip
              (.exit 0))
             (.seq
              (.block 1
               (.seq
                (.region [
                  ⟨some 23, none, .mv true (.t 21)⟩,
                  ⟨some 24, none, .iad 1 (.t 19) (.t 21)⟩,
                  ⟨some 25, none, .ld 1 false false (.t 24)⟩,
                  ⟨some 7, none, .mv true (.t 23)⟩,
                  ⟨some 8, none, .mv true (.t 25)⟩])
                (.seq
                 (.seq
                  (.draw [
                    ⟨some 26, none, .mv false (.t 8)⟩,
                    ⟨some 27, none, .callF 18 [.t 26] []⟩,
                    ⟨some 28, none, .un .not (.t 27)⟩,
                    ⟨some 29, none, .mv false (.t 28)⟩,
                    ⟨some 30, some (29, false), .mv false (.t 7)⟩,
                    ⟨some 31, some (29, false), .bin .gtr (.t 30) (.c (.int .i64 0))⟩,
                    ⟨some 32, some (29, false), .mv false (.t 31)⟩,
                    ⟨some 33, some (32, true), .mv false (.t 0)⟩,
                    ⟨some 34, some (32, true), .mv false (.t 7)⟩,
                    ⟨some 35, some (32, true), .bin .sub (.t 34) (.c (.int .i64 1))⟩,
                    ⟨some 36, some (32, true), .iad 1 (.t 33) (.t 35)⟩,
                    ⟨some 37, some (32, true), .ld 1 false false (.t 36)⟩,
                    ⟨some 38, some (32, true), .iad 1 (.t 37) (.c (.int .i64 0))⟩,
                    ⟨some 39, some (32, true), .ld 1 false false (.t 38)⟩,
                    ⟨some 40, some (32, true), .mv false (.t 8)⟩,
                    ⟨some 41, some (32, true), .iad 1 (.t 40) (.c (.int .i64 0))⟩,
                    ⟨some 42, some (32, true), .ld 1 false false (.t 41)⟩,
                    ⟨some 43, some (32, true), .bin .geq (.t 39) (.t 42)⟩,
                    ⟨some 44, some (29, false), .pick (.t 32) (.t 43) (.c (.bool false))⟩,
                    ⟨some 45, none, .pick (.t 29) (.c (.bool true)) (.t 44)⟩] [])
                  (.cond (.t 45)
                   (.seq
                    (.region [
                      ⟨some 2, none, .mv true (.c (.lst 0 [] true))⟩,
                      ⟨some 3, none, .mv true (.c (.int .i64 10))⟩])
                    .ret)
                   .skip))
                 (.seq
                  (.draw [
                    ⟨some 46, none, .mv false (.t 4)⟩,
                    ⟨some 47, none, .mv false (.t 8)⟩,
                    ⟨some 48, none, .iad 1 (.t 47) (.c (.int .i64 0))⟩,
                    ⟨some 49, none, .ld 1 false false (.t 48)⟩,
                    ⟨some 50, none, .callF 19 [.t 46, .t 49] []⟩,
                    ⟨some 51, none, .mv false (.t 8)⟩,
                    ⟨some 52, none, .iad 1 (.t 51) (.c (.int .i64 1))⟩,
                    ⟨some 53, none, .ld 1 false false (.t 52)⟩,
                    ⟨some 54, none, .len true (.t 53)⟩,
                    ⟨some 55, none, .cvI .u64 (.t 54)⟩,
                    ⟨some 56, none, .callF 16 [.t 50, .t 55] []⟩,
                    ⟨some 4, none, .mv true (.t 56)⟩] [])
                  (.seq
                   (.region [
                     ⟨some 58, none, .mv false (.t 5)⟩,
                     ⟨some 59, none, .mv false (.t 8)⟩,
                     ⟨some 60, none, .iad 1 (.t 59) (.c (.int .i64 1))⟩,
                     ⟨some 61, none, .ld 1 false false (.t 60)⟩,
                     ⟨some 62, none, .cvB (.t 61)⟩,
                     ⟨some 63, none, .callF 20 [.t 58, .t 62] []⟩,
                     ⟨some 57, none, .mv true (.t 63)⟩,
                     ⟨some 64, none, .ext true (.t 57) 0⟩,
                     ⟨some 65, none, .ext false (.t 57) 1⟩,
                     ⟨some 9, none, .mv true (.t 64)⟩,
                     ⟨some 10, none, .mv true (.t 65)⟩])
                   (.region [
                     ⟨some 66, none, .mv true (.t 6)⟩,
                     ⟨some 67, none, .mv false (.t 9)⟩,
                     ⟨some 68, none, .app 1 1 (.t 66) (.t 67)⟩,
                     ⟨some 6, none, .mv true (.t 68)⟩]))))))
              (.region [
                ⟨some 69, none, .bin .add (.t 21) (.c (.int .i64 1))⟩,
                ⟨some 21, none, .mv false (.t 69)⟩])))))))
        (.seq
         (.region [
           ⟨some 71, none, .mv false (.t 5)⟩,
           ⟨some 72, none, .mv false (.t 4)⟩,
           ⟨some 73, none, .callF 20 [.t 71, .t 72] []⟩,
           ⟨some 70, none, .mv true (.t 73)⟩,
           ⟨some 74, none, .ext true (.t 70) 0⟩,
           ⟨some 75, none, .ext false (.t 70) 1⟩,
           ⟨some 4, none, .mv true (.t 74)⟩])
         (.seq
          (.region [
            ⟨some 76, none, .mv false (.t 4)⟩,
            ⟨some 77, none, .len false (.t 76)⟩,
            ⟨some 78, none, .cvI .u64 (.t 77)⟩,
            ⟨some 79, none, .callF 16 [.c (.lst 0 [] true), .t 78] []⟩,
            ⟨some 80, none, .mv false (.t 4)⟩,
            ⟨some 81, none, .mv false (.t 6)⟩,
            ⟨some 82, none, .bsl 1 3 false [.lst 0 [] true, .lst 0 [] true, .lst 0 [] true] [(0, .t 79), (1, .t 80), (2, .t 81)] false⟩,
            ⟨some 83, none, .callF 21 [.t 82] []⟩,
            ⟨some 2, none, .mv true (.t 83)⟩,
            ⟨some 3, none, .mv true (.c (.int .i64 0))⟩])
          .ret))))))⟩
theorem t8 : compF Try.prog {} 8 = some p8 := by kernel_rfl
def p9 : PFn :=
  ⟨100, [.t 2, .t 3], .seq
    (.region [
      ⟨some 2, none, .mv true (.c (.lst 0 [] true))⟩,
      ⟨some 3, none, .mv true (.c (.int .i64 0))⟩])
    (.seq
     (.seq
      (.region [
        ⟨some 10, none, .mv false (.t 0)⟩,
        ⟨some 11, none, .len false (.t 10)⟩,
        ⟨some 12, none, .bin .gtr (.t 11) (.c (.int .i64 1000))⟩])
      (.cond (.t 12)
       (.seq
        (.region [
          ⟨some 2, none, .mv true (.c (.lst 0 [] true))⟩,
          ⟨some 3, none, .mv true (.c (.int .i64 10))⟩])
        .ret)
       .skip))
     (.seq
      (.region [
        ⟨some 13, none, .mv false (.t 0)⟩,
        ⟨some 14, none, .len false (.t 13)⟩,
        ⟨some 15, none, .cvI .u64 (.t 14)⟩,
        ⟨some 16, none, .callF 22 [.c (.lst 0 [] true), .t 15] []⟩,
        ⟨some 4, none, .mv true (.t 16)⟩])
      (.seq
       (.region [
         ⟨some 17, none, .bsl 1 0 false [] [] false⟩,
         ⟨some 5, none, .mv true (.t 17)⟩])
       (.seq
        (.seq
         (.region [
           ⟨some 6, none, .mv true (.c (.int .i64 0))⟩])
         (.block 0
          (.loop
           (.seq
            (.seq
             (.region [
               ⟨some 18, none, .mv false (.t 6)⟩,
               ⟨some 19, none, .mv false (.t 0)⟩,
               ⟨some 20, none, .len false (.t 19)⟩,
               ⟨some 21, none, .bin .lss (.t 18) (.t 20)⟩])
             (.cond (.t 21)
              .skip
              (.exit 0)))
            (.seq
             (.block 1
              (.seq
               (.region [
                 ⟨some 24, none, .mv false (.t 0)⟩,
                 ⟨some 25, none, .mv false (.t 6)⟩,
                 ⟨some 26, none, .iad 1 (.t 24) (.t 25)⟩,
                 ⟨some 27, none, .ld 1 false false (.t 26)⟩,
                 ⟨some 7, none, .mv true (.t 27)⟩])
               (.seq
                (.seq
                 (.draw [
                   ⟨some 28, none, .mv false (.t 7)⟩,
                   ⟨some 29, none, .len false (.t 28)⟩,
                   ⟨some 30, none, .bin .neq (.t 29) (.c (.int .i64 2))⟩,
                   ⟨some 31, none, .mv false (.t 30)⟩,
                   ⟨some 32, some (31, false), .mv false (.t 7)⟩,
                   ⟨some 33, some (31, false), .iad 1 (.t 32) (.c (.int .i64 0))⟩,
                   ⟨some 34, some (31, false), .ld 1 false false (.t 33)⟩,
                   ⟨some 35, some (31, false), .len true (.t 34)⟩,
                   ⟨some 36, some (31, false), .bin .lss (.t 35) (.c (.int .i64 1))⟩,
                   ⟨some 37, none, .pick (.t 31) (.c (.bool true)) (.t 36)⟩,
                   ⟨some 38, none, .mv false (.t 37)⟩,
                   ⟨some 39, some (38, false), .mv false (.t 7)⟩,
                   ⟨some 40, some (38, false), .iad 1 (.t 39) (.c (.int .i64 0))⟩,
                   ⟨some 41, some (38, false), .ld 1 false false (.t 40)⟩,
                   ⟨some 42, some (38, false), .len true (.t 41)⟩,
                   ⟨some 43, some (38, false), .bin .gtr (.t 42) (.c (.int .i64 100))⟩,
                   ⟨some 44, none, .pick (.t 38) (.c (.bool true)) (.t 43)⟩,
                   ⟨some 45, none, .mv false (.t 44)⟩,
                   ⟨some 46, some (45, false), .mv false (.t 7)⟩,
                   ⟨some 47, some (45, false), .iad 1 (.t 46) (.c (.int .i64 1))⟩,
                   ⟨some 48, some (45, false), .ld 1 false false (.t 47)⟩,
                   ⟨some 49, some (45, false), .len true (.t 48)⟩,
                   ⟨some 50, some (45, false), .bin .gtr (.t 49) (.c (.int .i64 1000))⟩,
                   ⟨some 51, none, .pick (.t 45) (.c (.bool true)) (.t 50)⟩,
                   ⟨some 52, none, .mv false (.t 51)⟩,
                   ⟨some 53, some (52, false), .mv false (.t 6)⟩,
                   ⟨some 54, some (52, false), .bin .gtr (.t 53) (.c (.int .i64 0))⟩,
                   ⟨some 55, some (52, false), .mv false (.t 54)⟩,
                   ⟨some 56, some (55, true), .mv false (.t 0)⟩,
                   ⟨some 57, some (55, true), .mv false (.t 6)⟩,
                   ⟨some 58, some (55, true), .bin .sub (.t 57) (.c (.int .i64 1))⟩,
                   ⟨some 59, some (55, true), .iad 1 (.t 56) (.t 58)⟩,
                   ⟨some 60, some (55, true), .ld 1 false false (.t 59)⟩,
                   ⟨some 61, some (55, true), .iad 1 (.t 60) (.c (.int .i64 0))⟩,
                   ⟨some 62, some (55, true), .ld 1 false false (.t 61)⟩,
                   ⟨some 63, some (55, true), .mv false (.t 7)⟩,
                   ⟨some 64, some (55, true), .iad 1 (.t 63) (.c (.int .i64 0))⟩,
                   ⟨some 65, some (55, true), .ld 1 false false (.t 64)⟩,
                   ⟨some 66, some (55, true), .bin .geq (.t 62) (.t 65)⟩,
                   ⟨some 67, some (52, false), .pick (.t 55) (.t 66) (.c (.bool false))⟩,
                   ⟨some 68, none, .pick (.t 52) (.c (.bool true)) (.t 67)⟩] [])
                 (.cond (.t 68)
                  (.seq
                   (.region [
                     ⟨some 2, none, .mv true (.c (.lst 0 [] true))⟩,
                     ⟨some 3, none, .mv true (.c (.int .i64 10))⟩])
                   .ret)
                  .skip))
                (.seq
                 (.region [
                   ⟨some 69, none, .mv false (.t 4)⟩,
                   ⟨some 70, none, .mv false (.t 7)⟩,
                   ⟨some 71, none, .iad 1 (.t 70) (.c (.int .i64 0))⟩,
                   ⟨some 72, none, .ld 1 false false (.t 71)⟩,
                   ⟨some 73, none, .callF 23 [.t 69, .t 72] []⟩,
                   ⟨some 4, none, .mv true (.t 73)⟩])
                 (.seq
                  (.region [
                    ⟨some 74, none, .mv false (.t 4)⟩,
                    ⟨some 75, none, .mv false (.t 7)⟩,
                    ⟨some 76, none, .iad 1 (.t 75) (.c (.int .i64 1))⟩,
                    ⟨some 77, none, .ld 1 false false (.t 76)⟩,
                    ⟨some 78, none, .len true (.t 77)⟩,
                    ⟨some 79, none, .cvI .u64 (.t 78)⟩,
                    ⟨some 80, none, .callF 22 [.t 74, .t 79] []⟩,
                    ⟨some 4, none, .mv true (.t 80)⟩])
                  (.region [
                    ⟨some 81, none, .mv true (.t 5)⟩,
                    ⟨some 82, none, .mv false (.t 7)⟩,
                    ⟨some 83, none, .iad 1 (.t 82) (.c (.int .i64 1))⟩,
                    ⟨some 84, none, .ld 1 false false (.t 83)⟩,
                    ⟨some 85, none, .cvB (.t 84)⟩,
                    ⟨some 86, none, .callF 24 [.t 85] []⟩,
                    ⟨some 87, none, .app 1 1 (.t 81) (.t 86)⟩,
                    ⟨some 5, none, .mv true (.t 87)⟩]))))))
             (.region [
               ⟨some 22, none, .mv false (.t 6)⟩,
               ⟨some 23, none, .bin .add (.t 22) (.c (.int .i64 1))⟩,
               ⟨some 6, none, .mv true (.t 23)⟩]))))))
        (.seq
         (.region [
           ⟨some 88, none, .mv false (.t 4)⟩,
           ⟨some 89, none, .callF 24 [.t 88] []⟩,
           ⟨some 8, none, .mv true (.t 89)⟩])
         (.seq
          (.region [
            ⟨some 90, none, .mv false (.t 8)⟩,
            ⟨some 91, none, .len false (.t 90)⟩,
            ⟨some 92, none, .cvI .u64 (.t 91)⟩,
            ⟨some 93, none, .callF 22 [.c (.lst 0 [] true), .t 92] []⟩,
            ⟨some 9, none, .mv true (.t 93)⟩])
          (.seq
           (.region [
             ⟨some 94, none, .mv true (.t 9)⟩,
             ⟨some 95, none, .mv false (.t 8)⟩,
             ⟨some 96, none, .app 1 1 (.t 94) (.t 95)⟩,
             ⟨some 9, none, .mv true (.t 96)⟩])
           (.seq
            (.region [
              ⟨some 97, none, .mv true (.t 9)⟩,
              ⟨some 98, none, .mv false (.t 5)⟩,
              ⟨some 99, none, .app 1 1 (.t 97) (.t 98)⟩,
              ⟨some 2, none, .mv true (.t 99)⟩,
              ⟨some 3, none, .mv true (.c (.int .i64 0))⟩])
            .ret))))))))⟩
theorem t9 : compF Try.prog {} 9 = some p9 := by kernel_rfl
def p10 : PFn :=
  ⟨48, [.t 4, .t 5], .seq
    (.region [
      ⟨some 3, none, .bxI 1 (.t 1)⟩,
      ⟨some 4, none, .mv true (.c (.str []))⟩,
      ⟨some 5, none, .mv true (.c (.int .i64 0))⟩])
    (.seq
     (.region [
       ⟨some 14, none, .mv false (.t 0)⟩,
       ⟨some 15, none, .callF 25 [.t 14] []⟩,
       ⟨some 13, none, .mv true (.t 15)⟩,
       ⟨some 16, none, .ext true (.t 13) 0⟩,
       ⟨some 17, none, .ext false (.t 13) 1⟩,
       ⟨some 18, none, .ext false (.t 13) 2⟩,
       ⟨some 6, none, .mv true (.t 16)⟩,
       ⟨some 7, none, .mv true (.t 17)⟩,
       ⟨some 8, none, .mv true (.t 18)⟩])
     (.seq
      (.seq
       (.region [
         ⟨some 19, none, .mv false (.t 8)⟩,
         ⟨some 20, none, .bin .neq (.t 19) (.c (.int .i64 0))⟩])
       (.cond (.t 20)
        (.seq
         (.region [
           ⟨some 21, none, .mv true (.t 8)⟩,
           ⟨some 4, none, .mv true (.c (.str []))⟩,
           ⟨some 5, none, .mv true (.t 21)⟩])
         .ret)
        .skip))
      (.seq
       (.region [
         ⟨some 23, none, .mv false (.t 0)⟩,
         ⟨some 24, none, .callF 11 [.t 23] []⟩,
         ⟨some 22, none, .mv true (.t 24)⟩,
         ⟨some 25, none, .ext true (.t 22) 0⟩,
         ⟨some 26, none, .ext false (.t 22) 1⟩,
         ⟨some 27, none, .ext false (.t 22) 2⟩,
         ⟨some 9, none, .mv true (.t 25)⟩,
         ⟨some 10, none, .mv true (.t 26)⟩,
         ⟨some 11, none, .mv true (.t 27)⟩])
       (.seq
        (.region [
          ⟨some 28, none, .mv false (.t 6)⟩,
          ⟨some 29, none, .mkf (.func 27) [] [.t 3]⟩,
          ⟨some 30, none, .callF 26 [.t 28, .t 29] []⟩,
          ⟨some 12, none, .mv true (.t 30)⟩])
        (.seq
         (.block 0
          (.seq
           (.region [
             ⟨some 32, none, .mv false (.t 12)⟩,
             ⟨some 33, none, .bin .lss (.t 32) (.c (.int .i64 0))⟩,
             ⟨some 31, none, .mv true (.t 33)⟩])
           (.cond (.t 31)
            (.seq
             (.region [
               ⟨some 4, none, .mv true (.c (.str []))⟩,
               ⟨some 5, none, .mv true (.c (.int .i64 6))⟩])
             .ret)
            (.seq
             (.region [
               ⟨some 35, none, .mv false (.t 12)⟩,
               ⟨some 36, none, .mv false (.t 9)⟩,
               ⟨some 37, none, .len false (.t 36)⟩,
               ⟨some 38, none, .bin .geq (.t 35) (.t 37)⟩,
               ⟨some 34, none, .mv true (.t 38)⟩])
             (.cond (.t 34)
              (.seq
               (.region [
                 ⟨some 4, none, .mv true (.c (.str []))⟩,
                 ⟨some 5, none, .mv true (.c (.int .i64 16))⟩])
               .ret)
              .skip)))))
         (.seq
          (.region [
            ⟨some 39, none, .mv false (.t 9)⟩,
            ⟨some 40, none, .mv false (.t 12)⟩,
            ⟨some 41, none, .iad 2 (.t 39) (.t 40)⟩,
            ⟨some 42, none, .fad 1 (.t 41)⟩,
            ⟨some 43, none, .ld 1 false false (.t 42)⟩,
            ⟨some 44, none, .iad 1 (.t 43) (.c (.int .i64 0))⟩,
            ⟨some 45, none, .ld 1 false false (.t 44)⟩,
            ⟨some 46, none, .iad 1 (.t 45) (.c (.int .i64 1))⟩,
            ⟨some 47, none, .ld 1 false false (.t 46)⟩,
            ⟨some 4, none, .mv true (.t 47)⟩,
            ⟨some 5, none, .mv true (.c (.int .i64 0))⟩])
          .ret))))))⟩
theorem t10 : compF Try.prog { ros := [3] } 10 = some p10 := by kernel_rfl
def p11 : PFn :=
  ⟨77, [.t 2, .t 3, .t 4], .seq
    (.region [
      ⟨some 2, none, .mv true (.c (.lst 0 [] true))⟩,
      ⟨some 3, none, .mv true (.c (.int .i64 0))⟩,
      ⟨some 4, none, .mv true (.c (.int .i64 0))⟩])
    (.seq
     (.region [
       ⟨some 16, none, .mv false (.t 0)⟩,
       ⟨some 17, none, .callF 25 [.t 16] []⟩,
       ⟨some 15, none, .mv true (.t 17)⟩,
       ⟨some 18, none, .ext true (.t 15) 0⟩,
       ⟨some 19, none, .ext false (.t 15) 1⟩,
       ⟨some 20, none, .ext false (.t 15) 2⟩,
       ⟨some 5, none, .mv true (.t 18)⟩,
       ⟨some 6, none, .mv true (.t 19)⟩,
       ⟨some 7, none, .mv true (.t 20)⟩])
     (.seq
      (.seq
       (.region [
         ⟨some 21, none, .mv false (.t 7)⟩,
         ⟨some 22, none, .bin .neq (.t 21) (.c (.int .i64 0))⟩])
       (.cond (.t 22)
        (.seq
         (.region [
           ⟨some 23, none, .mv true (.t 7)⟩,
           ⟨some 2, none, .mv true (.c (.lst 0 [] true))⟩,
           ⟨some 3, none, .mv true (.c (.int .i64 0))⟩,
           ⟨some 4, none, .mv true (.t 23)⟩])
         .ret)
        .skip))
      (.seq
       (.region [
         ⟨some 8, none, .mv true (.c (.lst 0 [] true))⟩])
       (.seq
        (.region [
          ⟨some 24, none, .callF 17 [] []⟩,
          ⟨some 9, none, .mv true (.t 24)⟩])
        (.seq
         (.seq
          (.region [
            ⟨some 25, none, .mv false (.t 5)⟩,
            ⟨some 26, none, .len false (.t 25)⟩,
            ⟨some 27, none, .mv false (.c (.int .i64 0))⟩])
          (.block 0
           (.loop
            (.seq
             (.region [
               ⟨some 28, none, .bin .lss (.t 27) (.t 26)⟩])
             (.seq
              (.cond (.t 28)
               .skip
               (.exit 0))
              (.seq
               (.block 1
                (.seq
                 (.region [
                   ⟨some 29, none, .iad 3 (.t 25) (.t 27)⟩,
                   ⟨some 30, none, .ld 3 true false (.t 29)⟩,
                   ⟨some 11, none, .al [.int .i64 0, .str [], .int .i64 0]⟩,
                   ⟨none, none, .sto 3 (.t 11) (.t 30)⟩])
                 (.seq
                  (.region [
                    ⟨some 31, none, .mv false (.t 6)⟩,
                    ⟨some 32, none, .fad 2 (.t 11)⟩,
                    ⟨some 33, none, .ld 1 false false (.t 32)⟩,
                    ⟨some 34, none, .bin .add (.t 31) (.t 33)⟩,
                    ⟨some 35, none, .bin .add (.t 34) (.c (.int .i64 4))⟩,
                    ⟨some 12, none, .mv true (.t 35)⟩])
                  (.seq
                   (.seq
                    (.region [
                      ⟨some 36, none, .mv false (.t 12)⟩,
                      ⟨some 37, none, .mv false (.t 0)⟩,
                      ⟨some 38, none, .len false (.t 37)⟩,
                      ⟨some 39, none, .bin .gtr (.t 36) (.t 38)⟩])
                    (.cond (.t 39)
                     (.seq
                      (.region [
                        ⟨some 40, none, .mv true (.t 8)⟩,
                        ⟨some 41, none, .mv true (.t 6)⟩,
                        ⟨some 2, none, .mv true (.t 40)⟩,
                        ⟨some 3, none, .mv true (.t 41)⟩,
                        ⟨some 4, none, .mv true (.c (.int .i64 3))⟩])
                      .ret)
                     .skip))
                   (.seq
                    (.region [
                      ⟨some 43, none, .mv false (.t 9)⟩,
                      ⟨some 44, none, .mv false (.t 0)⟩,
                      ⟨some 45, none, .mv false (.t 6)⟩,
                      ⟨some 46, none, .mv false (.t 12)⟩,
                      ⟨some 47, none, .sli 1 (.t 44) (some (.t 45)) (some (.t 46)) none⟩,
                      ⟨some 48, none, .callF 28 [.t 43, .t 47] []⟩,
                      ⟨some 42, none, .mv true (.t 48)⟩,
                      ⟨some 49, none, .ext true (.t 42) 0⟩,
                      ⟨some 50, none, .ext false (.t 42) 1⟩,
                      ⟨some 13, none, .mv true (.t 49)⟩,
                      ⟨some 14, none, .mv true (.t 50)⟩])
                    (.seq
                     (.seq
                      (.region [
                        ⟨some 51, none, .mv false (.t 14)⟩,
                        ⟨some 52, none, .bin .neq (.t 51) (.c (.int .i64 0))⟩])
                      (.cond (.t 52)
                       (.seq
                        (.region [
                          ⟨some 53, none, .mv true (.t 8)⟩,
                          ⟨some 54, none, .mv true (.t 6)⟩,
                          ⟨some 2, none, .mv true (.t 53)⟩,
                          ⟨some 3, none, .mv true (.t 54)⟩,
                          ⟨some 4, none, .mv true (.c (.int .i64 3))⟩])
                        .ret)
                       .skip))
                     (.region [
                       ⟨some 55, none, .mv true (.t 8)⟩,
                       ⟨some 56, none, .fad 0 (.t 11)⟩,
                       ⟨some 57, none, .ld 1 false false (.t 56)⟩,
                       ⟨some 58, none, .fad 1 (.t 11)⟩,
                       ⟨some 59, none, .ld 1 false false (.t 58)⟩,
                       ⟨some 60, none, .mv false (.t 13)⟩,
                       ⟨some 61, none, .cvS (.t 60)⟩,
                       ⟨some 62, none, .bsl 1 2 false [.str [], .str []] [(0, .t 59), (1, .t 61)] false⟩,
                       ⟨some 63, none, .bsl 1 1 false [.lst 0 [] true] [(0, .t 62)] false⟩,
                       ⟨some 64, none, .build [.int .i64 0, .lst 0 [] true] [(0, (1, .t 57)), (1, (1, .t 63))]⟩,
                       ⟨some 65, none, .bsl 2 1 true [.int .i64 0, .lst 0 [] true] [(0, .t 64)] false⟩,
                       ⟨some 66, none, .app 2 32 (.t 55) (.t 65)⟩,
                       ⟨some 67, none, .mv true (.t 12)⟩,
                       ⟨some 8, none, .mv true (.t 66)⟩,
                       ⟨some 6, none, .mv true (.t 67)⟩])))))))
               (.region [
                 ⟨some 68, none, .bin .add (.t 27) (.c (.int .i64 1))⟩,
                 ⟨some 27, none, .mv false (.t 68)⟩])))))))
         (.seq
          (.seq
           (.region [
             ⟨some 69, none, .mv false (.t 6)⟩,
             ⟨some 70, none, .mv false (.t 0)⟩,
             ⟨some 71, none, .len false (.t 70)⟩,
             ⟨some 72, none, .bin .lss (.t 69) (.t 71)⟩])
           (.cond (.t 72)
            (.seq
             (.region [
               ⟨some 73, none, .mv true (.t 8)⟩,
               ⟨some 74, none, .mv true (.t 6)⟩,
               ⟨some 2, none, .mv true (.t 73)⟩,
               ⟨some 3, none, .mv true (.t 74)⟩,
               ⟨some 4, none, .mv true (.c (.int .i64 3))⟩])
             .ret)
            .skip))
          (.seq
           (.region [
             ⟨some 75, none, .mv true (.t 8)⟩,
             ⟨some 76, none, .mv true (.t 6)⟩,
             ⟨some 2, none, .mv true (.t 75)⟩,
             ⟨some 3, none, .mv true (.t 76)⟩,
             ⟨some 4, none, .mv true (.c (.int .i64 0))⟩])
           .ret)))))))⟩
theorem t11 : compF Try.prog {} 11 = some p11 := by kernel_rfl
def p12 : PFn :=
  ⟨14, [.t 2], .seq
    (.region [
      ⟨some 2, none, .mv true (.c (.bool false))⟩])
    (.seq
     (.region [
       ⟨some 7, none, .mv false (.t 0)⟩,
       ⟨some 8, none, .callF 11 [.t 7] []⟩,
       ⟨some 6, none, .mv true (.t 8)⟩,
       ⟨some 9, none, .ext true (.t 6) 0⟩,
       ⟨some 10, none, .ext false (.t 6) 1⟩,
       ⟨some 11, none, .ext false (.t 6) 2⟩,
       ⟨some 3, none, .mv true (.t 9)⟩,
       ⟨some 4, none, .mv true (.t 10)⟩,
       ⟨some 5, none, .mv true (.t 11)⟩])
     (.seq
      (.region [
        ⟨some 12, none, .mv false (.t 5)⟩,
        ⟨some 13, none, .bin .eql (.t 12) (.c (.int .i64 0))⟩,
        ⟨some 2, none, .mv true (.t 13)⟩])
      .ret))⟩
theorem t12 : compF Try.prog {} 12 = some p12 := by kernel_rfl
def p13 : PFn :=
  ⟨27, [.t 4], .seq
    (.region [
      ⟨some 4, none, .mv true (.c (.bool false))⟩])
    (.seq
     (.seq
      (.region [
        ⟨some 6, none, .mv false (.t 0)⟩,
        ⟨some 7, none, .len false (.t 6)⟩,
        ⟨some 8, none, .mv false (.t 1)⟩,
        ⟨some 9, none, .len false (.t 8)⟩,
        ⟨some 10, none, .bin .neq (.t 7) (.t 9)⟩])
      (.cond (.t 10)
       (.seq
        (.region [
          ⟨some 4, none, .mv true (.c (.bool false))⟩])
        .ret)
       .skip))
     (.seq
      (.seq
       (.region [
         ⟨some 5, none, .mv true (.c (.int .i64 0))⟩])
       (.block 0
        (.loop
         (.seq
          (.seq
           (.region [
             ⟨some 11, none, .mv false (.t 5)⟩,
             ⟨some 12, none, .mv false (.t 0)⟩,
             ⟨some 13, none, .len false (.t 12)⟩,
             ⟨some 14, none, .bin .lss (.t 11) (.t 13)⟩])
           (.cond (.t 14)
            .skip
            (.exit 0)))
          (.seq
           (.block 1
            (.seq
             (.draw [
               ⟨some 17, none, .mv false (.t 0)⟩,
               ⟨some 18, none, .mv false (.t 5)⟩,
               ⟨some 19, none, .iad 1 (.t 17) (.t 18)⟩,
               ⟨some 20, none, .ld 1 false false (.t 19)⟩,
               ⟨some 21, none, .mv false (.t 1)⟩,
               ⟨some 22, none, .mv false (.t 5)⟩,
               ⟨some 23, none, .iad 1 (.t 21) (.t 22)⟩,
               ⟨some 24, none, .ld 1 false false (.t 23)⟩,
               ⟨some 25, none, .callF 29 [.t 20, .t 24] []⟩,
               ⟨some 26, none, .un .not (.t 25)⟩] [])
             (.cond (.t 26)
              (.seq
               (.region [
                 ⟨some 4, none, .mv true (.c (.bool false))⟩])
               .ret)
              .skip)))
           (.region [
             ⟨some 15, none, .mv false (.t 5)⟩,
             ⟨some 16, none, .bin .add (.t 15) (.c (.int .i64 1))⟩,
             ⟨some 5, none, .mv true (.t 16)⟩]))))))
      (.seq
       (.region [
         ⟨some 4, none, .mv true (.c (.bool true))⟩])
       .ret)))⟩
theorem t13 : compF Try.prog {} 13 = some p13 := by kernel_rfl
def p14 : PFn :=
  ⟨20, [.t 2], .seq
    (.region [
      ⟨some 2, none, .mv true (.c (.lst 0 [] true))⟩])
    (.seq
     (.region [
       ⟨some 5, none, .bsl 1 0 false [] [] false⟩,
       ⟨some 3, none, .mv true (.t 5)⟩])
     (.seq
      (.seq
       (.region [
         ⟨some 4, none, .mv true (.c (.int .i64 0))⟩])
       (.block 0
        (.loop
         (.seq
          (.seq
           (.region [
             ⟨some 6, none, .mv false (.t 4)⟩,
             ⟨some 7, none, .mv false (.t 0)⟩,
             ⟨some 8, none, .len false (.t 7)⟩,
             ⟨some 9, none, .bin .lss (.t 6) (.t 8)⟩])
           (.cond (.t 9)
            .skip
            (.exit 0)))
          (.seq
           (.block 1
            (.region [
              ⟨some 12, none, .mv true (.t 3)⟩,
              ⟨some 13, none, .mv false (.t 0)⟩,
              ⟨some 14, none, .mv false (.t 4)⟩,
              ⟨some 15, none, .iad 2 (.t 13) (.t 14)⟩,
              ⟨some 16, none, .fad 1 (.t 15)⟩,
              ⟨some 17, none, .ld 1 false false (.t 16)⟩,
              ⟨some 18, none, .app 1 24 (.t 12) (.t 17)⟩,
              ⟨some 3, none, .mv true (.t 18)⟩]))
           (.region [
             ⟨some 10, none, .mv false (.t 4)⟩,
             ⟨some 11, none, .bin .add (.t 10) (.c (.int .i64 1))⟩,
             ⟨some 4, none, .mv true (.t 11)⟩]))))))
      (.seq
       (.region [
         ⟨some 19, none, .mv true (.t 3)⟩,
         ⟨some 2, none, .mv true (.t 19)⟩])
       .ret)))⟩
theorem t14 : compF Try.prog {} 14 = some p14 := by kernel_rfl
def p15 : PFn :=
  ⟨40, [.t 2, .t 3, .t 4], .seq
    (.region [
      ⟨some 2, none, .mv true (.c (.lst 0 [] true))⟩,
      ⟨some 3, none, .mv true (.c (.lst 0 [] true))⟩,
      ⟨some 4, none, .mv true (.c (.int .i64 0))⟩])
    (.seq
     (.region [
       ⟨some 13, none, .mv false (.t 0)⟩,
       ⟨some 14, none, .callF 25 [.t 13] []⟩,
       ⟨some 12, none, .mv true (.t 14)⟩,
       ⟨some 15, none, .ext true (.t 12) 0⟩,
       ⟨some 16, none, .ext false (.t 12) 1⟩,
       ⟨some 17, none, .ext false (.t 12) 2⟩,
       ⟨some 5, none, .mv true (.t 15)⟩,
       ⟨some 6, none, .mv true (.t 16)⟩,
       ⟨some 7, none, .mv true (.t 17)⟩])
     (.seq
      (.seq
       (.region [
         ⟨some 18, none, .mv false (.t 7)⟩,
         ⟨some 19, none, .bin .neq (.t 18) (.c (.int .i64 0))⟩])
       (.cond (.t 19)
        (.seq
         (.region [
           ⟨some 20, none, .mv true (.t 7)⟩,
           ⟨some 2, none, .mv true (.c (.lst 0 [] true))⟩,
           ⟨some 3, none, .mv true (.c (.lst 0 [] true))⟩,
           ⟨some 4, none, .mv true (.t 20)⟩])
         .ret)
        .skip))
      (.seq
       (.region [
         ⟨some 8, none, .mv true (.c (.lst 0 [] true))⟩])
       (.seq
        (.region [
          ⟨some 9, none, .mv true (.c (.lst 0 [] true))⟩])
        (.seq
         (.seq
          (.region [
            ⟨some 21, none, .mv false (.t 5)⟩,
            ⟨some 22, none, .len false (.t 21)⟩,
            ⟨some 23, none, .mv false (.c (.int .i64 0))⟩])
          (.block 0
           (.loop
            (.seq
             (.region [
               ⟨some 24, none, .bin .lss (.t 23) (.t 22)⟩])
             (.seq
              (.cond (.t 24)
               .skip
               (.exit 0))
              (.seq
               (.block 1
                (.seq
                 (.region [
                   ⟨some 25, none, .iad 3 (.t 21) (.t 23)⟩,
                   ⟨some 26, none, .ld 3 true false (.t 25)⟩,
                   ⟨some 11, none, .al [.int .i64 0, .str [], .int .i64 0]⟩,
                   ⟨none, none, .sto 3 (.t 11) (.t 26)⟩])
                 (.draw [
                   ⟨some 27, none, .mv true (.t 8)⟩,
                   ⟨some 28, none, .fad 1 (.t 11)⟩,
                   ⟨some 29, none, .ld 1 false false (.t 28)⟩,
                   ⟨some 30, none, .bsl 1 1 false [.str []] [(0, .t 29)] false⟩,
                   ⟨some 31, none, .app 1 16 (.t 27) (.t 30)⟩,
                   ⟨some 32, none, .mv true (.t 9)⟩,
                   ⟨some 33, none, .fad 2 (.t 11)⟩,
                   ⟨some 34, none, .ld 1 false false (.t 33)⟩,
                   ⟨some 35, none, .bsl 1 1 false [.int .i64 0] [(0, .t 34)] false⟩,
                   ⟨some 36, none, .app 1 8 (.t 32) (.t 35)⟩,
                   ⟨some 8, none, .mv true (.t 31)⟩,
                   ⟨some 9, none, .mv true (.t 36)⟩] [])))
               (.region [
                 ⟨some 37, none, .bin .add (.t 23) (.c (.int .i64 1))⟩,
                 ⟨some 23, none, .mv false (.t 37)⟩])))))))
         (.seq
          (.region [
            ⟨some 38, none, .mv true (.t 8)⟩,
            ⟨some 39, none, .mv true (.t 9)⟩,
            ⟨some 2, none, .mv true (.t 38)⟩,
            ⟨some 3, none, .mv true (.t 39)⟩,
            ⟨some 4, none, .mv true (.c (.int .i64 0))⟩])
          .ret))))))⟩
theorem t15 : compF Try.prog {} 15 = some p15 := by kernel_rfl
def p16 : PFn :=
  ⟨29, [.t 4], .seq
    (.region [
      ⟨some 4, none, .mv true (.c (.lst 0 [] true))⟩])
    (.seq
     (.region [
       ⟨some 6, none, .mv false (.t 0)⟩,
       ⟨some 7, none, .len false (.t 6)⟩,
       ⟨some 8, none, .mv false (.t 1)⟩,
       ⟨some 9, none, .callF 30 [.t 8] []⟩,
       ⟨some 10, none, .bin .add (.t 7) (.t 9)⟩,
       ⟨some 11, none, .mk 1 1 false [.int .u8 0] (.c (.int .i64 0)) (.t 10) false⟩,
       ⟨some 12, none, .mv false (.t 0)⟩,
       ⟨some 13, none, .app 1 1 (.t 11) (.t 12)⟩,
       ⟨some 5, none, .mv true (.t 13)⟩])
     (.seq
      (.block 0
       (.loop
        (.seq
         (.seq
          (.region [
            ⟨some 14, none, .mv false (.t 1)⟩,
            ⟨some 15, none, .bin .geq (.t 14) (.c (.int .u64 128))⟩])
          (.cond (.t 15)
           .skip
           (.exit 0)))
         (.seq
          (.block 1
           (.region [
             ⟨some 18, none, .mv true (.t 5)⟩,
             ⟨some 19, none, .mv false (.t 1)⟩,
             ⟨some 20, none, .cvI .u8 (.t 19)⟩,
             ⟨some 21, none, .bin .or (.t 20) (.c (.int .u8 128))⟩,
             ⟨some 22, none, .bsl 1 1 false [.int .u8 0] [(0, .t 21)] false⟩,
             ⟨some 23, none, .app 1 1 (.t 18) (.t 22)⟩,
             ⟨some 5, none, .mv true (.t 23)⟩]))
          (.region [
            ⟨some 16, none, .mv false (.t 1)⟩,
            ⟨some 17, none, .bin .shr (.t 16) (.c (.int .u64 7))⟩,
            ⟨some 1, none, .mv true (.t 17)⟩])))))
      (.seq
       (.region [
         ⟨some 24, none, .mv true (.t 5)⟩,
         ⟨some 25, none, .mv false (.t 1)⟩,
         ⟨some 26, none, .cvI .u8 (.t 25)⟩,
         ⟨some 27, none, .bsl 1 1 false [.int .u8 0] [(0, .t 26)] false⟩,
         ⟨some 28, none, .app 1 1 (.t 24) (.t 27)⟩,
         ⟨some 4, none, .mv true (.t 28)⟩])
       .ret)))⟩
theorem t16 : compF Try.prog {} 16 = some p16 := by kernel_rfl
def p17 : PFn :=
  ⟨23, [.t 0], .seq
    (.region [
      ⟨some 0, none, .mv true (.c (.lst 0 [] true))⟩])
    (.seq
     (.region [
       ⟨some 4, none, .mk 1 4 false [.int .u32 0] (.c (.int .i64 256)) (.c (.int .i64 256)) false⟩,
       ⟨some 1, none, .mv true (.t 4)⟩])
     (.seq
      (.seq
       (.region [
         ⟨some 5, none, .mv false (.t 1)⟩,
         ⟨some 6, none, .len false (.t 5)⟩,
         ⟨some 7, none, .mv false (.c (.int .i64 0))⟩])
       (.block 0
        (.loop
         (.seq
          (.region [
            ⟨some 8, none, .bin .lss (.t 7) (.t 6)⟩])
          (.seq
           (.cond (.t 8)
            .skip
            (.exit 0))
           (.seq
            (.block 1
             (.seq
              (.region [
                ⟨some 9, none, .mv true (.t 7)⟩,
                ⟨some 2, none, .mv true (.t 9)⟩])
              (.seq
               (.region [
                 ⟨some 10, none, .mv false (.t 2)⟩,
                 ⟨some 11, none, .cvI .u32 (.t 10)⟩,
                 ⟨some 3, none, .mv true (.t 11)⟩])
               (.seq
                (.seq
                 (.region [
                   ⟨some 12, none, .mv false (.c (.int .i64 0))⟩])
                 (.block 2
                  (.loop
                   (.seq
                    (.region [
                      ⟨some 13, none, .bin .lss (.t 12) (.c (.int .i64 8))⟩])
                    (.seq
                     (.cond (.t 13)
                      .skip
                      (.exit 2))
                     (.seq
                      (.block 3
                       (.region [
                         ⟨some 14, none, .mv false (.t 3)⟩,
                         ⟨some 15, none, .callF 31 [.t 14] []⟩,
                         ⟨some 3, none, .mv true (.t 15)⟩]))
                      (.region [
                        ⟨some 16, none, .bin .add (.t 12) (.c (.int .i64 1))⟩,
                        ⟨some 12, none, .mv false (.t 16)⟩])))))))
                (.region [
                  ⟨some 17, none, .mv false (.t 1)⟩,
                  ⟨some 18, none, .mv false (.t 2)⟩,
                  ⟨some 19, none, .mv true (.t 3)⟩,
                  ⟨some 20, none, .iad 1 (.t 17) (.t 18)⟩,
                  ⟨none, none, .sto 1 (.t 20) (.t 19)⟩])))))
            (.region [
              ⟨some 21, none, .bin .add (.t 7) (.c (.int .i64 1))⟩,
              ⟨some 7, none, .mv false (.t 21)⟩])))))))
      (.seq
       (.region [
         ⟨some 22, none, .mv true (.t 1)⟩,
         ⟨some 0, none, .mv true (.t 22)⟩])
       .ret)))⟩
theorem t17 : compF Try.prog {} 17 = some p17 := by kernel_rfl
def p18 : PFn :=
  ⟨26, [.t 2], .seq
    (.region [
      ⟨some 2, none, .mv true (.c (.bool false))⟩])
    (.seq
     (.region [
       ⟨some 3, none, .mv false (.t 0)⟩,
       ⟨some 4, none, .len false (.t 3)⟩,
       ⟨some 5, none, .bin .eql (.t 4) (.c (.int .i64 2))⟩,
       ⟨some 6, none, .mv false (.t 5)⟩,
       ⟨some 7, some (6, true), .mv false (.t 0)⟩,
       ⟨some 8, some (6, true), .iad 1 (.t 7) (.c (.int .i64 0))⟩,
       ⟨some 9, some (6, true), .ld 1 false false (.t 8)⟩,
       ⟨some 10, some (6, true), .bin .neq (.t 9) (.c (.str []))⟩,
       ⟨some 11, none, .pick (.t 6) (.t 10) (.c (.bool false))⟩,
       ⟨some 12, none, .mv false (.t 11)⟩,
       ⟨some 13, some (12, true), .mv false (.t 0)⟩,
       ⟨some 14, some (12, true), .iad 1 (.t 13) (.c (.int .i64 0))⟩,
       ⟨some 15, some (12, true), .ld 1 false false (.t 14)⟩,
       ⟨some 16, some (12, true), .len true (.t 15)⟩,
       ⟨some 17, some (12, true), .bin .leq (.t 16) (.c (.int .i64 100))⟩,
       ⟨some 18, none, .pick (.t 12) (.t 17) (.c (.bool false))⟩,
       ⟨some 19, none, .mv false (.t 18)⟩,
       ⟨some 20, some (19, true), .mv false (.t 0)⟩,
       ⟨some 21, some (19, true), .iad 1 (.t 20) (.c (.int .i64 1))⟩,
       ⟨some 22, some (19, true), .ld 1 false false (.t 21)⟩,
       ⟨some 23, some (19, true), .len true (.t 22)⟩,
       ⟨some 24, some (19, true), .bin .leq (.t 23) (.c (.int .i64 1000))⟩,
       ⟨some 25, none, .pick (.t 19) (.t 24) (.c (.bool false))⟩,
       ⟨some 2, none, .mv true (.t 25)⟩])
     .ret)⟩
theorem t18 : compF Try.prog {} 18 = some p18 := by kernel_rfl
def p19 : PFn :=
  ⟨12, [.t 4], .seq
    (.region [
      ⟨some 4, none, .mv true (.c (.lst 0 [] true))⟩])
    (.seq
     (.region [
       ⟨some 5, none, .mv false (.t 0)⟩,
       ⟨some 6, none, .mv false (.t 1)⟩,
       ⟨some 7, none, .len true (.t 6)⟩,
       ⟨some 8, none, .cvI .u64 (.t 7)⟩,
       ⟨some 9, none, .callF 16 [.t 5, .t 8] []⟩,
       ⟨some 10, none, .mv false (.t 1)⟩,
       ⟨some 11, none, .app 1 1 (.t 9) (.t 10)⟩,
       ⟨some 4, none, .mv true (.t 11)⟩])
     .ret)⟩
theorem t19 : compF Try.prog {} 19 = some p19 := by kernel_rfl
def p20 : PFn :=
  ⟨22, [.t 4, .t 5], .seq
    (.region [
      ⟨some 4, none, .mv true (.c (.lst 0 [] true))⟩,
      ⟨some 5, none, .mv true (.c (.int .i64 0))⟩])
    (.seq
     (.region [
       ⟨some 9, none, .mv false (.t 0)⟩,
       ⟨some 10, none, .mv false (.t 1)⟩,
       ⟨some 11, none, .callF 32 [.t 9, .t 10] []⟩,
       ⟨some 8, none, .mv true (.t 11)⟩,
       ⟨some 12, none, .ext false (.t 8) 0⟩,
       ⟨some 13, none, .ext false (.t 8) 1⟩,
       ⟨some 6, none, .mv true (.t 12)⟩,
       ⟨some 7, none, .mv true (.t 13)⟩])
     (.seq
      (.seq
       (.region [
         ⟨some 14, none, .mv false (.t 7)⟩,
         ⟨some 15, none, .bin .neq (.t 14) (.c (.int .i64 0))⟩])
       (.cond (.t 15)
        (.seq
         (.region [
           ⟨some 16, none, .mv true (.t 7)⟩,
           ⟨some 4, none, .mv true (.c (.lst 0 [] true))⟩,
           ⟨some 5, none, .mv true (.t 16)⟩])
         .ret)
        .skip))
      (.seq
       (.region [
         ⟨some 17, none, .mv false (.t 1)⟩,
         ⟨some 18, none, .mv false (.t 6)⟩,
         ⟨some 19, none, .callF 33 [.t 18] []⟩,
         ⟨some 20, none, .bsl 1 2 false [.lst 0 [] true, .lst 0 [] true] [(0, .t 17), (1, .t 19)] false⟩,
         ⟨some 21, none, .callF 21 [.t 20] []⟩,
         ⟨some 4, none, .mv true (.t 21)⟩,
         ⟨some 5, none, .mv true (.c (.int .i64 0))⟩])
       .ret)))⟩
theorem t20 : compF Try.prog {} 20 = some p20 := by kernel_rfl
def p21 : PFn :=
  ⟨36, [.t 2], .seq
    (.region [
      ⟨some 2, none, .mv true (.c (.lst 0 [] true))⟩])
    (.seq
     (.region [
       ⟨some 3, none, .mv true (.c (.int .i64 0))⟩])
     (.seq
      (.seq
       (.region [
         ⟨some 9, none, .mv false (.t 0)⟩,
         ⟨some 10, none, .len false (.t 9)⟩,
         ⟨some 11, none, .mv false (.c (.int .i64 0))⟩])
       (.block 0
        (.loop
         (.seq
          (.region [
            ⟨some 12, none, .bin .lss (.t 11) (.t 10)⟩])
          (.seq
           (.cond (.t 12)
            .skip
            (.exit 0))
           (.seq
            (.block 1
             (.seq
              (.region [
                ⟨some 13, none, .iad 1 (.t 9) (.t 11)⟩,
                ⟨some 14, none, .ld 1 false false (.t 13)⟩,
                ⟨some 5, none, .mv true (.t 14)⟩])
              (.seq
               (.region [
                 ⟨some 15, none, .mv false (.t 3)⟩,
                 ⟨some 16, none, .mv false (.t 5)⟩,
                 ⟨some 17, none, .len false (.t 16)⟩,
                 ⟨some 18, none, .bin .add (.t 15) (.t 17)⟩,
                 ⟨some 3, none, .mv true (.t 18)⟩])
               (.seq
                (.region [
                  ⟨some 19, none, .mv false (.t 3)⟩,
                  ⟨some 20, none, .bin .lss (.t 19) (.c (.int .i64 0))⟩])
                (.cond (.t 20)
                 (.region [
                   ⟨some 21, none, .bad⟩,
                   ⟨none, none, .bad⟩])
                 .skip)))))
            (.region [
              ⟨some 22, none, .bin .add (.t 11) (.c (.int .i64 1))⟩,
              ⟨some 11, none, .mv false (.t 22)⟩])))))))
      (.seq
       (.region [
         ⟨some 23, none, .mv false (.t 3)⟩,
         ⟨some 24, none, .callF 34 [.c (.lst 0 [] true), .t 23] []⟩,
         ⟨some 6, none, .mv true (.t 24)⟩])
       (.seq
        (.seq
         (.region [
           ⟨some 25, none, .mv false (.t 0)⟩,
           ⟨some 26, none, .len false (.t 25)⟩,
           ⟨some 27, none, .mv false (.c (.int .i64 0))⟩])
         (.block 2
          (.loop
           (.seq
            (.region [
              ⟨some 28, none, .bin .lss (.t 27) (.t 26)⟩])
            (.seq
             (.cond (.t 28)
              .skip
              (.exit 2))
             (.seq
              (.block 3
               (.seq
                (.region [
                  ⟨some 29, none, .iad 1 (.t 25) (.t 27)⟩,
                  ⟨some 30, none, .ld 1 false false (.t 29)⟩,
                  ⟨some 8, none, .mv true (.t 30)⟩])
                (.region [
                  ⟨some 31, none, .mv true (.t 6)⟩,
                  ⟨some 32, none, .mv false (.t 8)⟩,
                  ⟨some 33, none, .app 1 1 (.t 31) (.t 32)⟩,
                  ⟨some 6, none, .mv true (.t 33)⟩])))
              (.region [
                ⟨some 34, none, .bin .add (.t 27) (.c (.int .i64 1))⟩,
                ⟨some 27, none, .mv false (.t 34)⟩])))))))
        (.seq
         (.region [
           ⟨some 35, none, .mv true (.t 6)⟩,
           ⟨some 2, none, .mv true (.t 35)⟩])
         .ret)))))⟩
theorem t21 : compF Try.prog {} 21 = some p21 := by kernel_rfl
def p22 : PFn :=
  ⟨13, [.t 4], .seq
    (.region [
      ⟨some 4, none, .mv true (.c (.lst 0 [] true))⟩])
    (.seq
     (.region [
       ⟨some 6, none, .bsl 1 0 false [] [] false⟩,
       ⟨some 7, none, .mv false (.t 0)⟩,
       ⟨some 8, none, .app 1 1 (.t 6) (.t 7)⟩,
       ⟨some 5, none, .mv true (.t 8)⟩])
     (.seq
      (.region [
        ⟨some 9, none, .mv true (.t 5)⟩,
        ⟨some 10, none, .mv false (.t 1)⟩,
        ⟨some 11, none, .callF 35 [.t 10] []⟩,
        ⟨some 12, none, .app 1 1 (.t 9) (.t 11)⟩,
        ⟨some 4, none, .mv true (.t 12)⟩])
      .ret))⟩
theorem t22 : compF Try.prog {} 22 = some p22 := by kernel_rfl
def p23 : PFn :=
  ⟨14, [.t 4], .seq
    (.region [
      ⟨some 4, none, .mv true (.c (.lst 0 [] true))⟩])
    (.seq
     (.region [
       ⟨some 6, none, .mv false (.t 0)⟩,
       ⟨some 7, none, .mv false (.t 1)⟩,
       ⟨some 8, none, .len true (.t 7)⟩,
       ⟨some 9, none, .cvI .u64 (.t 8)⟩,
       ⟨some 10, none, .callF 22 [.t 6, .t 9] []⟩,
       ⟨some 5, none, .mv true (.t 10)⟩])
     (.seq
      (.region [
        ⟨some 11, none, .mv true (.t 5)⟩,
        ⟨some 12, none, .mv false (.t 1)⟩,
        ⟨some 13, none, .app 1 1 (.t 11) (.t 12)⟩,
        ⟨some 4, none, .mv true (.t 13)⟩])
      .ret))⟩
theorem t23 : compF Try.prog {} 23 = some p23 := by kernel_rfl
def p24 : PFn :=
  ⟨12, [.t 2], .seq
    (.region [
      ⟨some 2, none, .mv true (.c (.lst 0 [] true))⟩])
    (.seq
     (.region [
       ⟨some 4, none, .bsl 1 0 false [] [] false⟩,
       ⟨some 5, none, .mv false (.t 0)⟩,
       ⟨some 6, none, .app 1 1 (.t 4) (.t 5)⟩,
       ⟨some 3, none, .mv true (.t 6)⟩])
     (.seq
      (.region [
        ⟨some 7, none, .mv true (.t 3)⟩,
        ⟨some 8, none, .mv false (.t 0)⟩,
        ⟨some 9, none, .callF 37 [.t 8] []⟩,
        ⟨some 10, none, .callF 36 [.t 9] []⟩,
        ⟨some 11, none, .app 1 1 (.t 7) (.t 10)⟩,
        ⟨some 2, none, .mv true (.t 11)⟩])
      .ret))⟩
theorem t24 : compF Try.prog {} 24 = some p24 := by kernel_rfl
def p25 : PFn :=
  ⟨53, [.t 2, .t 3, .t 4], .seq
    (.region [
      ⟨some 2, none, .mv true (.c (.lst 0 [] true))⟩,
      ⟨some 3, none, .mv true (.c (.int .i64 0))⟩,
      ⟨some 4, none, .mv true (.c (.int .i64 0))⟩])
    (.seq
     (.region [
       ⟨some 12, none, .mv false (.t 0)⟩,
       ⟨some 13, none, .callF 38 [.t 12] []⟩,
       ⟨some 11, none, .mv true (.t 13)⟩,
       ⟨some 14, none, .ext false (.t 11) 0⟩,
       ⟨some 15, none, .ext true (.t 11) 1⟩,
       ⟨some 16, none, .ext false (.t 11) 2⟩,
       ⟨some 5, none, .mv true (.t 14)⟩,
       ⟨some 6, none, .mv true (.t 15)⟩,
       ⟨some 7, none, .mv true (.t 16)⟩])
     (.seq
      (.seq
       (.region [
         ⟨some 17, none, .mv false (.t 7)⟩,
         ⟨some 18, none, .bin .neq (.t 17) (.c (.int .i64 0))⟩,
         ⟨some 19, none, .mv false (.t 18)⟩,
         ⟨some 20, some (19, false), .mv false (.t 5)⟩,
         ⟨some 21, some (19, false), .mv false (.t 6)⟩,
         ⟨some 22, some (19, false), .len false (.t 21)⟩,
         ⟨some 23, some (19, false), .cvI .u64 (.t 22)⟩,
         ⟨some 24, some (19, false), .bin .gtr (.t 20) (.t 23)⟩,
         ⟨some 25, none, .pick (.t 19) (.c (.bool true)) (.t 24)⟩])
       (.cond (.t 25)
        (.seq
         (.region [
           ⟨some 2, none, .mv true (.c (.lst 0 [] true))⟩,
           ⟨some 3, none, .mv true (.c (.int .i64 0))⟩,
           ⟨some 4, none, .mv true (.c (.int .i64 3))⟩])
         .ret)
        .skip))
      (.seq
       (.draw [
         ⟨some 27, none, .callF 17 [] []⟩,
         ⟨some 28, none, .mv false (.t 6)⟩,
         ⟨some 29, none, .mv false (.t 5)⟩,
         ⟨some 30, none, .sli 1 (.t 28) none (some (.t 29)) none⟩,
         ⟨some 31, none, .callF 28 [.t 27, .t 30] []⟩,
         ⟨some 26, none, .mv true (.t 31)⟩,
         ⟨some 32, none, .ext true (.t 26) 0⟩,
         ⟨some 33, none, .ext false (.t 26) 1⟩,
         ⟨some 8, none, .mv true (.t 32)⟩,
         ⟨some 7, none, .mv true (.t 33)⟩] [])
       (.seq
        (.seq
         (.region [
           ⟨some 34, none, .mv false (.t 7)⟩,
           ⟨some 35, none, .bin .neq (.t 34) (.c (.int .i64 0))⟩])
         (.cond (.t 35)
          (.seq
           (.region [
             ⟨some 2, none, .mv true (.c (.lst 0 [] true))⟩,
             ⟨some 3, none, .mv true (.c (.int .i64 0))⟩,
             ⟨some 4, none, .mv true (.c (.int .i64 3))⟩])
           .ret)
          .skip))
        (.seq
         (.region [
           ⟨some 36, none, .mv false (.t 0)⟩,
           ⟨some 37, none, .len false (.t 36)⟩,
           ⟨some 38, none, .mv false (.t 6)⟩,
           ⟨some 39, none, .len false (.t 38)⟩,
           ⟨some 40, none, .bin .sub (.t 37) (.t 39)⟩,
           ⟨some 9, none, .mv true (.t 40)⟩])
         (.seq
          (.region [
            ⟨some 42, none, .mv false (.t 8)⟩,
            ⟨some 43, none, .mv false (.t 9)⟩,
            ⟨some 44, none, .callF 39 [.t 42, .t 43] []⟩,
            ⟨some 41, none, .mv true (.t 44)⟩,
            ⟨some 45, none, .ext true (.t 41) 0⟩,
            ⟨some 46, none, .ext false (.t 41) 1⟩,
            ⟨some 10, none, .mv true (.t 45)⟩,
            ⟨some 7, none, .mv true (.t 46)⟩])
          (.seq
           (.region [
             ⟨some 47, none, .mv true (.t 10)⟩,
             ⟨some 48, none, .mv false (.t 9)⟩,
             ⟨some 49, none, .mv false (.t 5)⟩,
             ⟨some 50, none, .cvI .i64 (.t 49)⟩,
             ⟨some 51, none, .bin .add (.t 48) (.t 50)⟩,
             ⟨some 52, none, .mv true (.t 7)⟩,
             ⟨some 2, none, .mv true (.t 47)⟩,
             ⟨some 3, none, .mv true (.t 51)⟩,
             ⟨some 4, none, .mv true (.t 52)⟩])
           .ret)))))))⟩
theorem t25 : compF Try.prog {} 25 = some p25 := by kernel_rfl
def p26 : PFn :=
  ⟨19, [.t 4], .seq
    (.region [
      ⟨some 4, none, .mv true (.c (.int .i64 0))⟩])
    (.seq
     (.seq
      (.region [
        ⟨some 6, none, .mv false (.t 0)⟩,
        ⟨some 7, none, .len false (.t 6)⟩,
        ⟨some 8, none, .mv false (.c (.int .i64 0))⟩])
      (.block 0
       (.loop
        (.seq
         (.region [
           ⟨some 9, none, .bin .lss (.t 8) (.t 7)⟩])
         (.seq
          (.cond (.t 9)
           .skip
           (.exit 0))
          (.seq
           (.block 1
            (.seq
             (.region [
               ⟨some 10, none, .mv true (.t 8)⟩,
               ⟨some 5, none, .mv true (.t 10)⟩])
             (.seq
              (.region [
                ⟨some 11, none, .mv false (.t 1)⟩,
                ⟨some 12, none, .mv false (.t 0)⟩,
                ⟨some 13, none, .mv false (.t 5)⟩,
                ⟨some 14, none, .iad 3 (.t 12) (.t 13)⟩,
                ⟨some 15, none, .ld 3 true false (.t 14)⟩,
                ⟨some 16, none, .callV (.t 11) [.t 15]⟩])
              (.cond (.t 16)
               (.seq
                (.region [
                  ⟨some 17, none, .mv true (.t 5)⟩,
                  ⟨some 4, none, .mv true (.t 17)⟩])
                .ret)
               .skip))))
           (.region [
             ⟨some 18, none, .bin .add (.t 8) (.c (.int .i64 1))⟩,
             ⟨some 8, none, .mv false (.t 18)⟩])))))))
     (.seq
      (.region [
        ⟨some 4, none, .mv true (.c (.int .i64 (-1)))⟩])
      .ret))⟩
theorem t26 : compF Try.prog {} 26 = some p26 := by kernel_rfl
def p27 : PFn :=
  ⟨8, [.t 3], .seq
    (.region [
      ⟨some 2, none, .bxI 3 (.t 0)⟩,
      ⟨some 3, none, .mv true (.c (.bool false))⟩])
    (.seq
     (.region [
       ⟨some 4, none, .fad 1 (.t 2)⟩,
       ⟨some 5, none, .ld 1 false false (.t 4)⟩,
       ⟨some 6, none, .ld 1 false false (.t 1)⟩,
       ⟨some 7, none, .bin .eql (.t 5) (.t 6)⟩,
       ⟨some 3, none, .mv true (.t 7)⟩])
     .ret)⟩
theorem t27 : compF Try.prog { ros := [2] } 27 = some p27 := by kernel_rfl
def p28 : PFn :=
  ⟨38, [.t 4, .t 5], .seq
    (.region [
      ⟨some 4, none, .mv true (.c (.lst 0 [] true))⟩,
      ⟨some 5, none, .mv true (.c (.int .i64 0))⟩])
    (.seq
     (.region [
       ⟨some 9, none, .mv false (.t 1)⟩,
       ⟨some 10, none, .len false (.t 9)⟩,
       ⟨some 11, none, .bin .sub (.t 10) (.c (.int .i64 4))⟩,
       ⟨some 6, none, .mv true (.t 11)⟩])
     (.seq
      (.block 0
       (.seq
        (.region [
          ⟨some 13, none, .mv false (.t 0)⟩,
          ⟨some 14, none, .len false (.t 13)⟩,
          ⟨some 15, none, .bin .neq (.t 14) (.c (.int .i64 256))⟩,
          ⟨some 12, none, .mv true (.t 15)⟩])
        (.cond (.t 12)
         (.seq
          (.region [
            ⟨some 4, none, .mv true (.c (.lst 0 [] true))⟩,
            ⟨some 5, none, .mv true (.c (.int .i64 1))⟩])
          .ret)
         (.seq
          (.region [
            ⟨some 17, none, .mv false (.t 6)⟩,
            ⟨some 18, none, .bin .lss (.t 17) (.c (.int .i64 0))⟩,
            ⟨some 16, none, .mv true (.t 18)⟩])
          (.cond (.t 16)
           (.seq
            (.region [
              ⟨some 4, none, .mv true (.c (.lst 0 [] true))⟩,
              ⟨some 5, none, .mv true (.c (.int .i64 2))⟩])
            .ret)
           .skip)))))
      (.seq
       (.region [
         ⟨some 20, none, .mv false (.t 0)⟩,
         ⟨some 21, none, .mv false (.t 1)⟩,
         ⟨some 22, none, .mv false (.t 6)⟩,
         ⟨some 23, none, .sli 1 (.t 21) none (some (.t 22)) none⟩,
         ⟨some 24, none, .callF 32 [.t 20, .t 23] []⟩,
         ⟨some 19, none, .mv true (.t 24)⟩,
         ⟨some 25, none, .ext false (.t 19) 0⟩,
         ⟨some 26, none, .ext false (.t 19) 1⟩,
         ⟨some 7, none, .mv true (.t 25)⟩,
         ⟨some 8, none, .mv true (.t 26)⟩])
       (.seq
        (.seq
         (.draw [
           ⟨some 27, none, .mv false (.t 7)⟩,
           ⟨some 28, none, .callF 33 [.t 27] []⟩,
           ⟨some 29, none, .mv false (.t 1)⟩,
           ⟨some 30, none, .mv false (.t 6)⟩,
           ⟨some 31, none, .sli 1 (.t 29) (some (.t 30)) none none⟩,
           ⟨some 32, none, .callF 40 [.t 28, .t 31] []⟩,
           ⟨some 33, none, .un .not (.t 32)⟩] [])
         (.cond (.t 33)
          (.seq
           (.region [
             ⟨some 4, none, .mv true (.c (.lst 0 [] true))⟩,
             ⟨some 5, none, .mv true (.c (.int .i64 4))⟩])
           .ret)
          .skip))
        (.seq
         (.region [
           ⟨some 34, none, .mv false (.t 1)⟩,
           ⟨some 35, none, .mv false (.t 6)⟩,
           ⟨some 36, none, .sli 1 (.t 34) none (some (.t 35)) none⟩,
           ⟨some 37, none, .callF 41 [.t 36] []⟩,
           ⟨some 4, none, .mv true (.t 37)⟩,
           ⟨some 5, none, .mv true (.c (.int .i64 0))⟩])
         .ret)))))⟩
theorem t28 : compF Try.prog {} 28 = some p28 := by kernel_rfl
def p29 : PFn :=
  ⟨26, [.t 4], .seq
    (.region [
      ⟨some 4, none, .mv true (.c (.bool false))⟩])
    (.seq
     (.seq
      (.region [
        ⟨some 6, none, .mv false (.t 0)⟩,
        ⟨some 7, none, .len false (.t 6)⟩,
        ⟨some 8, none, .mv false (.t 1)⟩,
        ⟨some 9, none, .len false (.t 8)⟩,
        ⟨some 10, none, .bin .neq (.t 7) (.t 9)⟩])
      (.cond (.t 10)
       (.seq
        (.region [
          ⟨some 4, none, .mv true (.c (.bool false))⟩])
        .ret)
       .skip))
     (.seq
      (.seq
       (.region [
         ⟨some 5, none, .mv true (.c (.int .i64 0))⟩])
       (.block 0
        (.loop
         (.seq
          (.seq
           (.region [
             ⟨some 11, none, .mv false (.t 5)⟩,
             ⟨some 12, none, .mv false (.t 0)⟩,
             ⟨some 13, none, .len false (.t 12)⟩,
             ⟨some 14, none, .bin .lss (.t 11) (.t 13)⟩])
           (.cond (.t 14)
            .skip
            (.exit 0)))
          (.seq
           (.block 1
            (.seq
             (.draw [
               ⟨some 17, none, .mv false (.t 0)⟩,
               ⟨some 18, none, .mv false (.t 5)⟩,
               ⟨some 19, none, .iad 1 (.t 17) (.t 18)⟩,
               ⟨some 20, none, .ld 1 false false (.t 19)⟩,
               ⟨some 21, none, .mv false (.t 1)⟩,
               ⟨some 22, none, .mv false (.t 5)⟩,
               ⟨some 23, none, .iad 1 (.t 21) (.t 22)⟩,
               ⟨some 24, none, .ld 1 false false (.t 23)⟩,
               ⟨some 25, none, .bin .neq (.t 20) (.t 24)⟩] [])
             (.cond (.t 25)
              (.seq
               (.region [
                 ⟨some 4, none, .mv true (.c (.bool false))⟩])
               .ret)
              .skip)))
           (.region [
             ⟨some 15, none, .mv false (.t 5)⟩,
             ⟨some 16, none, .bin .add (.t 15) (.c (.int .i64 1))⟩,
             ⟨some 5, none, .mv true (.t 16)⟩]))))))
      (.seq
       (.region [
         ⟨some 4, none, .mv true (.c (.bool true))⟩])
       .ret)))⟩
theorem t29 : compF Try.prog {} 29 = some p29 := by kernel_rfl
def p30 : PFn :=
  ⟨9, [.t 2], .seq
    (.region [
      ⟨some 2, none, .mv true (.c (.int .i64 0))⟩])
    (.seq
     (.region [
       ⟨some 3, none, .mv false (.t 0)⟩,
       ⟨some 4, none, .callF 42 [.t 3] []⟩,
       ⟨some 5, none, .bin .add (.t 4) (.c (.int .i64 7))⟩,
       ⟨some 6, none, .bin .sub (.t 5) (.c (.int .i64 1))⟩,
       ⟨some 7, none, .bin .quo (.t 6) (.c (.int .i64 7))⟩,
       ⟨some 8, none, .mm true (.c (.int .i64 1)) (.t 7)⟩,
       ⟨some 2, none, .mv true (.t 8)⟩])
     .ret)⟩
theorem t30 : compF Try.prog {} 30 = some p30 := by kernel_rfl
def p31 : PFn :=
  ⟨11, [.t 2], .seq
    (.region [
      ⟨some 2, none, .mv true (.c (.int .u32 0))⟩])
    (.seq
     (.seq
      (.region [
        ⟨some 3, none, .mv false (.t 0)⟩,
        ⟨some 4, none, .bin .and (.t 3) (.c (.int .u32 1))⟩,
        ⟨some 5, none, .bin .neq (.t 4) (.c (.int .u32 0))⟩])
      (.cond (.t 5)
       (.seq
        (.region [
          ⟨some 6, none, .mv false (.t 0)⟩,
          ⟨some 7, none, .bin .shr (.t 6) (.c (.int .u64 1))⟩,
          ⟨some 8, none, .bin .xor (.t 7) (.c (.int .u32 3988292384))⟩,
          ⟨some 2, none, .mv true (.t 8)⟩])
        .ret)
       .skip))
     (.seq
      (.region [
        ⟨some 9, none, .mv false (.t 0)⟩,
        ⟨some 10, none, .bin .shr (.t 9) (.c (.int .u64 1))⟩,
        ⟨some 2, none, .mv true (.t 10)⟩])
      .ret))⟩
theorem t31 : compF Try.prog {} 31 = some p31 := by kernel_rfl
def p32 : PFn :=
  ⟨19, [.t 4, .t 5], .seq
    (.region [
      ⟨some 4, none, .mv true (.c (.int .u32 0))⟩,
      ⟨some 5, none, .mv true (.c (.int .i64 0))⟩])
    (.seq
     (.region [
       ⟨some 9, none, .mv false (.t 0)⟩,
       ⟨some 10, none, .mv false (.t 1)⟩,
       ⟨some 11, none, .callF 43 [.t 9, .c (.int .u32 4294967295), .t 10] []⟩,
       ⟨some 8, none, .mv true (.t 11)⟩,
       ⟨some 12, none, .ext false (.t 8) 0⟩,
       ⟨some 13, none, .ext false (.t 8) 1⟩,
       ⟨some 6, none, .mv true (.t 12)⟩,
       ⟨some 7, none, .mv true (.t 13)⟩])
     (.seq
      (.seq
       (.region [
         ⟨some 14, none, .mv false (.t 7)⟩,
         ⟨some 15, none, .bin .neq (.t 14) (.c (.int .i64 0))⟩])
       (.cond (.t 15)
        (.seq
         (.region [
           ⟨some 16, none, .mv true (.t 7)⟩,
           ⟨some 4, none, .mv true (.c (.int .u32 0))⟩,
           ⟨some 5, none, .mv true (.t 16)⟩])
         .ret)
        .skip))
      (.seq
       (.region [
         ⟨some 17, none, .mv false (.t 6)⟩,
         ⟨some 18, none, .un .xor (.t 17)⟩,
         ⟨some 4, none, .mv true (.t 18)⟩,
         ⟨some 5, none, .mv true (.c (.int .i64 0))⟩])
       .ret)))⟩
theorem t32 : compF Try.prog {} 32 = some p32 := by kernel_rfl
def p33 : PFn :=
  ⟨15, [.t 2], .seq
    (.region [
      ⟨some 2, none, .mv true (.c (.lst 0 [] true))⟩])
    (.seq
     (.region [
       ⟨some 3, none, .mv false (.t 0)⟩,
       ⟨some 4, none, .cvI .u8 (.t 3)⟩,
       ⟨some 5, none, .mv false (.t 0)⟩,
       ⟨some 6, none, .bin .shr (.t 5) (.c (.int .u64 8))⟩,
       ⟨some 7, none, .cvI .u8 (.t 6)⟩,
       ⟨some 8, none, .mv false (.t 0)⟩,
       ⟨some 9, none, .bin .shr (.t 8) (.c (.int .u64 16))⟩,
       ⟨some 10, none, .cvI .u8 (.t 9)⟩,
       ⟨some 11, none, .mv false (.t 0)⟩,
       ⟨some 12, none, .bin .shr (.t 11) (.c (.int .u64 24))⟩,
       ⟨some 13, none, .cvI .u8 (.t 12)⟩,
       ⟨some 14, none, .bsl 1 4 false [.int .u8 0, .int .u8 0, .int .u8 0, .int .u8 0] [(0, .t 4), (1, .t 7), (2, .t 10), (3, .t 13)] false⟩,
       ⟨some 2, none, .mv true (.t 14)⟩])
     .ret)⟩
theorem t33 : compF Try.prog {} 33 = some p33 := by kernel_rfl
def p34 : PFn :=
  ⟨27, [.t 4], .seq
    (.region [
      ⟨some 4, none, .mv true (.c (.lst 0 [] true))⟩])
    (.seq
     (.seq
      (.region [
        ⟨some 5, none, .mv false (.t 1)⟩,
        ⟨some 6, none, .bin .lss (.t 5) (.c (.int .i64 0))⟩])
      (.cond (.t 6)
       (.region [
         ⟨some 7, none, .bad⟩,
         ⟨none, none, .bad⟩])
       .skip))
     (.seq
      (.seq
       (.region [
         ⟨some 8, none, .mv false (.t 1)⟩,
         ⟨some 9, none, .mv false (.t 0)⟩,
         ⟨some 10, none, .cap (.t 9)⟩,
         ⟨some 11, none, .mv false (.t 0)⟩,
         ⟨some 12, none, .len false (.t 11)⟩,
         ⟨some 13, none, .bin .sub (.t 10) (.t 12)⟩,
         ⟨some 14, none, .bin .sub (.t 8) (.t 13)⟩,
         ⟨some 1, none, .mv true (.t 14)⟩])
       (.seq
        (.region [
          ⟨some 15, none, .mv false (.t 1)⟩,
          ⟨some 16, none, .bin .gtr (.t 15) (.c (.int .i64 0))⟩])
        (.cond (.t 16)
         (.region [
           ⟨some 17, none, .mv false (.t 0)⟩,
           ⟨some 18, none, .mv false (.t 0)⟩,
           ⟨some 19, none, .cap (.t 18)⟩,
           ⟨some 20, none, .sli 1 (.t 17) none (some (.t 19)) none⟩,
           ⟨some 21, none, .mv false (.t 1)⟩,
           ⟨some 22, none, .bad⟩,
           ⟨some 23, none, .mv false (.t 0)⟩,
           ⟨some 24, none, .len false (.t 23)⟩,
           ⟨some 25, none, .sli 1 (.t 22) none (some (.t 24)) none⟩,
           ⟨some 0, none, .mv true (.t 25)⟩])
         .skip)))
      (.seq
       (.region [
         ⟨some 26, none, .mv true (.t 0)⟩,
         ⟨some 4, none, .mv true (.t 26)⟩])
       .ret)))⟩
theorem t34 : compF Try.prog {} 34 = some p34 := by kernel_rfl
def p35 : PFn :=
  ⟨21, [.t 2], .seq
    (.region [
      ⟨some 2, none, .mv true (.c (.lst 0 [] true))⟩])
    (.seq
     (.region [
       ⟨some 4, none, .bsl 1 0 false [] [] false⟩,
       ⟨some 3, none, .mv true (.t 4)⟩])
     (.seq
      (.block 0
       (.loop
        (.seq
         (.seq
          (.region [
            ⟨some 5, none, .mv false (.t 0)⟩,
            ⟨some 6, none, .bin .geq (.t 5) (.c (.int .u64 128))⟩])
          (.cond (.t 6)
           .skip
           (.exit 0)))
         (.block 1
          (.seq
           (.region [
             ⟨some 7, none, .mv true (.t 3)⟩,
             ⟨some 8, none, .mv false (.t 0)⟩,
             ⟨some 9, none, .bin .rem (.t 8) (.c (.int .u64 128))⟩,
             ⟨some 10, none, .bin .add (.t 9) (.c (.int .u64 128))⟩,
             ⟨some 11, none, .cvI .u8 (.t 10)⟩,
             ⟨some 12, none, .bsl 1 1 false [.int .u8 0] [(0, .t 11)] false⟩,
             ⟨some 13, none, .app 1 1 (.t 7) (.t 12)⟩,
             ⟨some 3, none, .mv true (.t 13)⟩])
           (.region [
             ⟨some 14, none, .mv false (.t 0)⟩,
             ⟨some 15, none, .bin .quo (.t 14) (.c (.int .u64 128))⟩,
             ⟨some 0, none, .mv true (.t 15)⟩]))))))
      (.seq
       (.region [
         ⟨some 16, none, .mv true (.t 3)⟩,
         ⟨some 17, none, .mv false (.t 0)⟩,
         ⟨some 18, none, .cvI .u8 (.t 17)⟩,
         ⟨some 19, none, .bsl 1 1 false [.int .u8 0] [(0, .t 18)] false⟩,
         ⟨some 20, none, .app 1 1 (.t 16) (.t 19)⟩,
         ⟨some 2, none, .mv true (.t 20)⟩])
       .ret)))⟩
theorem t35 : compF Try.prog {} 35 = some p35 := by kernel_rfl
def p36 : PFn :=
  ⟨15, [.t 2], .seq
    (.region [
      ⟨some 2, none, .mv true (.c (.lst 0 [] true))⟩])
    (.seq
     (.region [
       ⟨some 3, none, .mv false (.t 0)⟩,
       ⟨some 4, none, .cvI .u8 (.t 3)⟩,
       ⟨some 5, none, .mv false (.t 0)⟩,
       ⟨some 6, none, .bin .quo (.t 5) (.c (.int .u32 256))⟩,
       ⟨some 7, none, .cvI .u8 (.t 6)⟩,
       ⟨some 8, none, .mv false (.t 0)⟩,
       ⟨some 9, none, .bin .quo (.t 8) (.c (.int .u32 65536))⟩,
       ⟨some 10, none, .cvI .u8 (.t 9)⟩,
       ⟨some 11, none, .mv false (.t 0)⟩,
       ⟨some 12, none, .bin .quo (.t 11) (.c (.int .u32 16777216))⟩,
       ⟨some 13, none, .cvI .u8 (.t 12)⟩,
       ⟨some 14, none, .bsl 1 4 false [.int .u8 0, .int .u8 0, .int .u8 0, .int .u8 0] [(0, .t 4), (1, .t 7), (2, .t 10), (3, .t 13)] false⟩,
       ⟨some 2, none, .mv true (.t 14)⟩])
     .ret)⟩
theorem t36 : compF Try.prog {} 36 = some p36 := by kernel_rfl
def p37 : PFn :=
  ⟨26, [.t 2], .seq
    (.region [
      ⟨some 2, none, .mv true (.c (.int .u32 0))⟩])
    (.seq
     (.region [
       ⟨some 3, none, .mv true (.c (.int .u32 4294967295))⟩])
     (.seq
      (.seq
       (.region [
         ⟨some 4, none, .mv true (.c (.int .i64 0))⟩])
       (.block 0
        (.loop
         (.seq
          (.seq
           (.region [
             ⟨some 5, none, .mv false (.t 4)⟩,
             ⟨some 6, none, .mv false (.t 0)⟩,
             ⟨some 7, none, .len false (.t 6)⟩,
             ⟨some 8, none, .bin .lss (.t 5) (.t 7)⟩])
           (.cond (.t 8)
            .skip
            (.exit 0)))
          (.seq
           (.block 1
            (.region [
              ⟨some 11, none, .mv false (.t 3)⟩,
              ⟨some 12, none, .mv false (.t 0)⟩,
              ⟨some 13, none, .mv false (.t 4)⟩,
              ⟨some 14, none, .iad 1 (.t 12) (.t 13)⟩,
              ⟨some 15, none, .ld 1 false false (.t 14)⟩,
              ⟨some 16, none, .cvI .u32 (.t 15)⟩,
              ⟨some 17, none, .bin .xor (.t 11) (.t 16)⟩,
              ⟨some 18, none, .bin .rem (.t 17) (.c (.int .u32 256))⟩,
              ⟨some 19, none, .cvI .i64 (.t 18)⟩,
              ⟨some 20, none, .callF 44 [.t 19] []⟩,
              ⟨some 21, none, .mv false (.t 3)⟩,
              ⟨some 22, none, .bin .quo (.t 21) (.c (.int .u32 256))⟩,
              ⟨some 23, none, .bin .xor (.t 20) (.t 22)⟩,
              ⟨some 3, none, .mv true (.t 23)⟩]))
           (.region [
             ⟨some 9, none, .mv false (.t 4)⟩,
             ⟨some 10, none, .bin .add (.t 9) (.c (.int .i64 1))⟩,
             ⟨some 4, none, .mv true (.t 10)⟩]))))))
      (.seq
       (.region [
         ⟨some 24, none, .mv false (.t 3)⟩,
         ⟨some 25, none, .bin .xor (.t 24) (.c (.int .u32 4294967295))⟩,
         ⟨some 2, none, .mv true (.t 25)⟩])
       .ret)))⟩
theorem t37 : compF Try.prog {} 37 = some p37 := by kernel_rfl
def p38 : PFn :=
  ⟨51, [.t 2, .t 3, .t 4], .seq
    (.region [
      ⟨some 2, none, .mv true (.c (.int .u64 0))⟩,
      ⟨some 3, none, .mv true (.c (.lst 0 [] true))⟩,
      ⟨some 4, none, .mv true (.c (.int .i64 0))⟩])
    (.seq
     (.region [
       ⟨some 5, none, .mv true (.c (.int .u64 0))⟩])
     (.seq
      (.seq
       (.region [
         ⟨some 8, none, .mv false (.t 0)⟩,
         ⟨some 9, none, .len false (.t 8)⟩,
         ⟨some 10, none, .mv false (.c (.int .i64 0))⟩])
       (.block 0
        (.loop
         (.seq
          (.region [
            ⟨some 11, none, .bin .lss (.t 10) (.t 9)⟩])
          (.seq
           (.cond (.t 11)
            .skip
            (.exit 0))
           (.seq
            (.block 1
             (.seq
              (.region [
                ⟨some 12, none, .mv true (.t 10)⟩,
                ⟨some 13, none, .iad 1 (.t 8) (.t 10)⟩,
                ⟨some 14, none, .ld 1 false false (.t 13)⟩,
                ⟨some 6, none, .mv true (.t 12)⟩,
                ⟨some 7, none, .mv true (.t 14)⟩])
              (.seq
               (.seq
                (.region [
                  ⟨some 15, none, .mv false (.t 6)⟩,
                  ⟨some 16, none, .bin .eql (.t 15) (.c (.int .i64 10))⟩])
                (.cond (.t 16)
                 (.exit 0)
                 .skip))
               (.seq
                (.region [
                  ⟨some 17, none, .mv false (.t 5)⟩,
                  ⟨some 18, none, .mv false (.t 7)⟩,
                  ⟨some 19, none, .bin .andNot (.t 18) (.c (.int .u8 128))⟩,
                  ⟨some 20, none, .cvI .u64 (.t 19)⟩,
                  ⟨some 21, none, .mv false (.t 6)⟩,
                  ⟨some 22, none, .bin .mul (.c (.int .i64 7)) (.t 21)⟩,
                  ⟨some 23, none, .bin .shl (.t 20) (.t 22)⟩,
                  ⟨some 24, none, .bin .or (.t 17) (.t 23)⟩,
                  ⟨some 5, none, .mv true (.t 24)⟩])
                (.seq
                 (.seq
                  (.region [
                    ⟨some 25, none, .mv false (.t 7)⟩,
                    ⟨some 26, none, .bin .geq (.t 25) (.c (.int .u8 128))⟩])
                  (.cond (.t 26)
                   (.exit 1)
                   .skip))
                 (.seq
                  (.seq
                   (.region [
                     ⟨some 27, none, .mv false (.t 7)⟩,
                     ⟨some 28, none, .bin .eql (.t 27) (.c (.int .u8 0))⟩,
                     ⟨some 29, none, .mv false (.t 28)⟩,
                     ⟨some 30, some (29, true), .mv false (.t 6)⟩,
                     ⟨some 31, some (29, true), .bin .gtr (.t 30) (.c (.int .i64 0))⟩,
                     ⟨some 32, none, .pick (.t 29) (.t 31) (.c (.bool false))⟩,
                     ⟨some 33, none, .mv false (.t 32)⟩,
                     ⟨some 34, some (33, false), .mv false (.t 6)⟩,
                     ⟨some 35, some (33, false), .bin .eql (.t 34) (.c (.int .i64 9))⟩,
                     ⟨some 36, some (33, false), .mv false (.t 35)⟩,
                     ⟨some 37, some (36, true), .mv false (.t 7)⟩,
                     ⟨some 38, some (36, true), .bin .gtr (.t 37) (.c (.int .u8 1))⟩,
                     ⟨some 39, some (33, false), .pick (.t 36) (.t 38) (.c (.bool false))⟩,
                     ⟨some 40, none, .pick (.t 33) (.c (.bool true)) (.t 39)⟩])
                   (.cond (.t 40)
                    (.seq
                     (.region [
                       ⟨some 2, none, .mv true (.c (.int .u64 0))⟩,
                       ⟨some 3, none, .mv true (.c (.lst 0 [] true))⟩,
                       ⟨some 4, none, .mv true (.c (.int .i64 3))⟩])
                     .ret)
                    .skip))
                  (.seq
                   (.region [
                     ⟨some 41, none, .mv true (.t 5)⟩,
                     ⟨some 42, none, .mv false (.t 0)⟩,
                     ⟨some 43, none, .mv false (.t 6)⟩,
                     ⟨some 44, none, .bin .add (.t 43) (.c (.int .i64 1))⟩,
                     ⟨some 45, none, .sli 1 (.t 42) (some (.t 44)) none none⟩,
                     ⟨some 46, none, .callF 41 [.t 45] []⟩,
                     ⟨some 2, none, .mv true (.t 41)⟩,
                     ⟨some 3, none, .mv true (.t 46)⟩,
                     ⟨some 4, none, .mv true (.c (.int .i64 0))⟩])
                   .ret)))))))
            (.region [
              ⟨some 47, none, .bin .add (.t 10) (.c (.int .i64 1))⟩,
              ⟨some 10, none, .mv false (.t 47)⟩])))))))
      (.seq
       (.seq
        (.region [
          ⟨some 48, none, .mv false (.t 0)⟩,
          ⟨some 49, none, .len false (.t 48)⟩,
          ⟨some 50, none, .bin .geq (.t 49) (.c (.int .i64 10))⟩])
        (.cond (.t 50)
         (.seq
          (.region [
            ⟨some 2, none, .mv true (.c (.int .u64 0))⟩,
            ⟨some 3, none, .mv true (.c (.lst 0 [] true))⟩,
            ⟨some 4, none, .mv true (.c (.int .i64 3))⟩])
          .ret)
         .skip))
       (.seq
        (.region [
          ⟨some 2, none, .mv true (.c (.int .u64 0))⟩,
          ⟨some 3, none, .mv true (.c (.lst 0 [] true))⟩,
          ⟨some 4, none, .mv true (.c (.int .i64 2))⟩])
        .ret))))⟩
theorem t38 : compF Try.prog {} 38 = some p38 := by kernel_rfl
def p39 : PFn :=
  ⟨72, [.t 4, .t 5], .seq
    (.region [
      ⟨some 4, none, .mv true (.c (.lst 0 [] true))⟩,
      ⟨some 5, none, .mv true (.c (.int .i64 0))⟩])
    (.seq
     (.region [
       ⟨some 13, none, .mv false (.t 0)⟩,
       ⟨some 14, none, .len false (.t 13)⟩,
       ⟨some 6, none, .mv true (.t 14)⟩])
     (.seq
      (.region [
        ⟨some 16, none, .mv false (.t 0)⟩,
        ⟨some 17, none, .callF 38 [.t 16] []⟩,
        ⟨some 15, none, .mv true (.t 17)⟩,
        ⟨some 18, none, .ext false (.t 15) 0⟩,
        ⟨some 19, none, .ext true (.t 15) 1⟩,
        ⟨some 20, none, .ext false (.t 15) 2⟩,
        ⟨some 7, none, .mv true (.t 18)⟩,
        ⟨some 0, none, .mv true (.t 19)⟩,
        ⟨some 8, none, .mv true (.t 20)⟩])
      (.seq
       (.seq
        (.region [
          ⟨some 21, none, .mv false (.t 8)⟩,
          ⟨some 22, none, .bin .neq (.t 21) (.c (.int .i64 0))⟩,
          ⟨some 23, none, .mv false (.t 22)⟩,
          ⟨some 24, some (23, false), .mv false (.t 7)⟩,
          ⟨some 25, some (23, false), .bin .gtr (.t 24) (.c (.int .u64 1000))⟩,
          ⟨some 26, none, .pick (.t 23) (.c (.bool true)) (.t 25)⟩])
        (.cond (.t 26)
         (.seq
          (.region [
            ⟨some 4, none, .mv true (.c (.lst 0 [] true))⟩,
            ⟨some 5, none, .mv true (.c (.int .i64 3))⟩])
          .ret)
         .skip))
       (.seq
        (.region [
          ⟨some 9, none, .mv true (.c (.lst 0 [] true))⟩])
        (.seq
         (.seq
          (.region [
            ⟨some 27, none, .mv false (.t 7)⟩,
            ⟨some 28, none, .mv false (.c (.int .u64 0))⟩])
          (.block 0
           (.loop
            (.seq
             (.region [
               ⟨some 29, none, .bin .lss (.t 28) (.t 27)⟩])
             (.seq
              (.cond (.t 29)
               .skip
               (.exit 0))
              (.seq
               (.block 1
                (.seq
                 (.region [
                   ⟨some 31, none, .mv false (.t 0)⟩,
                   ⟨some 32, none, .callF 45 [.t 31] []⟩,
                   ⟨some 30, none, .mv true (.t 32)⟩,
                   ⟨some 33, none, .ext true (.t 30) 0⟩,
                   ⟨some 34, none, .ext false (.t 30) 1⟩,
                   ⟨some 35, none, .ext false (.t 30) 2⟩,
                   ⟨some 10, none, .al [.int .i64 0, .str [], .int .i64 0]⟩,
                   ⟨none, none, .sto 3 (.t 10) (.t 33)⟩,
                   ⟨some 11, none, .mv true (.t 34)⟩,
                   ⟨some 12, none, .mv true (.t 35)⟩])
                 (.seq
                  (.seq
                   (.draw [
                     ⟨some 36, none, .mv false (.t 12)⟩,
                     ⟨some 37, none, .bin .neq (.t 36) (.c (.int .i64 0))⟩,
                     ⟨some 38, none, .mv false (.t 37)⟩,
                     ⟨some 39, some (38, false), .mv false (.t 9)⟩,
                     ⟨some 40, some (38, false), .len false (.t 39)⟩,
                     ⟨some 41, some (38, false), .bin .gtr (.t 40) (.c (.int .i64 0))⟩,
                     ⟨some 42, some (38, false), .mv false (.t 41)⟩,
                     ⟨some 43, some (42, true), .mv false (.t 9)⟩,
                     ⟨some 44, some (42, true), .mv false (.t 9)⟩,
                     ⟨some 45, some (42, true), .len false (.t 44)⟩,
                     ⟨some 46, some (42, true), .bin .sub (.t 45) (.c (.int .i64 1))⟩,
                     ⟨some 47, some (42, true), .iad 3 (.t 43) (.t 46)⟩,
                     ⟨some 48, some (42, true), .fad 1 (.t 47)⟩,
                     ⟨some 49, some (42, true), .ld 1 false false (.t 48)⟩,
                     ⟨some 50, some (42, true), .fad 1 (.t 10)⟩,
                     ⟨some 51, some (42, true), .ld 1 false false (.t 50)⟩,
                     ⟨some 52, some (42, true), .bin .geq (.t 49) (.t 51)⟩,
                     ⟨some 53, some (38, false), .pick (.t 42) (.t 52) (.c (.bool false))⟩,
                     ⟨some 54, none, .pick (.t 38) (.c (.bool true)) (.t 53)⟩] [])
                   (.cond (.t 54)
                    (.seq
                     (.region [
                       ⟨some 4, none, .mv true (.c (.lst 0 [] true))⟩,
                       ⟨some 5, none, .mv true (.c (.int .i64 3))⟩])
                     .ret)
                    .skip))
                  (.seq
                   (.region [
                     ⟨some 55, none, .mv false (.t 1)⟩,
                     ⟨some 56, none, .mv false (.t 6)⟩,
                     ⟨some 57, none, .bin .add (.t 55) (.t 56)⟩,
                     ⟨some 58, none, .mv false (.t 0)⟩,
                     ⟨some 59, none, .len false (.t 58)⟩,
                     ⟨some 60, none, .bin .sub (.t 57) (.t 59)⟩,
                     ⟨some 61, none, .fad 0 (.t 10)⟩,
                     ⟨none, none, .sto 1 (.t 61) (.t 60)⟩])
                   (.region [
                     ⟨some 62, none, .mv true (.t 9)⟩,
                     ⟨some 63, none, .ld 3 true false (.t 10)⟩,
                     ⟨some 64, none, .bsl 3 1 true [.int .i64 0, .str [], .int .i64 0] [(0, .t 63)] false⟩,
                     ⟨some 65, none, .app 3 32 (.t 62) (.t 64)⟩,
                     ⟨some 66, none, .mv true (.t 11)⟩,
                     ⟨some 9, none, .mv true (.t 65)⟩,
                     ⟨some 0, none, .mv true (.t 66)⟩])))))
               (.region [
                 ⟨some 67, none, .bin .add (.t 28) (.c (.int .u64 1))⟩,
                 ⟨some 28, none, .mv false (.t 67)⟩])))))))
         (.seq
          (.seq
           (.region [
             ⟨some 68, none, .mv false (.t 0)⟩,
             ⟨some 69, none, .len false (.t 68)⟩,
             ⟨some 70, none, .bin .gtr (.t 69) (.c (.int .i64 0))⟩])
           (.cond (.t 70)
            (.seq
             (.region [
               ⟨some 4, none, .mv true (.c (.lst 0 [] true))⟩,
               ⟨some 5, none, .mv true (.c (.int .i64 3))⟩])
             .ret)
            .skip))
          (.seq
           (.region [
             ⟨some 71, none, .mv true (.t 9)⟩,
             ⟨some 4, none, .mv true (.t 71)⟩,
             ⟨some 5, none, .mv true (.c (.int .i64 0))⟩])
           .ret)))))))⟩
theorem t39 : compF Try.prog {} 39 = some p39 := by kernel_rfl
def p40 : PFn :=
  ⟨10, [.t 4], .seq
    (.region [
      ⟨some 4, none, .mv true (.c (.bool false))⟩])
    (.seq
     (.region [
       ⟨some 5, none, .mv false (.t 0)⟩,
       ⟨some 6, none, .cvS (.t 5)⟩,
       ⟨some 7, none, .mv false (.t 1)⟩,
       ⟨some 8, none, .cvS (.t 7)⟩,
       ⟨some 9, none, .bin .eql (.t 6) (.t 8)⟩,
       ⟨some 4, none, .mv true (.t 9)⟩])
     .ret)⟩
theorem t40 : compF Try.prog {} 40 = some p40 := by kernel_rfl
def p41 : PFn :=
  ⟨8, [.t 2], .seq
    (.region [
      ⟨some 2, none, .mv true (.c (.lst 0 [] true))⟩])
    (.seq
     (.seq
      (.region [
        ⟨some 3, none, .mv false (.t 0)⟩,
        ⟨some 4, none, .eqN false (.t 3)⟩])
      (.cond (.t 4)
       (.seq
        (.region [
          ⟨some 2, none, .mv true (.c (.lst 0 [] true))⟩])
        .ret)
       .skip))
     (.seq
      (.region [
        ⟨some 5, none, .bsl 1 0 false [] [] false⟩,
        ⟨some 6, none, .mv false (.t 0)⟩,
        ⟨some 7, none, .app 1 1 (.t 5) (.t 6)⟩,
        ⟨some 2, none, .mv true (.t 7)⟩])
      .ret))⟩
theorem t41 : compF Try.prog {} 41 = some p41 := by kernel_rfl
def p42 : PFn :=
  ⟨25, [.t 2], .seq
    (.region [
      ⟨some 2, none, .mv true (.c (.int .i64 0))⟩])
    (.seq
     (.seq
      (.region [
        ⟨some 3, none, .mv false (.t 0)⟩,
        ⟨some 4, none, .bin .geq (.t 3) (.c (.int .u64 4294967296))⟩])
      (.cond (.t 4)
       (.seq
        (.region [
          ⟨some 5, none, .mv false (.t 0)⟩,
          ⟨some 6, none, .bin .shr (.t 5) (.c (.int .u64 32))⟩,
          ⟨some 0, none, .mv true (.t 6)⟩])
        (.region [
          ⟨some 2, none, .mv true (.c (.int .i64 32))⟩]))
       .skip))
     (.seq
      (.seq
       (.region [
         ⟨some 7, none, .mv false (.t 0)⟩,
         ⟨some 8, none, .bin .geq (.t 7) (.c (.int .u64 65536))⟩])
       (.cond (.t 8)
        (.seq
         (.region [
           ⟨some 9, none, .mv false (.t 0)⟩,
           ⟨some 10, none, .bin .shr (.t 9) (.c (.int .u64 16))⟩,
           ⟨some 0, none, .mv true (.t 10)⟩])
         (.region [
           ⟨some 11, none, .mv false (.t 2)⟩,
           ⟨some 12, none, .bin .add (.t 11) (.c (.int .i64 16))⟩,
           ⟨some 2, none, .mv true (.t 12)⟩]))
        .skip))
      (.seq
       (.seq
        (.region [
          ⟨some 13, none, .mv false (.t 0)⟩,
          ⟨some 14, none, .bin .geq (.t 13) (.c (.int .u64 256))⟩])
        (.cond (.t 14)
         (.seq
          (.region [
            ⟨some 15, none, .mv false (.t 0)⟩,
            ⟨some 16, none, .bin .shr (.t 15) (.c (.int .u64 8))⟩,
            ⟨some 0, none, .mv true (.t 16)⟩])
          (.region [
            ⟨some 17, none, .mv false (.t 2)⟩,
            ⟨some 18, none, .bin .add (.t 17) (.c (.int .i64 8))⟩,
            ⟨some 2, none, .mv true (.t 18)⟩]))
         .skip))
       (.seq
        (.region [
          ⟨some 19, none, .mv false (.t 2)⟩,
          ⟨some 20, none, .mv false (.t 0)⟩,
          ⟨some 21, none, .cvI .u8 (.t 20)⟩,
          ⟨some 22, none, .idx (.c (.str lenL)) (.t 21)⟩,
          ⟨some 23, none, .cvI .i64 (.t 22)⟩,
          ⟨some 24, none, .bin .add (.t 19) (.t 23)⟩,
          ⟨some 2, none, .mv true (.t 24)⟩])
        .ret))))⟩
theorem t42 : compF Try.prog {} 42 = some p42 := by kernel_rfl
def p43 : PFn :=
  ⟨31, [.t 6, .t 7], .seq
    (.region [
      ⟨some 6, none, .mv true (.c (.int .u32 0))⟩,
      ⟨some 7, none, .mv true (.c (.int .i64 0))⟩])
    (.seq
     (.seq
      (.region [
        ⟨some 10, none, .mv false (.t 0)⟩,
        ⟨some 11, none, .len false (.t 10)⟩,
        ⟨some 12, none, .bin .neq (.t 11) (.c (.int .i64 256))⟩])
      (.cond (.t 12)
       (.seq
        (.region [
          ⟨some 6, none, .mv true (.c (.int .u32 0))⟩,
          ⟨some 7, none, .mv true (.c (.int .i64 1))⟩])
        .ret)
       .skip))
     (.seq
      (.seq
       (.region [
         ⟨some 13, none, .mv false (.t 2)⟩,
         ⟨some 14, none, .len false (.t 13)⟩,
         ⟨some 15, none, .mv false (.c (.int .i64 0))⟩])
       (.block 0
        (.loop
         (.seq
          (.region [
            ⟨some 16, none, .bin .lss (.t 15) (.t 14)⟩])
          (.seq
           (.cond (.t 16)
            .skip
            (.exit 0))
           (.seq
            (.block 1
             (.seq
              (.region [
                ⟨some 17, none, .iad 1 (.t 13) (.t 15)⟩,
                ⟨some 18, none, .ld 1 false false (.t 17)⟩,
                ⟨some 9, none, .mv true (.t 18)⟩])
              (.region [
                ⟨some 19, none, .mv false (.t 0)⟩,
                ⟨some 20, none, .mv false (.t 1)⟩,
                ⟨some 21, none, .cvI .u8 (.t 20)⟩,
                ⟨some 22, none, .mv false (.t 9)⟩,
                ⟨some 23, none, .bin .xor (.t 21) (.t 22)⟩,
                ⟨some 24, none, .iad 1 (.t 19) (.t 23)⟩,
                ⟨some 25, none, .ld 1 false false (.t 24)⟩,
                ⟨some 26, none, .mv false (.t 1)⟩,
                ⟨some 27, none, .bin .shr (.t 26) (.c (.int .u64 8))⟩,
                ⟨some 28, none, .bin .xor (.t 25) (.t 27)⟩,
                ⟨some 1, none, .mv true (.t 28)⟩])))
            (.region [
              ⟨some 29, none, .bin .add (.t 15) (.c (.int .i64 1))⟩,
              ⟨some 15, none, .mv false (.t 29)⟩])))))))
      (.seq
       (.region [
         ⟨some 30, none, .mv true (.t 1)⟩,
         ⟨some 6, none, .mv true (.t 30)⟩,
         ⟨some 7, none, .mv true (.c (.int .i64 0))⟩])
       .ret)))⟩
theorem t43 : compF Try.prog {} 43 = some p43 := by kernel_rfl
def p44 : PFn :=
  ⟨21, [.t 2], .seq
    (.region [
      ⟨some 2, none, .mv true (.c (.int .u32 0))⟩])
    (.seq
     (.region [
       ⟨some 6, none, .mv false (.t 0)⟩,
       ⟨some 7, none, .cvI .u32 (.t 6)⟩,
       ⟨some 3, none, .mv true (.t 7)⟩])
     (.seq
      (.seq
       (.region [
         ⟨some 4, none, .mv true (.c (.int .i64 0))⟩])
       (.block 0
        (.loop
         (.seq
          (.seq
           (.region [
             ⟨some 8, none, .mv false (.t 4)⟩,
             ⟨some 9, none, .bin .lss (.t 8) (.c (.int .i64 8))⟩])
           (.cond (.t 9)
            .skip
            (.exit 0)))
          (.seq
           (.block 1
            (.seq
             (.region [
               ⟨some 12, none, .mv false (.t 3)⟩,
               ⟨some 13, none, .bin .rem (.t 12) (.c (.int .u32 2))⟩,
               ⟨some 14, none, .bin .eql (.t 13) (.c (.int .u32 1))⟩,
               ⟨some 5, none, .mv true (.t 14)⟩])
             (.seq
              (.region [
                ⟨some 15, none, .mv false (.t 3)⟩,
                ⟨some 16, none, .bin .quo (.t 15) (.c (.int .u32 2))⟩,
                ⟨some 3, none, .mv true (.t 16)⟩])
              (.seq
               (.region [
                 ⟨some 17, none, .mv false (.t 5)⟩])
               (.cond (.t 17)
                (.region [
                  ⟨some 18, none, .mv false (.t 3)⟩,
                  ⟨some 19, none, .bin .xor (.t 18) (.c (.int .u32 3988292384))⟩,
                  ⟨some 3, none, .mv true (.t 19)⟩])
                .skip)))))
           (.region [
             ⟨some 10, none, .mv false (.t 4)⟩,
             ⟨some 11, none, .bin .add (.t 10) (.c (.int .i64 1))⟩,
             ⟨some 4, none, .mv true (.t 11)⟩]))))))
      (.seq
       (.region [
         ⟨some 20, none, .mv true (.t 3)⟩,
         ⟨some 2, none, .mv true (.t 20)⟩])
       .ret)))⟩
theorem t44 : compF Try.prog {} 44 = some p44 := by kernel_rfl
def p45 : PFn :=
  ⟨39, [.c 2 3 true, .t 3, .t 4], .seq
    (.region [
      ⟨some 2, none, .al [.int .i64 0, .str [], .int .i64 0]⟩,
      ⟨some 3, none, .mv true (.c (.lst 0 [] true))⟩,
      ⟨some 4, none, .mv true (.c (.int .i64 0))⟩])
    (.seq
     (.region [
       ⟨some 9, none, .mv false (.t 0)⟩,
       ⟨some 10, none, .callF 46 [.t 9, .c (.int .i64 100)] []⟩,
       ⟨some 8, none, .mv true (.t 10)⟩,
       ⟨some 11, none, .ext false (.t 8) 0⟩,
       ⟨some 12, none, .ext true (.t 8) 1⟩,
       ⟨some 13, none, .ext false (.t 8) 2⟩,
       ⟨some 5, none, .mv true (.t 11)⟩,
       ⟨some 0, none, .mv true (.t 12)⟩,
       ⟨some 6, none, .mv true (.t 13)⟩])
     (.seq
      (.seq
       (.region [
         ⟨some 14, none, .mv false (.t 6)⟩,
         ⟨some 15, none, .bin .neq (.t 14) (.c (.int .i64 0))⟩,
         ⟨some 16, none, .mv false (.t 15)⟩,
         ⟨some 17, some (16, false), .mv false (.t 5)⟩,
         ⟨some 18, some (16, false), .bin .eql (.t 17) (.c (.str []))⟩,
         ⟨some 19, none, .pick (.t 16) (.c (.bool true)) (.t 18)⟩])
       (.cond (.t 19)
        (.seq
         (.region [
           ⟨some 20, none, .build [.int .i64 0, .str [], .int .i64 0] []⟩,
           ⟨none, none, .sto 3 (.t 2) (.t 20)⟩,
           ⟨some 3, none, .mv true (.c (.lst 0 [] true))⟩,
           ⟨some 4, none, .mv true (.c (.int .i64 3))⟩])
         .ret)
        .skip))
      (.seq
       (.region [
         ⟨some 22, none, .mv false (.t 0)⟩,
         ⟨some 23, none, .callF 38 [.t 22] []⟩,
         ⟨some 21, none, .mv true (.t 23)⟩,
         ⟨some 24, none, .ext false (.t 21) 0⟩,
         ⟨some 25, none, .ext true (.t 21) 1⟩,
         ⟨some 26, none, .ext false (.t 21) 2⟩,
         ⟨some 7, none, .mv true (.t 24)⟩,
         ⟨some 0, none, .mv true (.t 25)⟩,
         ⟨some 6, none, .mv true (.t 26)⟩])
       (.seq
        (.seq
         (.region [
           ⟨some 27, none, .mv false (.t 6)⟩,
           ⟨some 28, none, .bin .neq (.t 27) (.c (.int .i64 0))⟩,
           ⟨some 29, none, .mv false (.t 28)⟩,
           ⟨some 30, some (29, false), .mv false (.t 7)⟩,
           ⟨some 31, some (29, false), .bin .gtr (.t 30) (.c (.int .u64 1000))⟩,
           ⟨some 32, none, .pick (.t 29) (.c (.bool true)) (.t 31)⟩])
         (.cond (.t 32)
          (.seq
           (.region [
             ⟨some 33, none, .build [.int .i64 0, .str [], .int .i64 0] []⟩,
             ⟨none, none, .sto 3 (.t 2) (.t 33)⟩,
             ⟨some 3, none, .mv true (.c (.lst 0 [] true))⟩,
             ⟨some 4, none, .mv true (.c (.int .i64 3))⟩])
           .ret)
          .skip))
        (.seq
         (.region [
           ⟨some 34, none, .mv false (.t 5)⟩,
           ⟨some 35, none, .mv false (.t 7)⟩,
           ⟨some 36, none, .cvI .i64 (.t 35)⟩,
           ⟨some 37, none, .build [.int .i64 0, .str [], .int .i64 0] [(1, (1, .t 34)), (2, (1, .t 36))]⟩,
           ⟨some 38, none, .mv true (.t 0)⟩,
           ⟨none, none, .sto 3 (.t 2) (.t 37)⟩,
           ⟨some 3, none, .mv true (.t 38)⟩,
           ⟨some 4, none, .mv true (.c (.int .i64 0))⟩])
         .ret)))))⟩
theorem t45 : compF Try.prog {} 45 = some p45 := by kernel_rfl
def p46 : PFn :=
  ⟨42, [.t 4, .t 5, .t 6], .seq
    (.region [
      ⟨some 4, none, .mv true (.c (.str []))⟩,
      ⟨some 5, none, .mv true (.c (.lst 0 [] true))⟩,
      ⟨some 6, none, .mv true (.c (.int .i64 0))⟩])
    (.seq
     (.region [
       ⟨some 11, none, .mv false (.t 0)⟩,
       ⟨some 12, none, .callF 38 [.t 11] []⟩,
       ⟨some 10, none, .mv true (.t 12)⟩,
       ⟨some 13, none, .ext false (.t 10) 0⟩,
       ⟨some 14, none, .ext true (.t 10) 1⟩,
       ⟨some 15, none, .ext false (.t 10) 2⟩,
       ⟨some 7, none, .mv true (.t 13)⟩,
       ⟨some 8, none, .mv true (.t 14)⟩,
       ⟨some 9, none, .mv true (.t 15)⟩])
     (.seq
      (.block 0
       (.seq
        (.region [
          ⟨some 17, none, .mv false (.t 9)⟩,
          ⟨some 18, none, .bin .neq (.t 17) (.c (.int .i64 0))⟩,
          ⟨some 16, none, .mv true (.t 18)⟩])
        (.cond (.t 16)
         (.seq
          (.region [
            ⟨some 19, none, .mv true (.t 9)⟩,
            ⟨some 4, none, .mv true (.c (.str []))⟩,
            ⟨some 5, none, .mv true (.c (.lst 0 [] true))⟩,
            ⟨some 6, none, .mv true (.t 19)⟩])
          .ret)
         (.seq
          (.region [
            ⟨some 21, none, .mv false (.t 1)⟩,
            ⟨some 22, none, .bin .lss (.t 21) (.c (.int .i64 0))⟩,
            ⟨some 23, none, .mv false (.t 22)⟩,
            ⟨some 24, some (23, false), .mv false (.t 7)⟩,
            ⟨some 25, some (23, false), .mv false (.t 1)⟩,
            ⟨some 26, some (23, false), .cvI .u64 (.t 25)⟩,
            ⟨some 27, some (23, false), .bin .gtr (.t 24) (.t 26)⟩,
            ⟨some 28, none, .pick (.t 23) (.c (.bool true)) (.t 27)⟩,
            ⟨some 20, none, .mv true (.t 28)⟩])
          (.cond (.t 20)
           (.seq
            (.region [
              ⟨some 4, none, .mv true (.c (.str []))⟩,
              ⟨some 5, none, .mv true (.c (.lst 0 [] true))⟩,
              ⟨some 6, none, .mv true (.c (.int .i64 5))⟩])
            .ret)
           (.seq
            (.region [
              ⟨some 30, none, .mv false (.t 7)⟩,
              ⟨some 31, none, .mv false (.t 8)⟩,
              ⟨some 32, none, .len false (.t 31)⟩,
              ⟨some 33, none, .cvI .u64 (.t 32)⟩,
              ⟨some 34, none, .bin .gtr (.t 30) (.t 33)⟩,
              ⟨some 29, none, .mv true (.t 34)⟩])
            (.cond (.t 29)
             (.seq
              (.region [
                ⟨some 4, none, .mv true (.c (.str []))⟩,
                ⟨some 5, none, .mv true (.c (.lst 0 [] true))⟩,
                ⟨some 6, none, .mv true (.c (.int .i64 2))⟩])
              .ret)
             .skip)))))))
      (.seq
       (.draw [
         ⟨some 35, none, .mv false (.t 8)⟩,
         ⟨some 36, none, .mv false (.t 7)⟩,
         ⟨some 37, none, .sli 1 (.t 35) none (some (.t 36)) none⟩,
         ⟨some 38, none, .cvS (.t 37)⟩,
         ⟨some 39, none, .mv false (.t 8)⟩,
         ⟨some 40, none, .mv false (.t 7)⟩,
         ⟨some 41, none, .sli 1 (.t 39) (some (.t 40)) none none⟩,
         ⟨some 4, none, .mv true (.t 38)⟩,
         ⟨some 5, none, .mv true (.t 41)⟩,
         ⟨some 6, none, .mv true (.c (.int .i64 0))⟩] [])
       .ret)))⟩
theorem t46 : compF Try.prog {} 46 = some p46 := by kernel_rfl
def p17r : PFn :=
  ⟨23, [.t 0], .seq
    (.region [
      ⟨some 0, none, .mv true (.c (.lst 0 [] true))⟩])
    (.seq
     (.region [
       ⟨some 4, none, .mk 1 4 false [.int .u32 0] (.c (.int .i64 256)) (.c (.int .i64 256)) true⟩,
       ⟨some 1, none, .mv true (.t 4)⟩])
     (.seq
      (.seq
       (.region [
         ⟨some 5, none, .mv false (.t 1)⟩,
         ⟨some 6, none, .len false (.t 5)⟩,
         ⟨some 7, none, .mv false (.c (.int .i64 0))⟩])
       (.block 0
        (.loop
         (.seq
          (.region [
            ⟨some 8, none, .bin .lss (.t 7) (.t 6)⟩])
          (.seq
           (.cond (.t 8)
            .skip
            (.exit 0))
           (.seq
            (.block 1
             (.seq
              (.region [
                ⟨some 9, none, .mv true (.t 7)⟩,
                ⟨some 2, none, .mv true (.t 9)⟩])
              (.seq
               (.region [
                 ⟨some 10, none, .mv false (.t 2)⟩,
                 ⟨some 11, none, .cvI .u32 (.t 10)⟩,
                 ⟨some 3, none, .mv true (.t 11)⟩])
               (.seq
                (.seq
                 (.region [
                   ⟨some 12, none, .mv false (.c (.int .i64 0))⟩])
                 (.block 2
                  (.loop
                   (.seq
                    (.region [
                      ⟨some 13, none, .bin .lss (.t 12) (.c (.int .i64 8))⟩])
                    (.seq
                     (.cond (.t 13)
                      .skip
                      (.exit 2))
                     (.seq
                      (.block 3
                       (.region [
                         ⟨some 14, none, .mv false (.t 3)⟩,
                         ⟨some 15, none, .callF 31 [.t 14] []⟩,
                         ⟨some 3, none, .mv true (.t 15)⟩]))
                      (.region [
                        ⟨some 16, none, .bin .add (.t 12) (.c (.int .i64 1))⟩,
                        ⟨some 12, none, .mv false (.t 16)⟩])))))))
                (.region [
                  ⟨some 17, none, .mv false (.t 1)⟩,
                  ⟨some 18, none, .mv false (.t 2)⟩,
                  ⟨some 19, none, .mv true (.t 3)⟩,
                  ⟨some 20, none, .iad 1 (.t 17) (.t 18)⟩,
                  ⟨none, none, .sto 1 (.t 20) (.t 19)⟩])))))
            (.region [
              ⟨some 21, none, .bin .add (.t 7) (.c (.int .i64 1))⟩,
              ⟨some 7, none, .mv false (.t 21)⟩])))))))
      (.seq
       (.region [
         ⟨some 22, none, .mv true (.t 1)⟩,
         ⟨some 0, none, .mv true (.t 22)⟩])
       .ret)))⟩
theorem t17r : compF Try.prog { rows := [4] } 17 = some p17r := by kernel_rfl
def p21t : PFn :=
  ⟨36, [.t 2], .seq
    (.region [
      ⟨some 2, none, .mv true (.c (.lst 0 [] true))⟩])
    (.seq
     (.region [
       ⟨some 3, none, .mv true (.c (.int .i64 0))⟩])
     (.seq
      (.seq
       (.region [
         ⟨some 9, none, .mv false (.t 0)⟩,
         ⟨some 10, none, .len false (.t 9)⟩,
         ⟨some 11, none, .mv false (.c (.int .i64 0))⟩])
       (.block 0
        (.loop
         (.seq
          (.region [
            ⟨some 12, none, .bin .lss (.t 11) (.t 10)⟩])
          (.seq
           (.cond (.t 12)
            .skip
            (.exit 0))
           (.seq
            (.block 1
             (.seq
              (.region [
                ⟨some 13, none, .iad 1 (.t 9) (.t 11)⟩,
                ⟨some 14, none, .ld 1 false false (.t 13)⟩,
                ⟨some 5, none, .mv true (.t 14)⟩])
              (.seq
               (.region [
                 ⟨some 15, none, .mv false (.t 3)⟩,
                 ⟨some 16, none, .mv false (.t 5)⟩,
                 ⟨some 17, none, .len false (.t 16)⟩,
                 ⟨some 18, none, .bin .add (.t 15) (.t 17)⟩,
                 ⟨some 3, none, .mv true (.t 18)⟩])
               (.seq
                (.region [
                  ⟨some 19, none, .mv false (.t 3)⟩,
                  ⟨some 20, none, .bin .lss (.t 19) (.c (.int .i64 0))⟩])
                (.cond (.t 20)
                 (.region [
                   ⟨some 21, none, .bad⟩,
                   ⟨none, none, .bad⟩])
                 .skip)))))
            (.region [
              ⟨some 22, none, .bin .add (.t 11) (.c (.int .i64 1))⟩,
              ⟨some 11, none, .mv false (.t 22)⟩])))))))
      (.seq
       (.region [
         ⟨some 23, none, .mv false (.t 3)⟩,
         ⟨some 24, none, .callF 34 [.c (.lst 0 [] true), .t 23] [true]⟩,
         ⟨some 6, none, .mv true (.t 24)⟩])
       (.seq
        (.seq
         (.region [
           ⟨some 25, none, .mv false (.t 0)⟩,
           ⟨some 26, none, .len false (.t 25)⟩,
           ⟨some 27, none, .mv false (.c (.int .i64 0))⟩])
         (.block 2
          (.loop
           (.seq
            (.region [
              ⟨some 28, none, .bin .lss (.t 27) (.t 26)⟩])
            (.seq
             (.cond (.t 28)
              .skip
              (.exit 2))
             (.seq
              (.block 3
               (.seq
                (.region [
                  ⟨some 29, none, .iad 1 (.t 25) (.t 27)⟩,
                  ⟨some 30, none, .ld 1 false false (.t 29)⟩,
                  ⟨some 8, none, .mv true (.t 30)⟩])
                (.region [
                  ⟨some 31, none, .mv true (.t 6)⟩,
                  ⟨some 32, none, .mv false (.t 8)⟩,
                  ⟨some 33, none, .app 1 1 (.t 31) (.t 32)⟩,
                  ⟨some 6, none, .mv true (.t 33)⟩])))
              (.region [
                ⟨some 34, none, .bin .add (.t 27) (.c (.int .i64 1))⟩,
                ⟨some 27, none, .mv false (.t 34)⟩])))))))
        (.seq
         (.region [
           ⟨some 35, none, .mv true (.t 6)⟩,
           ⟨some 2, none, .mv true (.t 35)⟩])
         .ret)))))⟩
theorem t21t : compF Try.prog { takes := [(34, [true])] } 21 = some p21t := by kernel_rfl
def tab : List (Nat × PFn) := [(2, p2), (3, p3), (4, p4), (5, p5), (6, p6), (7, p7), (8, p8), (9, p9), (10, p10), (11, p11), (12, p12), (13, p13), (14, p14), (15, p15), (16, p16), (17, p17), (18, p18), (19, p19), (20, p20), (21, p21), (22, p22), (23, p23), (24, p24), (25, p25), (26, p26), (27, p27), (28, p28), (29, p29), (30, p30), (31, p31), (32, p32), (33, p33), (34, p34), (35, p35), (36, p36), (37, p37), (38, p38), (39, p39), (40, p40), (41, p41), (42, p42), (43, p43), (44, p44), (45, p45), (46, p46)]
theorem tabOk : TabOk Try.prog tab := .cons t2 <| .cons t3 <| .cons t4 <| .cons t5 <| .cons t6 <| .cons t7 <| .cons t8 <| .cons t9 <| .cons t10 <| .cons t11 <| .cons t12 <| .cons t13 <| .cons t14 <| .cons t15 <| .cons t16 <| .cons t17 <| .cons t18 <| .cons t19 <| .cons t20 <| .cons t21 <| .cons t22 <| .cons t23 <| .cons t24 <| .cons t25 <| .cons t26 <| .cons t27 <| .cons t28 <| .cons t29 <| .cons t30 <| .cons t31 <| .cons t32 <| .cons t33 <| .cons t34 <| .cons t35 <| .cons t36 <| .cons t37 <| .cons t38 <| .cons t39 <| .cons t40 <| .cons t41 <| .cons t42 <| .cons t43 <| .cons t44 <| .cons t45 <| .cons t46 <| .nil
theorem hmix : Try.prog.follows .mixedOrders = true := by kernel_rfl
theorem good (n d : Nat) : Good Try.prog (evF (tabOf tab) noPrim n d) := evF_sound hmix tabOk noPrim_good d
end Go.Proofs.Ytmpomnnaoggdkaa.E
/- Bytes as data: turned into strings, and cloned. -/
namespace Go.Proofs.Ytmpomnnaoggdkaa.E
open Go Go.RowKit Go.Proofs
set_option linter.unusedVariables false
set_option linter.unusedSimpArgs false
theorem ci_u8 (l : List Nat) : (ci l).map (PV.int .u8) = l.map u8 := by simp [ci, Function.comp_def, u8]
theorem ci_len (l : List Nat) : (ci l).length = l.length := List.length_map ..
attribute [simp] ci_u8 ci_len
theorem toInts_u8 : ∀ l : List Nat, toInts (l.map u8) = some (ci l)
  | [] => rfl
  | x :: l => by simp [toInts, toInts_u8 l, ci]
theorem norm_ci {l : List Nat} (hw : ∀ x ∈ l, x < 256) : (ci l).map norm8 = ci l := by
  simp only [ci, List.map_map]
  refine List.map_congr_left fun x hx => ?_
  have := hw x hx
  simp only [Function.comp_apply]
  exact norm8_of (by omega)
theorem cvS_u8 {s : Nat} {xs : List PV} {o : Bool} {l : List Nat} (hx : xs = l.map u8) (hs : s = 1 ∨ l.length = 0) (hw : ∀ x ∈ l, x < 256) : cvSP (.lst s xs o) = some (.str (ci l)) := by
  subst hx
  have h1 : s = 1 ∨ (l.map u8).isEmpty = true := hs.imp id fun h => by rw [List.length_eq_zero_iff.1 h]; rfl
  simp only [cvSP, if_pos h1, toInts_u8, Option.map_some, norm_ci hw]
theorem ci_iff {a b : List Nat} : ci a = ci b ↔ a = b := ⟨ci_inj, fun h => by rw [h]⟩
attribute [simp] ci_iff ci_nil
end Go.Proofs.Ytmpomnnaoggdkaa.E
/- Varints: what the program's functions and the document's come to. -/
namespace Go.Proofs.Ytmpomnnaoggdkaa.E
open Go Go.RowKit Go.Proofs
set_option linter.unusedVariables false
set_option linter.unusedSimpArgs false
theorem lenL_get {v : Nat} (h : v < 256) : lenL[v]? = some ((bl v : Nat) : Int) ∧ bl v ≤ 8 := by
  obtain ⟨l, hl, h1, h2⟩ := lenL_at v (List.mem_range.2 h)
  rw [isLen_unique (isLen_bl v) h2]
  exact ⟨h1, by have := List.mem_range.1 hl; omega⟩
theorem lenL_len : lenL.length = 256 := by decide +kernel
theorem bl_up {n m : Nat} (hn : 2 ^ m ≤ n) : bl n = bl (n / 2 ^ m) + m := isLen_unique (isLen_bl n) (isLen_up hn (isLen_bl _))
set_option maxRecDepth 4000 in
theorem len64_ok (n : Nat) (h : n < 18446744073709551616) : PSpec Try.prog 42 [.int .u64 n] (.int .i64 (bl n : Nat)) := by
  intro H
  refine spec_of t42 (by simp [p42]) ?_
  simp only [p42]
  generalize hL : lenL = L
  have hLl : L.length = 256 := by rw [← hL]; exact lenL_len
  first | refine pwp_sr ?_ | refine pwp_regionM ?_
  intro K hK
  simp (disch := first | (refine Ok.mk ?_; (try simp only [Lm, La, Lc, Ln, Lt, Ld, Lr, Li, true_or, or_true, true_and, and_true]); omega) | (simp <;> fail) | skip) [runM_nil]
  refine hK _ _ ?_
  clear hK K
  refine pwp_cut [0, 2] (fun st2 H2 => ∃ m s : Nat, m < 4294967296 ∧ bl n = bl m + s ∧ s ≤ 32 ∧ st2 = MS 25 [(0, .int .u64 m), (2, .int .i64 s)] ∧ H = H2) ?_ ?_
  · first | refine pwp_rif ?_ | refine pwp_rifE ?_
    intro K hK
    simp (disch := first | (refine Ok.mk ?_; (try simp only [Lm, La, Lc, Ln, Lt, Ld, Lr, Li, true_or, or_true, true_and, and_true]); omega) | (simp <;> fail) | skip) [runM_nil]
    refine hK _ _ ?_
    clear hK K
    refine ⟨_, (by simp (disch := first | (refine Ok.mk ?_; (try simp only [Lm, La, Lc, Ln, Lt, Ld, Lr, Li, true_or, or_true, true_and, and_true]); omega) | (simp <;> fail) | skip) [runM_nil]; rfl), fun hc => ?_, fun hc => ?_⟩ <;> try simp at hc
    · have e := bl_up (n := n) (m := 32) (by omega)
      first | refine pwp_sr ?_ | refine pwp_regionM ?_
      intro K hK
      simp (disch := first | (refine Ok.mk ?_; (try simp only [Lm, La, Lc, Ln, Lt, Ld, Lr, Li, true_or, or_true, true_and, and_true]); omega) | (simp <;> fail) | skip) [runM_nil]
      refine hK _ _ ?_
      clear hK K
      first | refine pwp_sr ?_ | refine pwp_regionM ?_
      intro K hK
      simp (disch := first | (refine Ok.mk ?_; (try simp only [Lm, La, Lc, Ln, Lt, Ld, Lr, Li, true_or, or_true, true_and, and_true]); omega) | (simp <;> fail) | skip) [runM_nil]
      refine hK _ _ ?_
      clear hK K
      exact cut_to (by simp [keepA, getS]) (.refl _) ⟨n / 4294967296, 32, by omega, e, by omega, rfl, rfl⟩
    · refine pwp_skip ?_
      exact cut_to (by simp [keepA, getS]) (.refl _) ⟨n, 0, by omega, by omega, by omega, rfl, rfl⟩
  rintro _ _ ⟨m, s, hm, hb, hs, rfl, rfl⟩
  refine pwp_cut [0, 2] (fun st2 H2 => ∃ m s : Nat, m < 65536 ∧ bl n = bl m + s ∧ s ≤ 48 ∧ st2 = MS 25 [(0, .int .u64 m), (2, .int .i64 s)] ∧ H = H2) ?_ ?_
  · first | refine pwp_rif ?_ | refine pwp_rifE ?_
    intro K hK
    simp (disch := first | (refine Ok.mk ?_; (try simp only [Lm, La, Lc, Ln, Lt, Ld, Lr, Li, true_or, or_true, true_and, and_true]); omega) | (simp <;> fail) | skip) [runM_nil]
    refine hK _ _ ?_
    clear hK K
    refine ⟨_, (by simp (disch := first | (refine Ok.mk ?_; (try simp only [Lm, La, Lc, Ln, Lt, Ld, Lr, Li, true_or, or_true, true_and, and_true]); omega) | (simp <;> fail) | skip) [runM_nil]; rfl), fun hc => ?_, fun hc => ?_⟩ <;> try simp at hc
    · have e : bl m = bl (m / 65536) + 16 := bl_up (m := 16) (by omega)
      first | refine pwp_sr ?_ | refine pwp_regionM ?_
      intro K hK
      simp (disch := first | (refine Ok.mk ?_; (try simp only [Lm, La, Lc, Ln, Lt, Ld, Lr, Li, true_or, or_true, true_and, and_true]); omega) | (simp <;> fail) | skip) [runM_nil]
      refine hK _ _ ?_
      clear hK K
      first | refine pwp_sr ?_ | refine pwp_regionM ?_
      intro K hK
      simp (disch := first | (refine Ok.mk ?_; (try simp only [Lm, La, Lc, Ln, Lt, Ld, Lr, Li, true_or, or_true, true_and, and_true]); omega) | (simp <;> fail) | skip) [runM_nil]
      refine hK _ _ ?_
      clear hK K
      exact cut_to (by simp [keepA, getS]) (.refl _) ⟨m / 65536, s + 16, by omega, by omega, by omega, rfl, rfl⟩
    · refine pwp_skip ?_
      exact cut_to (by simp [keepA, getS]) (.refl _) ⟨m, s, by omega, by omega, by omega, rfl, rfl⟩
  clear hm hb hs
  rintro _ _ ⟨m, s, hm, hb, hs, rfl, rfl⟩
  refine pwp_cut [0, 2] (fun st2 H2 => ∃ m s : Nat, m < 256 ∧ bl n = bl m + s ∧ s ≤ 56 ∧ st2 = MS 25 [(0, .int .u64 m), (2, .int .i64 s)] ∧ H = H2) ?_ ?_
  · first | refine pwp_rif ?_ | refine pwp_rifE ?_
    intro K hK
    simp (disch := first | (refine Ok.mk ?_; (try simp only [Lm, La, Lc, Ln, Lt, Ld, Lr, Li, true_or, or_true, true_and, and_true]); omega) | (simp <;> fail) | skip) [runM_nil]
    refine hK _ _ ?_
    clear hK K
    refine ⟨_, (by simp (disch := first | (refine Ok.mk ?_; (try simp only [Lm, La, Lc, Ln, Lt, Ld, Lr, Li, true_or, or_true, true_and, and_true]); omega) | (simp <;> fail) | skip) [runM_nil]; rfl), fun hc => ?_, fun hc => ?_⟩ <;> try simp at hc
    · have e : bl m = bl (m / 256) + 8 := bl_up (m := 8) (by omega)
      first | refine pwp_sr ?_ | refine pwp_regionM ?_
      intro K hK
      simp (disch := first | (refine Ok.mk ?_; (try simp only [Lm, La, Lc, Ln, Lt, Ld, Lr, Li, true_or, or_true, true_and, and_true]); omega) | (simp <;> fail) | skip) [runM_nil]
      refine hK _ _ ?_
      clear hK K
      first | refine pwp_sr ?_ | refine pwp_regionM ?_
      intro K hK
      simp (disch := first | (refine Ok.mk ?_; (try simp only [Lm, La, Lc, Ln, Lt, Ld, Lr, Li, true_or, or_true, true_and, and_true]); omega) | (simp <;> fail) | skip) [runM_nil]
      refine hK _ _ ?_
      clear hK K
      exact cut_to (by simp [keepA, getS]) (.refl _) ⟨m / 256, s + 8, by omega, by omega, by omega, rfl, rfl⟩
    · refine pwp_skip ?_
      exact cut_to (by simp [keepA, getS]) (.refl _) ⟨m, s, by omega, by omega, by omega, rfl, rfl⟩
  clear hm hb hs
  rintro _ _ ⟨m, s, hm, hb, hs, rfl, rfl⟩
  have hg := lenL_get hm
  rw [hL] at hg
  obtain ⟨hg, h8⟩ := hg
  first | refine pwp_sr ?_ | refine pwp_regionM ?_
  intro K hK
  simp (disch := first | (refine Ok.mk ?_; (try simp only [Lm, La, Lc, Ln, Lt, Ld, Lr, Li, true_or, or_true, true_and, and_true]); omega) | (simp <;> fail) | skip) [runM_nil, hg, hm, hLl]
  refine hK _ _ ?_
  clear hK K
  refine pwp_ret ⟨.inr rfl, _, _, (by simp (disch := first | (refine Ok.mk ?_; (try simp only [Lm, La, Lc, Ln, Lt, Ld, Lr, Li, true_or, or_true, true_and, and_true]); omega) | (simp <;> fail) | skip) [runM_nil, resL, hb, Int.add_comm]; rfl), .refl _, by simp (disch := first | (refine Ok.mk ?_; (try simp only [Lm, La, Lc, Ln, Lt, Ld, Lr, Li, true_or, or_true, true_and, and_true]); omega) | (simp <;> fail) | skip) [resV, hb, Int.add_comm], rfl⟩
theorem size_ok (n : Nat) (h : n < 18446744073709551616) : PSpec Try.prog 30 [.int .u64 n] (.int .i64 ((vb n).length : Nat)) := by
  intro H
  have c := len64_ok n h
  have e := isLen_vb (isLen_bl n)
  have hb : bl n ≤ 64 := by
    obtain ⟨_, h2⟩ := isLen_bl n
    rcases h2 with h2 | h2
    · omega
    · by_cases h3 : bl n ≤ 64
      · exact h3
      · have := Nat.pow_le_pow_right (n := 2) (by omega) (show 64 ≤ bl n - 1 by omega)
        omega
  generalize bl n = l at *
  refine spec_of t30 (by simp [p30]) ?_
  simp only [p30]
  first | refine pwp_sr ?_ | refine pwp_regionM ?_
  intro K hK
  simp (disch := first | (refine Ok.mk ?_; (try simp only [Lm, La, Lc, Ln, Lt, Ld, Lr, Li, true_or, or_true, true_and, and_true]); omega) | (simp <;> fail) | skip) [runM_nil]
  refine hK _ _ ?_
  clear hK K
  first | refine pwp_sr ?_ | refine pwp_regionM ?_
  intro K hK
  simp (disch := first | (refine Ok.mk ?_; (try simp only [Lm, La, Lc, Ln, Lt, Ld, Lr, Li, true_or, or_true, true_and, and_true]); omega) | (simp <;> fail) | skip) [runM_nil]
  refine useP (c) ?_
  simp (disch := first | (refine Ok.mk ?_; (try simp only [Lm, La, Lc, Ln, Lt, Ld, Lr, Li, true_or, or_true, true_and, and_true]); omega) | (simp <;> fail) | skip) [runM_nil]
  refine hK _ _ ?_
  clear hK K
  refine pwp_ret ⟨.inr rfl, _, _, (by simp [resL]; rfl), .refl _, ?_, rfl⟩
  simp only [resV, e]
  congr 1
  split <;> split <;> omega
end Go.Proofs.Ytmpomnnaoggdkaa.E
/- Varints: numbers put, and taken. -/
namespace Go.Proofs.Ytmpomnnaoggdkaa.E
open Go Go.RowKit Go.Proofs
set_option linter.unusedVariables false
set_option linter.unusedSimpArgs false
theorem or128 : ∀ v ∈ List.range 256, v ||| 128 = v % 128 + 128 := by decide +kernel
theorem vb_acc {b acc : List Nat} {n m : Nat} (h : acc ++ vb m = b ++ vb n) (hn : n < 18446744073709551616) : acc.length ≤ b.length + 9 := by
  have h1 := congrArg List.length h
  simp only [List.length_append] at h1
  have h2 := vb_length_le10 hn
  have h3 := vb_length_pos m
  omega
theorem put_ok {s : Nat} {xs : List PV} {o : Bool} {b : List Nat} (hx : xs = b.map u8) (hs : s = 1 ∨ b.length = 0) (n : Nat) (hn : n < 18446744073709551616) (hl : b.length ≤ 100000000000000) :
    PSpec Try.prog 16 [.lst s xs o, .int .u64 n] (bV (b ++ vb n) true) := by
  subst hx
  intro H
  have c := size_ok n hn
  have h10 := vb_length_le10 hn
  refine spec_of t16 (by simp [p16]) ?_
  simp only [p16]
  first | refine pwp_sr ?_ | refine pwp_regionM ?_
  intro K hK
  simp (disch := first | (refine Ok.mk ?_; (try simp only [Lm, La, Lc, Ln, Lt, Ld, Lr, Li, true_or, or_true, true_and, and_true]); omega) | (simp <;> fail) | skip) [runM_nil]
  refine hK _ _ ?_
  clear hK K
  first | refine pwp_sr ?_ | refine pwp_regionM ?_
  intro K hK
  simp (disch := first | (refine Ok.mk ?_; (try simp only [Lm, La, Lc, Ln, Lt, Ld, Lr, Li, true_or, or_true, true_and, and_true]); omega) | (simp <;> fail) | skip) [runM_nil]
  refine useP (c) ?_
  simp (disch := first | (refine Ok.mk ?_; (try simp only [Lm, La, Lc, Ln, Lt, Ld, Lr, Li, true_or, or_true, true_and, and_true]); omega) | (simp <;> fail) | skip) [runM_nil]
  refine hK _ _ ?_
  clear hK K
  refine pwp_seq (pwp_block ?_)
  refine pwp_loopK [1, 5] (fun k st H' => ∃ (acc : List Nat), acc ++ vb k = b ++ vb n ∧ k < 18446744073709551616 ∧ H' = H ∧ st = MS 29 [(1, .int .u64 k), (5, bV acc true)]) (n := n)
    ⟨_, .refl _, b, rfl, hn, rfl, by simp [keepL_MS, keepA, getS]⟩ ?_
  rintro k st _ ⟨acc, ha, hk, rfl, rfl⟩
  have hal := vb_acc ha hn
  first | refine pwp_rif ?_ | refine pwp_rifE ?_
  intro K hK
  simp (disch := first | (refine Ok.mk ?_; (try simp only [Lm, La, Lc, Ln, Lt, Ld, Lr, Li, true_or, or_true, true_and, and_true]); omega) | (simp <;> fail) | skip) [runM_nil]
  refine hK _ _ ?_
  clear hK K
  refine ⟨_, (by simp (disch := first | (refine Ok.mk ?_; (try simp only [Lm, La, Lc, Ln, Lt, Ld, Lr, Li, true_or, or_true, true_and, and_true]); omega) | (simp <;> fail) | skip) [runM_nil]; rfl), fun hc => ?_, fun hc => ?_⟩ <;> try simp at hc
  · have ho : k % 256 ||| 128 = k % 128 + 128 := (or128 (k % 256) (List.mem_range.2 (by omega))).trans (by omega)
    have e1 : ((k : Int) % 256).toNat = k % 256 := by omega
    rw [vb_big (by omega)] at ha
    refine pwp_skip ?_
    refine pwp_seq (pwp_block ?_)
    first | refine pwp_sr ?_ | refine pwp_regionM ?_
    intro K hK
    simp (disch := first | (refine Ok.mk ?_; (try simp only [Lm, La, Lc, Ln, Lt, Ld, Lr, Li, true_or, or_true, true_and, and_true]); omega) | (simp <;> fail) | skip) [runM_nil, wm_u8, e1, ho]
    refine hK _ _ ?_
    clear hK K
    first | refine pwp_sr ?_ | refine pwp_regionM ?_
    intro K hK
    simp (disch := first | (refine Ok.mk ?_; (try simp only [Lm, La, Lc, Ln, Lt, Ld, Lr, Li, true_or, or_true, true_and, and_true]); omega) | (simp <;> fail) | skip) [runM_nil]
    refine hK _ _ ?_
    clear hK K
    refine ⟨k / 128, by omega, _, .refl _, acc ++ [k % 128 + 128], by rw [List.append_assoc]; exact ha, by omega, rfl, ?_⟩
    simp [keepL_MS, keepA, getS]
  · refine pwp_exit ?_
    rw [vb_small (by omega)] at ha
    first | refine pwp_sr ?_ | refine pwp_regionM ?_
    intro K hK
    simp (disch := first | (refine Ok.mk ?_; (try simp only [Lm, La, Lc, Ln, Lt, Ld, Lr, Li, true_or, or_true, true_and, and_true]); omega) | (simp <;> fail) | skip) [runM_nil]
    refine hK _ _ ?_
    clear hK K
    rw [← ha]
    refine pwp_ret ⟨.inr rfl, _, _, (by simp (disch := first | (refine Ok.mk ?_; (try simp only [Lm, La, Lc, Ln, Lt, Ld, Lr, Li, true_or, or_true, true_and, and_true]); omega) | (simp <;> fail) | skip) [runM_nil, resL]; rfl), .refl _, by simp (disch := first | (refine Ok.mk ?_; (try simp only [Lm, La, Lc, Ln, Lt, Ld, Lr, Li, true_or, or_true, true_and, and_true]); omega) | (simp <;> fail) | skip) [resV], rfl⟩
end Go.Proofs.Ytmpomnnaoggdkaa.E
/- Bytes cloned. -/
namespace Go.Proofs.Ytmpomnnaoggdkaa.E
open Go Go.RowKit Go.Proofs
set_option linter.unusedVariables false
set_option linter.unusedSimpArgs false
theorem clone_ok {s : Nat} {xs : List PV} {o : Bool} {l : List Nat} (hx : xs = l.map u8) (hs : s = 1 ∨ l.length = 0) (hl : l.length ≤ 100000000000000) :
    PSpec Try.prog 41 [.lst s xs o] (bV l true) := by
  subst hx
  intro H
  refine spec_ofU t41 (by simp [p41]) ?_
  simp only [p41]
  first | refine pwp_sr ?_ | refine pwp_regionM ?_
  intro K hK
  simp (disch := first | (refine Ok.mk ?_; (try simp only [Lm, La, Lc, Ln, Lt, Ld, Lr, Li, true_or, or_true, true_and, and_true]); omega) | (simp <;> fail) | skip) [runM_nil]
  refine hK _ _ ?_
  clear hK K
  cases l with
  | nil =>
    first | refine pwp_rif ?_ | refine pwp_rifE ?_
    intro K hK
    simp (disch := first | (refine Ok.mk ?_; (try simp only [Lm, La, Lc, Ln, Lt, Ld, Lr, Li, true_or, or_true, true_and, and_true]); omega) | (simp <;> fail) | skip) [runM_nil]
    refine ⟨hK _ _ ?_, hK _ _ ?_⟩ <;> clear hK K
    · refine ifF (by simp (disch := first | (refine Ok.mk ?_; (try simp only [Lm, La, Lc, Ln, Lt, Ld, Lr, Li, true_or, or_true, true_and, and_true]); omega) | (simp <;> fail) | skip) [runM_nil]) (pwp_skip ?_)
      first | refine pwp_sr ?_ | refine pwp_regionM ?_
      intro K hK
      simp (disch := first | (refine Ok.mk ?_; (try simp only [Lm, La, Lc, Ln, Lt, Ld, Lr, Li, true_or, or_true, true_and, and_true]); omega) | (simp <;> fail) | skip) [runM_nil]
      refine hK _ _ ?_
      clear hK K
      refine pwp_ret ⟨.inr rfl, _, _, _, (by simp (disch := first | (refine Ok.mk ?_; (try simp only [Lm, La, Lc, Ln, Lt, Ld, Lr, Li, true_or, or_true, true_and, and_true]); omega) | (simp <;> fail) | skip) [runM_nil, resL]; rfl), .refl _, (by simp (disch := first | (refine Ok.mk ?_; (try simp only [Lm, La, Lc, Ln, Lt, Ld, Lr, Li, true_or, or_true, true_and, and_true]); omega) | (simp <;> fail) | skip) [resV]), rfl, rfl⟩
    · refine ifT (by simp (disch := first | (refine Ok.mk ?_; (try simp only [Lm, La, Lc, Ln, Lt, Ld, Lr, Li, true_or, or_true, true_and, and_true]); omega) | (simp <;> fail) | skip) [runM_nil]) ?_
      first | refine pwp_sr ?_ | refine pwp_regionM ?_
      intro K hK
      simp (disch := first | (refine Ok.mk ?_; (try simp only [Lm, La, Lc, Ln, Lt, Ld, Lr, Li, true_or, or_true, true_and, and_true]); omega) | (simp <;> fail) | skip) [runM_nil]
      refine hK _ _ ?_
      clear hK K
      refine pwp_ret ⟨.inr rfl, _, _, _, (by simp (disch := first | (refine Ok.mk ?_; (try simp only [Lm, La, Lc, Ln, Lt, Ld, Lr, Li, true_or, or_true, true_and, and_true]); omega) | (simp <;> fail) | skip) [runM_nil, resL]; rfl), .refl _, (by simp (disch := first | (refine Ok.mk ?_; (try simp only [Lm, La, Lc, Ln, Lt, Ld, Lr, Li, true_or, or_true, true_and, and_true]); omega) | (simp <;> fail) | skip) [resV]), rfl, rfl⟩
  | cons x l =>
    obtain rfl : s = 1 := by simpa using hs
    rw [Lc] at hl
    first | refine pwp_rif ?_ | refine pwp_rifE ?_
    intro K hK
    simp (disch := first | (refine Ok.mk ?_; (try simp only [Lm, La, Lc, Ln, Lt, Ld, Lr, Li, true_or, or_true, true_and, and_true]); omega) | (simp <;> fail) | skip) [runM_nil]
    refine hK _ _ ?_
    clear hK K
    refine ifF (by simp (disch := first | (refine Ok.mk ?_; (try simp only [Lm, La, Lc, Ln, Lt, Ld, Lr, Li, true_or, or_true, true_and, and_true]); omega) | (simp <;> fail) | skip) [runM_nil]) (pwp_skip ?_)
    first | refine pwp_sr ?_ | refine pwp_regionM ?_
    intro K hK
    simp (disch := first | (refine Ok.mk ?_; (try simp only [Lm, La, Lc, Ln, Lt, Ld, Lr, Li, true_or, or_true, true_and, and_true]); omega) | (simp <;> fail) | skip) [runM_nil]
    refine hK _ _ ?_
    clear hK K
    refine pwp_ret ⟨.inr rfl, _, _, _, (by simp (disch := first | (refine Ok.mk ?_; (try simp only [Lm, La, Lc, Ln, Lt, Ld, Lr, Li, true_or, or_true, true_and, and_true]); omega) | (simp <;> fail) | skip) [runM_nil, resL]; rfl), .refl _, (by simp (disch := first | (refine Ok.mk ?_; (try simp only [Lm, La, Lc, Ln, Lt, Ld, Lr, Li, true_or, or_true, true_and, and_true]); omega) | (simp <;> fail) | skip) [resV]), rfl, rfl⟩
end Go.Proofs.Ytmpomnnaoggdkaa.E
/- Varints: frames, and what is taken off. -/
namespace Go.Proofs.Ytmpomnnaoggdkaa.E
open Go Go.RowKit Go.Proofs
set_option linter.unusedVariables false
set_option linter.unusedSimpArgs false
theorem frame_ok {s : Nat} {xs : List PV} {o : Bool} {b : List Nat} (hx : xs = b.map u8) (hs : s = 1 ∨ b.length = 0) (t : List Nat) (hl : b.length + t.length ≤ 100000000000000) :
    PSpec Try.prog 19 [.lst s xs o, .str (ci t)] (bV (b ++ vb t.length ++ t) true) := by
  intro H
  have h10 := vb_length_le10 (n := t.length) (by omega)
  have c := put_ok (s := s) (o := false) hx hs t.length (by omega) (by omega)
  refine spec_of t19 (by simp [p19]) ?_
  simp only [p19]
  first | refine pwp_sr ?_ | refine pwp_regionM ?_
  intro K hK
  simp (disch := first | (refine Ok.mk ?_; (try simp only [Lm, La, Lc, Ln, Lt, Ld, Lr, Li, true_or, or_true, true_and, and_true]); omega) | (simp <;> fail) | skip) [runM_nil]
  refine hK _ _ ?_
  clear hK K
  first | refine pwp_sr ?_ | refine pwp_regionM ?_
  intro K hK
  simp (disch := first | (refine Ok.mk ?_; (try simp only [Lm, La, Lc, Ln, Lt, Ld, Lr, Li, true_or, or_true, true_and, and_true]); omega) | (simp <;> fail) | skip) [runM_nil]
  refine useP (c) ?_
  simp (disch := first | (refine Ok.mk ?_; (try simp only [Lm, La, Lc, Ln, Lt, Ld, Lr, Li, true_or, or_true, true_and, and_true]); omega) | (simp <;> fail) | skip) [runM_nil]
  refine hK _ _ ?_
  clear hK K
  refine pwp_ret ⟨.inr rfl, _, _, (by simp (disch := first | (refine Ok.mk ?_; (try simp only [Lm, La, Lc, Ln, Lt, Ld, Lr, Li, true_or, or_true, true_and, and_true]); omega) | (simp <;> fail) | skip) [runM_nil, resL]; rfl), .refl _, by simp (disch := first | (refine Ok.mk ?_; (try simp only [Lm, La, Lc, Ln, Lt, Ld, Lr, Li, true_or, or_true, true_and, and_true]); omega) | (simp <;> fail) | skip) [resV], rfl⟩
theorem num_step {s : List Nat} {i : Nat} (hi : i < s.length) (h : num (s.take i) < 128 ^ i) : num (s.take (i + 1)) = num (s.take i) + s.getD i 0 % 128 * 128 ^ i := by
  rw [take_snoc hi, num_snoc, List.length_take, Nat.min_eq_left (by omega)]
end Go.Proofs.Ytmpomnnaoggdkaa.E
/- Varints: a number taken off. -/
namespace Go.Proofs.Ytmpomnnaoggdkaa.E
open Go Go.RowKit Go.Proofs
set_option linter.unusedVariables false
set_option linter.unusedSimpArgs false
theorem andNot128 : ∀ c ∈ List.range 256, bitsP .andNot .u8 (c : Int) 128 = some ((c % 128 : Nat) : Int) := by decide +kernel
/-- What a byte adds. -/
def gv (x i : Nat) : Nat := x % 128 * 2 ^ (7 * i) % 18446744073709551616
theorem gv_lt (x i : Nat) : gv x i < 18446744073709551616 := Nat.mod_lt _ (by omega)
theorem gv_wrap (x i : Nat) : IntKind.u64.wrap ((x : Int) % 128 * 2 ^ (7 * i)) = (gv x i : Nat) := by
  rw [wm_u64]
  simp [gv]
theorem gv_or {i x a : Nat} (hi : i ≤ 9) (h9 : i = 9 → x % 128 ≤ 1) (ha : a < 128 ^ i) : (a ||| gv x i) = a + x % 128 * 128 ^ i := by
  have e7 : (2 : Nat) ^ (7 * i) = 128 ^ i := by rw [Nat.pow_mul]
  have hx : x % 128 ≤ 127 := by omega
  have hlt : x % 128 * 2 ^ (7 * i) < 18446744073709551616 := by
    rw [e7]
    rcases Nat.lt_or_ge i 9 with h | h
    · have h3 : (128 : Nat) ^ i ≤ 128 ^ 8 := Nat.pow_le_pow_right (by omega) (by omega)
      have h4 : x % 128 * 128 ^ i ≤ 127 * 128 ^ 8 := Nat.mul_le_mul hx h3
      omega
    · obtain rfl : i = 9 := by omega
      have h4 : x % 128 * 128 ^ 9 ≤ 1 * 128 ^ 9 := Nat.mul_le_mul (h9 rfl) (Nat.le_refl _)
      omega
  unfold gv
  rw [Nat.mod_eq_of_lt hlt]
  have := Nat.two_pow_add_eq_or_of_lt (i := 7 * i) (b := a) (by rw [e7]; exact ha) (x % 128)
  rw [Nat.mul_comm (x % 128), Nat.or_comm, ← this, Nat.add_comm, e7, Nat.mul_comm]
set_option maxRecDepth 4000 in
theorem take_ok {s : Nat} {xs : List PV} {o : Bool} {b : List Nat} (hx : xs = b.map u8) (hs : s = 1 ∨ b.length = 0) (hw : ∀ x ∈ b, x < 256) (hl : b.length ≤ 100000000000000) :
    PSpec Try.prog 38 [.lst s xs o] (.tup [.int .u64 ((vtake b).1 : Nat), bV (vtake b).2.1 true, .int .i64 ((vtake b).2.2 : Nat)]) := by
  subst hx
  intro H
  have hll := lead_le b
  refine spec_ofU t38 (by simp [p38]) ?_
  simp only [p38]
  first | refine pwp_sr ?_ | refine pwp_regionM ?_
  intro K hK
  simp (disch := first | (refine Ok.mk ?_; (try simp only [Lm, La, Lc, Ln, Lt, Ld, Lr, Li, true_or, or_true, true_and, and_true]); omega) | (simp <;> fail) | skip) [runM_nil]
  refine hK _ _ ?_
  clear hK K
  first | refine pwp_sr ?_ | refine pwp_regionM ?_
  intro K hK
  simp (disch := first | (refine Ok.mk ?_; (try simp only [Lm, La, Lc, Ln, Lt, Ld, Lr, Li, true_or, or_true, true_and, and_true]); omega) | (simp <;> fail) | skip) [runM_nil]
  refine hK _ _ ?_
  clear hK K
  refine pwp_seq ?_
  first | refine pwp_sr ?_ | refine pwp_regionM ?_
  intro K hK
  simp (disch := first | (refine Ok.mk ?_; (try simp only [Lm, La, Lc, Ln, Lt, Ld, Lr, Li, true_or, or_true, true_and, and_true]); omega) | (simp <;> fail) | skip) [runM_nil]
  refine hK _ _ ?_
  clear hK K
  refine pwp_block ?_
  refine pwp_loopK [0, 5, 8, 9, 10] (fun m st H' => ∃ i n : Nat, i ≤ lead b ∧ i ≤ 10 ∧ m = b.length - i ∧ n < 18446744073709551616 ∧ (i ≤ 9 → n = num (b.take i)) ∧ H' = H ∧
      st = MS 51 [(0, .lst s (b.map u8) o), (5, .int .u64 n), (8, .lst s (b.map u8) false), (9, .int .i64 b.length), (10, .int .i64 i)]) (n := b.length)
    ⟨_, .refl _, 0, 0, Nat.zero_le _, by omega, rfl, by omega, fun _ => rfl, rfl, by simp [keepL_MS, keepA, getS]⟩ ?_
  rintro m st _ ⟨i, n, h1, h2, rfl, hn, hnum, rfl, rfl⟩
  by_cases hi : i < b.length
  case neg =>
    first | refine pwp_sr ?_ | refine pwp_regionM ?_
    intro K hK
    simp (disch := first | (refine Ok.mk ?_; (try simp only [Lm, La, Lc, Ln, Lt, Ld, Lr, Li, true_or, or_true, true_and, and_true]); omega) | (simp <;> fail) | skip) [runM_nil, hi]
    refine hK _ _ ?_
    clear hK K
    refine pwp_seq (pwp_cF (by simp) (pwp_exit ?_))
    by_cases h10 : i = 10
    · have e : vtake b = (0, [], 3) := by unfold vtake; rw [if_pos (by omega)]
      rw [e]
      have h3 : (10 : Int) ≤ b.length := by omega
      first | refine pwp_rif ?_ | refine pwp_rifE ?_
      intro K hK
      simp (disch := first | (refine Ok.mk ?_; (try simp only [Lm, La, Lc, Ln, Lt, Ld, Lr, Li, true_or, or_true, true_and, and_true]); omega) | (simp <;> fail) | skip) [runM_nil, h3]
      refine hK _ _ ?_
      clear hK K
      refine ifT (by simp (disch := first | (refine Ok.mk ?_; (try simp only [Lm, La, Lc, Ln, Lt, Ld, Lr, Li, true_or, or_true, true_and, and_true]); omega) | (simp <;> fail) | skip) [runM_nil]) ?_
      first | refine pwp_sr ?_ | refine pwp_regionM ?_
      intro K hK
      simp (disch := first | (refine Ok.mk ?_; (try simp only [Lm, La, Lc, Ln, Lt, Ld, Lr, Li, true_or, or_true, true_and, and_true]); omega) | (simp <;> fail) | skip) [runM_nil]
      refine hK _ _ ?_
      clear hK K
      refine pwp_ret ⟨.inr rfl, _, _, _, (by simp (disch := first | (refine Ok.mk ?_; (try simp only [Lm, La, Lc, Ln, Lt, Ld, Lr, Li, true_or, or_true, true_and, and_true]); omega) | (simp <;> fail) | skip) [runM_nil, resL]; rfl), .refl _, (by simp (disch := first | (refine Ok.mk ?_; (try simp only [Lm, La, Lc, Ln, Lt, Ld, Lr, Li, true_or, or_true, true_and, and_true]); omega) | (simp <;> fail) | skip) [resV]), rfl, rfl⟩
    · have e : vtake b = (0, [], 2) := by unfold vtake; rw [if_neg (by omega), if_pos (by omega)]
      rw [e]
      have h3 : ¬ (10 : Int) ≤ b.length := by omega
      first | refine pwp_rif ?_ | refine pwp_rifE ?_
      intro K hK
      simp (disch := first | (refine Ok.mk ?_; (try simp only [Lm, La, Lc, Ln, Lt, Ld, Lr, Li, true_or, or_true, true_and, and_true]); omega) | (simp <;> fail) | skip) [runM_nil, h3]
      refine hK _ _ ?_
      clear hK K
      refine ifF (by simp (disch := first | (refine Ok.mk ?_; (try simp only [Lm, La, Lc, Ln, Lt, Ld, Lr, Li, true_or, or_true, true_and, and_true]); omega) | (simp <;> fail) | skip) [runM_nil]) (pwp_skip ?_)
      first | refine pwp_sr ?_ | refine pwp_regionM ?_
      intro K hK
      simp (disch := first | (refine Ok.mk ?_; (try simp only [Lm, La, Lc, Ln, Lt, Ld, Lr, Li, true_or, or_true, true_and, and_true]); omega) | (simp <;> fail) | skip) [runM_nil]
      refine hK _ _ ?_
      clear hK K
      refine pwp_ret ⟨.inr rfl, _, _, _, (by simp (disch := first | (refine Ok.mk ?_; (try simp only [Lm, La, Lc, Ln, Lt, Ld, Lr, Li, true_or, or_true, true_and, and_true]); omega) | (simp <;> fail) | skip) [runM_nil, resL]; rfl), .refl _, (by simp (disch := first | (refine Ok.mk ?_; (try simp only [Lm, La, Lc, Ln, Lt, Ld, Lr, Li, true_or, or_true, true_and, and_true]); omega) | (simp <;> fail) | skip) [resV]), rfl, rfl⟩
  have hxm : ∃ x, b[i]? = some x ∧ x < 256 ∧ b.getD i 0 = x := ⟨b[i], List.getElem?_eq_getElem hi, hw _ (List.getElem_mem hi), by simp [List.getD, List.getElem?_eq_getElem hi]⟩
  obtain ⟨x, hgx, hx, hgd⟩ := hxm
  obtain rfl : s = 1 := by omega
  first | refine pwp_sr ?_ | refine pwp_regionM ?_
  intro K hK
  simp (disch := first | (refine Ok.mk ?_; (try simp only [Lm, La, Lc, Ln, Lt, Ld, Lr, Li, true_or, or_true, true_and, and_true]); omega) | (simp <;> fail) | skip) [runM_nil, hi]
  refine hK _ _ ?_
  clear hK K
  refine pwp_seq (pwp_cT (by simp) (pwp_skip ?_))
  refine pwp_seq (pwp_block ?_)
  first | refine pwp_sr ?_ | refine pwp_regionM ?_
  intro K hK
  simp (disch := first | (refine Ok.mk ?_; (try simp only [Lm, La, Lc, Ln, Lt, Ld, Lr, Li, true_or, or_true, true_and, and_true]); omega) | (simp <;> fail) | skip) [runM_nil, hgx]
  refine hK _ _ ?_
  clear hK K
  by_cases h10 : i = 10
  · have e : vtake b = (0, [], 3) := by unfold vtake; rw [if_pos (by omega)]
    have h10' : (i : Int) = 10 := by omega
    first | refine pwp_rif ?_ | refine pwp_rifE ?_
    intro K hK
    simp (disch := first | (refine Ok.mk ?_; (try simp only [Lm, La, Lc, Ln, Lt, Ld, Lr, Li, true_or, or_true, true_and, and_true]); omega) | (simp <;> fail) | skip) [runM_nil, h10']
    refine hK _ _ ?_
    clear hK K
    refine ifT (by simp (disch := first | (refine Ok.mk ?_; (try simp only [Lm, La, Lc, Ln, Lt, Ld, Lr, Li, true_or, or_true, true_and, and_true]); omega) | (simp <;> fail) | skip) [runM_nil]) ?_
    refine pwp_exit ?_
    rw [e]
    have h3 : (10 : Int) ≤ b.length := by omega
    first | refine pwp_rif ?_ | refine pwp_rifE ?_
    intro K hK
    simp (disch := first | (refine Ok.mk ?_; (try simp only [Lm, La, Lc, Ln, Lt, Ld, Lr, Li, true_or, or_true, true_and, and_true]); omega) | (simp <;> fail) | skip) [runM_nil, h3]
    refine hK _ _ ?_
    clear hK K
    refine ifT (by simp (disch := first | (refine Ok.mk ?_; (try simp only [Lm, La, Lc, Ln, Lt, Ld, Lr, Li, true_or, or_true, true_and, and_true]); omega) | (simp <;> fail) | skip) [runM_nil]) ?_
    first | refine pwp_sr ?_ | refine pwp_regionM ?_
    intro K hK
    simp (disch := first | (refine Ok.mk ?_; (try simp only [Lm, La, Lc, Ln, Lt, Ld, Lr, Li, true_or, or_true, true_and, and_true]); omega) | (simp <;> fail) | skip) [runM_nil]
    refine hK _ _ ?_
    clear hK K
    refine pwp_ret ⟨.inr rfl, _, _, _, (by simp (disch := first | (refine Ok.mk ?_; (try simp only [Lm, La, Lc, Ln, Lt, Ld, Lr, Li, true_or, or_true, true_and, and_true]); omega) | (simp <;> fail) | skip) [runM_nil, resL]; rfl), .refl _, (by simp (disch := first | (refine Ok.mk ?_; (try simp only [Lm, La, Lc, Ln, Lt, Ld, Lr, Li, true_or, or_true, true_and, and_true]); omega) | (simp <;> fail) | skip) [resV]), rfl, rfl⟩
  have h10' : ¬ (i : Int) = 10 := by omega
  first | refine pwp_rif ?_ | refine pwp_rifE ?_
  intro K hK
  simp (disch := first | (refine Ok.mk ?_; (try simp only [Lm, La, Lc, Ln, Lt, Ld, Lr, Li, true_or, or_true, true_and, and_true]); omega) | (simp <;> fail) | skip) [runM_nil, h10']
  refine hK _ _ ?_
  clear hK K
  refine ifF (by simp (disch := first | (refine Ok.mk ?_; (try simp only [Lm, La, Lc, Ln, Lt, Ld, Lr, Li, true_or, or_true, true_and, and_true]); omega) | (simp <;> fail) | skip) [runM_nil]) (pwp_skip ?_)
  have ha := andNot128 x (List.mem_range.2 hx)
  have e2 : min (7 * (i : Int)).toNat 64 = 7 * i := by omega
  have hgl := gv_lt x i
  first | refine pwp_sr ?_ | refine pwp_regionM ?_
  intro K hK
  simp (disch := first | (refine Ok.mk ?_; (try simp only [Lm, La, Lc, Ln, Lt, Ld, Lr, Li, true_or, or_true, true_and, and_true]); omega) | (simp <;> fail) | skip) [runM_nil, ha, e2, gv_wrap]
  refine hK _ _ ?_
  clear hK K
  have hnn := hnum (by omega)
  have hna := num_lt (b.take i)
  rw [List.length_take, Nat.min_eq_left (by omega), ← hnn] at hna
  by_cases hc : 128 ≤ x
  · have hc' : (128 : Int) ≤ x := by omega
    first | refine pwp_rif ?_ | refine pwp_rifE ?_
    intro K hK
    simp (disch := first | (refine Ok.mk ?_; (try simp only [Lm, La, Lc, Ln, Lt, Ld, Lr, Li, true_or, or_true, true_and, and_true]); omega) | (simp <;> fail) | skip) [runM_nil, hc']
    refine hK _ _ ?_
    clear hK K
    refine ifT (by simp (disch := first | (refine Ok.mk ?_; (try simp only [Lm, La, Lc, Ln, Lt, Ld, Lr, Li, true_or, or_true, true_and, and_true]); omega) | (simp <;> fail) | skip) [runM_nil]) ?_
    have hne : lead b ≠ i := by
      intro he
      have := lead_lo b (by omega)
      rw [he, hgd] at this
      omega
    refine pwp_exit ?_
    first | refine pwp_sr ?_ | refine pwp_regionM ?_
    intro K hK
    simp (disch := first | (refine Ok.mk ?_; (try simp only [Lm, La, Lc, Ln, Lt, Ld, Lr, Li, true_or, or_true, true_and, and_true]); omega) | (simp <;> fail) | skip) [runM_nil]
    refine hK _ _ ?_
    clear hK K
    refine ⟨b.length - (i + 1), by omega, _, .refl _, i + 1, n ||| gv x i, by omega, by omega, rfl, Nat.or_lt_two_pow (n := 64) hn hgl, fun h9 => ?_, rfl, by simp [keepL_MS, keepA, getS]⟩
    rw [gv_or (by omega) (by omega) hna, take_snoc hi, num_snoc, List.length_take, Nat.min_eq_left (by omega), hgd, ← hnn]
  · have hc' : ¬ (128 : Int) ≤ x := by omega
    have he : lead b = i := by
      rcases Nat.lt_or_ge i (lead b) with h3 | h3
      · have := lead_hi b i h3; omega
      · omega
    first | refine pwp_rif ?_ | refine pwp_rifE ?_
    intro K hK
    simp (disch := first | (refine Ok.mk ?_; (try simp only [Lm, La, Lc, Ln, Lt, Ld, Lr, Li, true_or, or_true, true_and, and_true]); omega) | (simp <;> fail) | skip) [runM_nil, hc']
    refine hK _ _ ?_
    clear hK K
    refine ifF (by simp (disch := first | (refine Ok.mk ?_; (try simp only [Lm, La, Lc, Ln, Lt, Ld, Lr, Li, true_or, or_true, true_and, and_true]); omega) | (simp <;> fail) | skip) [runM_nil]) (pwp_skip ?_)
    have hdrop : (b.drop (i + 1)).length ≤ 100000000000000 := by rw [Ld]; omega
    have bad : vbad b i → vtake b = (0, [], 3) := fun h => by unfold vtake; rw [he, if_neg (by omega), if_neg (by omega), if_pos h]
    have good : ¬ vbad b i → vtake b = (n ||| gv x i, b.drop (i + 1), 0) := fun h => by
      have h9 : i = 9 → x % 128 ≤ 1 := fun h9 => by unfold vbad at h; rw [hgd] at h; omega
      unfold vtake
      rw [he, if_neg (by omega), if_neg (by omega), if_neg h, gv_or (by omega) h9 hna, take_snoc hi, num_snoc, List.length_take, Nat.min_eq_left (by omega), hgd, ← hnn]
    unfold vbad at bad good
    rw [hgd] at bad good
    have h4 : (x = 0 ∧ 0 < i) ∨ ¬ (x = 0 ∧ 0 < i) ∧ (i = 9 ∧ 1 < x) ∨ ¬ (x = 0 ∧ 0 < i) ∧ ¬ (i = 9 ∧ 1 < x) := by omega
    rcases h4 with ⟨q1, q2⟩ | ⟨q0, q1, q2⟩ | ⟨q1, q2⟩
    · have e := bad (.inl ⟨q1, q2⟩)
      subst q1
      first | refine pwp_rif ?_ | refine pwp_rifE ?_
      intro K hK
      simp (disch := first | (refine Ok.mk ?_; (try simp only [Lm, La, Lc, Ln, Lt, Ld, Lr, Li, true_or, or_true, true_and, and_true]); omega) | (simp <;> fail) | skip) [runM_nil, q2]
      refine hK _ _ ?_
      clear hK K
      refine ifT (by simp (disch := first | (refine Ok.mk ?_; (try simp only [Lm, La, Lc, Ln, Lt, Ld, Lr, Li, true_or, or_true, true_and, and_true]); omega) | (simp <;> fail) | skip) [runM_nil]) ?_
      first | refine pwp_sr ?_ | refine pwp_regionM ?_
      intro K hK
      simp (disch := first | (refine Ok.mk ?_; (try simp only [Lm, La, Lc, Ln, Lt, Ld, Lr, Li, true_or, or_true, true_and, and_true]); omega) | (simp <;> fail) | skip) [runM_nil]
      refine hK _ _ ?_
      clear hK K
      rw [e]
      refine pwp_ret ⟨.inr rfl, _, _, _, (by simp (disch := first | (refine Ok.mk ?_; (try simp only [Lm, La, Lc, Ln, Lt, Ld, Lr, Li, true_or, or_true, true_and, and_true]); omega) | (simp <;> fail) | skip) [runM_nil, resL]; rfl), .refl _, (by simp (disch := first | (refine Ok.mk ?_; (try simp only [Lm, La, Lc, Ln, Lt, Ld, Lr, Li, true_or, or_true, true_and, and_true]); omega) | (simp <;> fail) | skip) [resV]), rfl, rfl⟩
    · have e := bad (.inr ⟨q1, q2⟩)
      subst q1
      have q3 : (1 : Int) < x := by omega
      have q4 : ¬ x = 0 := by omega
      first | refine pwp_rif ?_ | refine pwp_rifE ?_
      intro K hK
      simp (disch := first | (refine Ok.mk ?_; (try simp only [Lm, La, Lc, Ln, Lt, Ld, Lr, Li, true_or, or_true, true_and, and_true]); omega) | (simp <;> fail) | skip) [runM_nil, q3, q4]
      refine hK _ _ ?_
      clear hK K
      refine ifT (by simp (disch := first | (refine Ok.mk ?_; (try simp only [Lm, La, Lc, Ln, Lt, Ld, Lr, Li, true_or, or_true, true_and, and_true]); omega) | (simp <;> fail) | skip) [runM_nil]) ?_
      first | refine pwp_sr ?_ | refine pwp_regionM ?_
      intro K hK
      simp (disch := first | (refine Ok.mk ?_; (try simp only [Lm, La, Lc, Ln, Lt, Ld, Lr, Li, true_or, or_true, true_and, and_true]); omega) | (simp <;> fail) | skip) [runM_nil]
      refine hK _ _ ?_
      clear hK K
      rw [e]
      refine pwp_ret ⟨.inr rfl, _, _, _, (by simp (disch := first | (refine Ok.mk ?_; (try simp only [Lm, La, Lc, Ln, Lt, Ld, Lr, Li, true_or, or_true, true_and, and_true]); omega) | (simp <;> fail) | skip) [runM_nil, resL]; rfl), .refl _, (by simp (disch := first | (refine Ok.mk ?_; (try simp only [Lm, La, Lc, Ln, Lt, Ld, Lr, Li, true_or, or_true, true_and, and_true]); omega) | (simp <;> fail) | skip) [resV]), rfl, rfl⟩
    · have e := good (by rintro (h | h); exact q1 h; exact q2 h)
      rw [e]
      have q5 : (i : Int) = 9 ∨ ¬ (i : Int) = 9 := by omega
      have q6 : x = 0 ∨ ¬ x = 0 := by omega
      rcases q6 with q6 | q6
      · have q7 : i = 0 := by omega
        subst q7 q6
        first | refine pwp_rif ?_ | refine pwp_rifE ?_
        intro K hK
        simp (disch := first | (refine Ok.mk ?_; (try simp only [Lm, La, Lc, Ln, Lt, Ld, Lr, Li, true_or, or_true, true_and, and_true]); omega) | (simp <;> fail) | skip) [runM_nil]
        refine hK _ _ ?_
        clear hK K
        refine ifF (by simp (disch := first | (refine Ok.mk ?_; (try simp only [Lm, La, Lc, Ln, Lt, Ld, Lr, Li, true_or, or_true, true_and, and_true]); omega) | (simp <;> fail) | skip) [runM_nil]) (pwp_skip ?_)
        first | refine pwp_sr ?_ | refine pwp_regionM ?_
        intro K hK
        simp (disch := first | (refine Ok.mk ?_; (try simp only [Lm, La, Lc, Ln, Lt, Ld, Lr, Li, true_or, or_true, true_and, and_true]); omega) | (simp <;> fail) | skip) [runM_nil]
        refine useP (clone_ok (l := b.drop (0 + 1)) (by simp) (.inl rfl) hdrop) ?_
        simp (disch := first | (refine Ok.mk ?_; (try simp only [Lm, La, Lc, Ln, Lt, Ld, Lr, Li, true_or, or_true, true_and, and_true]); omega) | (simp <;> fail) | skip) [runM_nil]
        refine hK _ _ ?_
        clear hK K
        refine pwp_ret ⟨.inr rfl, _, _, _, (by simp (disch := first | (refine Ok.mk ?_; (try simp only [Lm, La, Lc, Ln, Lt, Ld, Lr, Li, true_or, or_true, true_and, and_true]); omega) | (simp <;> fail) | skip) [runM_nil, resL]; rfl), .refl _, (by simp (disch := first | (refine Ok.mk ?_; (try simp only [Lm, La, Lc, Ln, Lt, Ld, Lr, Li, true_or, or_true, true_and, and_true]); omega) | (simp <;> fail) | skip) [resV]), rfl, rfl⟩
      · rcases q5 with q5 | q5
        all_goals
          first | refine pwp_rif ?_ | refine pwp_rifE ?_
          intro K hK
          simp (disch := first | (refine Ok.mk ?_; (try simp only [Lm, La, Lc, Ln, Lt, Ld, Lr, Li, true_or, or_true, true_and, and_true]); omega) | (simp <;> fail) | skip) [runM_nil]
          refine hK _ _ ?_
          clear hK K
          refine ifF (by simp (disch := first | (refine Ok.mk ?_; (try simp only [Lm, La, Lc, Ln, Lt, Ld, Lr, Li, true_or, or_true, true_and, and_true]); omega) | (simp <;> fail) | skip) [runM_nil]) (pwp_skip ?_)
          first | refine pwp_sr ?_ | refine pwp_regionM ?_
          intro K hK
          simp (disch := first | (refine Ok.mk ?_; (try simp only [Lm, La, Lc, Ln, Lt, Ld, Lr, Li, true_or, or_true, true_and, and_true]); omega) | (simp <;> fail) | skip) [runM_nil]
          refine useP (clone_ok (l := b.drop (i + 1)) (by simp) (.inl rfl) hdrop) ?_
          simp (disch := first | (refine Ok.mk ?_; (try simp only [Lm, La, Lc, Ln, Lt, Ld, Lr, Li, true_or, or_true, true_and, and_true]); omega) | (simp <;> fail) | skip) [runM_nil]
          refine hK _ _ ?_
          clear hK K
          refine pwp_ret ⟨.inr rfl, _, _, _, (by simp (disch := first | (refine Ok.mk ?_; (try simp only [Lm, La, Lc, Ln, Lt, Ld, Lr, Li, true_or, or_true, true_and, and_true]); omega) | (simp <;> fail) | skip) [runM_nil, resL]; rfl), .refl _, (by simp (disch := first | (refine Ok.mk ?_; (try simp only [Lm, La, Lc, Ln, Lt, Ld, Lr, Li, true_or, or_true, true_and, and_true]); omega) | (simp <;> fail) | skip) [resV]), rfl, rfl⟩
end Go.Proofs.Ytmpomnnaoggdkaa.E
/- Varints: a frame taken off; the document's. -/
namespace Go.Proofs.Ytmpomnnaoggdkaa.E
open Go Go.RowKit Go.Proofs
set_option linter.unusedVariables false
set_option linter.unusedSimpArgs false
def vframe (b : List Nat) (most : Int) : List Nat × List Nat × Nat :=
  if (vtake b).2.2 ≠ 0 then ([], [], (vtake b).2.2) else if most < 0 ∨ most < (vtake b).1 then ([], [], 5) else if (vtake b).2.1.length < (vtake b).1 then ([], [], 2)
  else ((vtake b).2.1.take (vtake b).1, (vtake b).2.1.drop (vtake b).1, 0)
theorem vtake_wf {b : List Nat} (hw : ∀ x ∈ b, x < 256) : ∀ x ∈ (vtake b).2.1, x < 256 := fun x hx => hw x (vtake_rest.2 x hx)
theorem vtake_err (b : List Nat) : (vtake b).2.2 ≤ 3 := by
  unfold vtake
  split
  · exact Nat.le_refl _
  split
  · exact (by decide : 2 ≤ 3)
  split
  · exact Nat.le_refl _
  · exact Nat.zero_le _
/-- The ways of a frame. -/
theorem vframe_cases (b : List Nat) (most : Int) {n : Nat} {r : List Nat} {e : Nat} (h1 : (vtake b).1 = n) (h2 : (vtake b).2.1 = r) (h3 : (vtake b).2.2 = e) :
    (e ≠ 0 ∧ vframe b most = ([], [], e)) ∨ (e = 0 ∧ most < 0 ∧ vframe b most = ([], [], 5)) ∨ (e = 0 ∧ 0 ≤ most ∧ most < n ∧ vframe b most = ([], [], 5)) ∨
    (e = 0 ∧ 0 ≤ most ∧ n ≤ most ∧ r.length < n ∧ vframe b most = ([], [], 2)) ∨ (e = 0 ∧ 0 ≤ most ∧ n ≤ most ∧ n ≤ r.length ∧ vframe b most = (r.take n, r.drop n, 0)) := by
  unfold vframe
  rw [h1, h2, h3]
  by_cases q1 : e = 0
  · rw [if_neg (by omega)]
    by_cases q2 : most < 0
    · rw [if_pos (.inl q2)]; simp [q1, q2]
    · by_cases q3 : most < n
      · rw [if_pos (.inr q3)]; simp [q1, q2, q3]; omega
      · rw [if_neg (by omega)]
        by_cases q4 : r.length < n
        · rw [if_pos q4]; simp [q1, q4]; omega
        · rw [if_neg q4]; simp [q1]; omega
  · rw [if_pos q1]; simp [q1]
set_option maxRecDepth 4000 in
theorem takeFrame_ok {s : Nat} {xs : List PV} {o : Bool} {b : List Nat} (hx : xs = b.map u8) (hs : s = 1 ∨ b.length = 0) (hw : ∀ x ∈ b, x < 256) (hl : b.length ≤ 100000000000000) (most : Int) (hm : most < 9223372036854775808) :
    PSpec Try.prog 46 [.lst s xs o, .int .i64 most] (.tup [.str (ci (vframe b most).1), bV (vframe b most).2.1 (decide ((vframe b most).2.2 ≠ 0)), .int .i64 ((vframe b most).2.2 : Nat)]) := by
  intro H
  have c := take_ok (o := false) hx hs hw hl
  have hwr := vtake_wf hw
  have hn := vtake_lt hw
  have hrl : (vtake b).2.1.length ≤ b.length := (vtake_rest (s := b)).1
  have hc := vframe_cases b most rfl rfl rfl
  have he := vtake_err b
  generalize hv : vframe b most = v at *
  generalize (vtake b).1 = n at *
  generalize (vtake b).2.1 = r at *
  generalize (vtake b).2.2 = e at *
  refine spec_ofU t46 (by simp [p46]) ?_
  simp only [p46]
  first | refine pwp_sr ?_ | refine pwp_regionM ?_
  intro K hK
  simp (disch := first | (refine Ok.mk ?_; (try simp only [Lm, La, Lc, Ln, Lt, Ld, Lr, Li, true_or, or_true, true_and, and_true]); omega) | (simp <;> fail) | skip) [runM_nil]
  refine hK _ _ ?_
  clear hK K
  first | refine pwp_sr ?_ | refine pwp_regionM ?_
  intro K hK
  simp (disch := first | (refine Ok.mk ?_; (try simp only [Lm, La, Lc, Ln, Lt, Ld, Lr, Li, true_or, or_true, true_and, and_true]); omega) | (simp <;> fail) | skip) [runM_nil]
  refine useP (c) ?_
  simp (disch := first | (refine Ok.mk ?_; (try simp only [Lm, La, Lc, Ln, Lt, Ld, Lr, Li, true_or, or_true, true_and, and_true]); omega) | (simp <;> fail) | skip) [runM_nil]
  refine hK _ _ ?_
  clear hK K
  refine pwp_seq (pwp_block ?_)
  rcases hc with ⟨q1, rfl⟩ | ⟨q1, q2, rfl⟩ | ⟨q1, q2, q3, rfl⟩ | ⟨q1, q2, q3, q4, rfl⟩ | ⟨q1, q2, q3, q4, rfl⟩
  · first | refine pwp_sr ?_ | refine pwp_regionM ?_
    intro K hK
    simp (disch := first | (refine Ok.mk ?_; (try simp only [Lm, La, Lc, Ln, Lt, Ld, Lr, Li, true_or, or_true, true_and, and_true]); omega) | (simp <;> fail) | skip) [runM_nil]
    refine hK _ _ ?_
    clear hK K
    refine pwp_cT (by simp) ?_
    first | refine pwp_sr ?_ | refine pwp_regionM ?_
    intro K hK
    simp (disch := first | (refine Ok.mk ?_; (try simp only [Lm, La, Lc, Ln, Lt, Ld, Lr, Li, true_or, or_true, true_and, and_true]); omega) | (simp <;> fail) | skip) [runM_nil]
    refine hK _ _ ?_
    clear hK K
    refine pwp_ret ⟨.inr rfl, _, _, _, (by simp (disch := first | (refine Ok.mk ?_; (try simp only [Lm, La, Lc, Ln, Lt, Ld, Lr, Li, true_or, or_true, true_and, and_true]); omega) | (simp <;> fail) | skip) [runM_nil, resL, q1]; rfl), .refl _, (by simp (disch := first | (refine Ok.mk ?_; (try simp only [Lm, La, Lc, Ln, Lt, Ld, Lr, Li, true_or, or_true, true_and, and_true]); omega) | (simp <;> fail) | skip) [resV, q1]), rfl, rfl⟩
  · first | refine pwp_sr ?_ | refine pwp_regionM ?_
    intro K hK
    simp (disch := first | (refine Ok.mk ?_; (try simp only [Lm, La, Lc, Ln, Lt, Ld, Lr, Li, true_or, or_true, true_and, and_true]); omega) | (simp <;> fail) | skip) [runM_nil]
    refine hK _ _ ?_
    clear hK K
    refine pwp_cF (by simp) ?_
    first | refine pwp_sr ?_ | refine pwp_regionM ?_
    intro K hK
    simp (disch := first | (refine Ok.mk ?_; (try simp only [Lm, La, Lc, Ln, Lt, Ld, Lr, Li, true_or, or_true, true_and, and_true]); omega) | (simp <;> fail) | skip) [runM_nil]
    refine hK _ _ ?_
    clear hK K
    refine pwp_cT (by simp) ?_
    first | refine pwp_sr ?_ | refine pwp_regionM ?_
    intro K hK
    simp (disch := first | (refine Ok.mk ?_; (try simp only [Lm, La, Lc, Ln, Lt, Ld, Lr, Li, true_or, or_true, true_and, and_true]); omega) | (simp <;> fail) | skip) [runM_nil]
    refine hK _ _ ?_
    clear hK K
    refine pwp_ret ⟨.inr rfl, _, _, _, (by simp (disch := first | (refine Ok.mk ?_; (try simp only [Lm, La, Lc, Ln, Lt, Ld, Lr, Li, true_or, or_true, true_and, and_true]); omega) | (simp <;> fail) | skip) [runM_nil, resL]; rfl), .refl _, (by simp (disch := first | (refine Ok.mk ?_; (try simp only [Lm, La, Lc, Ln, Lt, Ld, Lr, Li, true_or, or_true, true_and, and_true]); omega) | (simp <;> fail) | skip) [resV]), rfl, rfl⟩
  · first | refine pwp_sr ?_ | refine pwp_regionM ?_
    intro K hK
    simp (disch := first | (refine Ok.mk ?_; (try simp only [Lm, La, Lc, Ln, Lt, Ld, Lr, Li, true_or, or_true, true_and, and_true]); omega) | (simp <;> fail) | skip) [runM_nil]
    refine hK _ _ ?_
    clear hK K
    refine pwp_cF (by simp) ?_
    first | refine pwp_sr ?_ | refine pwp_regionM ?_
    intro K hK
    simp (disch := first | (refine Ok.mk ?_; (try simp only [Lm, La, Lc, Ln, Lt, Ld, Lr, Li, true_or, or_true, true_and, and_true]); omega) | (simp <;> fail) | skip) [runM_nil]
    refine hK _ _ ?_
    clear hK K
    refine pwp_cT (by simp) ?_
    first | refine pwp_sr ?_ | refine pwp_regionM ?_
    intro K hK
    simp (disch := first | (refine Ok.mk ?_; (try simp only [Lm, La, Lc, Ln, Lt, Ld, Lr, Li, true_or, or_true, true_and, and_true]); omega) | (simp <;> fail) | skip) [runM_nil]
    refine hK _ _ ?_
    clear hK K
    refine pwp_ret ⟨.inr rfl, _, _, _, (by simp (disch := first | (refine Ok.mk ?_; (try simp only [Lm, La, Lc, Ln, Lt, Ld, Lr, Li, true_or, or_true, true_and, and_true]); omega) | (simp <;> fail) | skip) [runM_nil, resL]; rfl), .refl _, (by simp (disch := first | (refine Ok.mk ?_; (try simp only [Lm, La, Lc, Ln, Lt, Ld, Lr, Li, true_or, or_true, true_and, and_true]); omega) | (simp <;> fail) | skip) [resV]), rfl, rfl⟩
  · first | refine pwp_sr ?_ | refine pwp_regionM ?_
    intro K hK
    simp (disch := first | (refine Ok.mk ?_; (try simp only [Lm, La, Lc, Ln, Lt, Ld, Lr, Li, true_or, or_true, true_and, and_true]); omega) | (simp <;> fail) | skip) [runM_nil]
    refine hK _ _ ?_
    clear hK K
    refine pwp_cF (by simp) ?_
    first | refine pwp_sr ?_ | refine pwp_regionM ?_
    intro K hK
    simp (disch := first | (refine Ok.mk ?_; (try simp only [Lm, La, Lc, Ln, Lt, Ld, Lr, Li, true_or, or_true, true_and, and_true]); omega) | (simp <;> fail) | skip) [runM_nil]
    refine hK _ _ ?_
    clear hK K
    refine pwp_cF (by simp) ?_
    first | refine pwp_sr ?_ | refine pwp_regionM ?_
    intro K hK
    simp (disch := first | (refine Ok.mk ?_; (try simp only [Lm, La, Lc, Ln, Lt, Ld, Lr, Li, true_or, or_true, true_and, and_true]); omega) | (simp <;> fail) | skip) [runM_nil]
    refine hK _ _ ?_
    clear hK K
    refine pwp_cT (by simp) ?_
    first | refine pwp_sr ?_ | refine pwp_regionM ?_
    intro K hK
    simp (disch := first | (refine Ok.mk ?_; (try simp only [Lm, La, Lc, Ln, Lt, Ld, Lr, Li, true_or, or_true, true_and, and_true]); omega) | (simp <;> fail) | skip) [runM_nil]
    refine hK _ _ ?_
    clear hK K
    refine pwp_ret ⟨.inr rfl, _, _, _, (by simp (disch := first | (refine Ok.mk ?_; (try simp only [Lm, La, Lc, Ln, Lt, Ld, Lr, Li, true_or, or_true, true_and, and_true]); omega) | (simp <;> fail) | skip) [runM_nil, resL]; rfl), .refl _, (by simp (disch := first | (refine Ok.mk ?_; (try simp only [Lm, La, Lc, Ln, Lt, Ld, Lr, Li, true_or, or_true, true_and, and_true]); omega) | (simp <;> fail) | skip) [resV]), rfl, rfl⟩
  · first | refine pwp_sr ?_ | refine pwp_regionM ?_
    intro K hK
    simp (disch := first | (refine Ok.mk ?_; (try simp only [Lm, La, Lc, Ln, Lt, Ld, Lr, Li, true_or, or_true, true_and, and_true]); omega) | (simp <;> fail) | skip) [runM_nil]
    refine hK _ _ ?_
    clear hK K
    refine pwp_cF (by simp) ?_
    first | refine pwp_sr ?_ | refine pwp_regionM ?_
    intro K hK
    simp (disch := first | (refine Ok.mk ?_; (try simp only [Lm, La, Lc, Ln, Lt, Ld, Lr, Li, true_or, or_true, true_and, and_true]); omega) | (simp <;> fail) | skip) [runM_nil]
    refine hK _ _ ?_
    clear hK K
    refine pwp_cF (by simp) ?_
    first | refine pwp_sr ?_ | refine pwp_regionM ?_
    intro K hK
    simp (disch := first | (refine Ok.mk ?_; (try simp only [Lm, La, Lc, Ln, Lt, Ld, Lr, Li, true_or, or_true, true_and, and_true]); omega) | (simp <;> fail) | skip) [runM_nil]
    refine hK _ _ ?_
    clear hK K
    refine pwp_cF (by simp) ?_
    refine pwp_skip ?_
    have cs := cvS_u8 (s := 1) (o := false) (l := r.take n) rfl (.inl rfl) (fun x hx => hwr x (List.mem_of_mem_take hx))
    rw [List.map_take] at cs
    first | refine pwp_sd hmix ?_ | refine pwp_drawM hmix ?_
    intro K hK
    simp (disch := first | (refine Ok.mk ?_; (try simp only [Lm, La, Lc, Ln, Lt, Ld, Lr, Li, true_or, or_true, true_and, and_true]); omega) | (simp <;> fail) | skip) [runM_nil, cs]
    refine hK _ _ ?_
    clear hK K
    refine pwp_ret ⟨.inr rfl, _, _, _, (by simp (disch := first | (refine Ok.mk ?_; (try simp only [Lm, La, Lc, Ln, Lt, Ld, Lr, Li, true_or, or_true, true_and, and_true]); omega) | (simp <;> fail) | skip) [runM_nil, resL]; rfl), .refl _, (by simp (disch := first | (refine Ok.mk ?_; (try simp only [Lm, La, Lc, Ln, Lt, Ld, Lr, Li, true_or, or_true, true_and, and_true]); omega) | (simp <;> fail) | skip) [resV]), rfl, rfl⟩
end Go.Proofs.Ytmpomnnaoggdkaa.E
/- Sums over bytes: the table, and what a register comes to. -/
namespace Go.Proofs.Ytmpomnnaoggdkaa.E
open Go Go.RowKit Go.Proofs
set_option linter.unusedVariables false
set_option linter.unusedSimpArgs false
theorem stp_lt {c : Nat} (h : c < 4294967296) : stp c < 4294967296 := by
  unfold stp
  split
  · exact xor_lt32 (by omega) (by omega)
  · omega
theorem turn_ok (c : Nat) (h : c < 4294967296) : PSpec Try.prog 31 [.int .u32 c] (.int .u32 (stp c : Nat)) := by
  intro H
  have e : ((c : Int) / 2).toNat = c / 2 := by omega
  have hx : c / 2 ^^^ 3988292384 < 4294967296 := xor_lt32 (by omega) (by omega)
  refine spec_of t31 (by simp [p31]) ?_
  simp only [p31]
  first | refine pwp_sr ?_ | refine pwp_regionM ?_
  intro K hK
  simp (disch := first | (refine Ok.mk ?_; (try simp only [Lm, La, Lc, Ln, Lt, Ld, Lr, Li, true_or, or_true, true_and, and_true]); omega) | (simp <;> fail) | skip) [runM_nil]
  refine hK _ _ ?_
  clear hK K
  by_cases hc : c % 2 = 1
  · first | refine pwp_rif ?_ | refine pwp_rifE ?_
    intro K hK
    simp (disch := first | (refine Ok.mk ?_; (try simp only [Lm, La, Lc, Ln, Lt, Ld, Lr, Li, true_or, or_true, true_and, and_true]); omega) | (simp <;> fail) | skip) [runM_nil, hc]
    refine hK _ _ ?_
    clear hK K
    refine ifT (by simp (disch := first | (refine Ok.mk ?_; (try simp only [Lm, La, Lc, Ln, Lt, Ld, Lr, Li, true_or, or_true, true_and, and_true]); omega) | (simp <;> fail) | skip) [runM_nil]) ?_
    first | refine pwp_sr ?_ | refine pwp_regionM ?_
    intro K hK
    simp (disch := first | (refine Ok.mk ?_; (try simp only [Lm, La, Lc, Ln, Lt, Ld, Lr, Li, true_or, or_true, true_and, and_true]); omega) | (simp <;> fail) | skip) [runM_nil, e]
    refine hK _ _ ?_
    clear hK K
    refine pwp_ret ⟨.inr rfl, _, _, (by simp (disch := first | (refine Ok.mk ?_; (try simp only [Lm, La, Lc, Ln, Lt, Ld, Lr, Li, true_or, or_true, true_and, and_true]); omega) | (simp <;> fail) | skip) [runM_nil, resL, stp, hc]; rfl), .refl _, by simp (disch := first | (refine Ok.mk ?_; (try simp only [Lm, La, Lc, Ln, Lt, Ld, Lr, Li, true_or, or_true, true_and, and_true]); omega) | (simp <;> fail) | skip) [resV, stp, hc], rfl⟩
  · have hc0 : c % 2 = 0 := by omega
    first | refine pwp_rif ?_ | refine pwp_rifE ?_
    intro K hK
    simp (disch := first | (refine Ok.mk ?_; (try simp only [Lm, La, Lc, Ln, Lt, Ld, Lr, Li, true_or, or_true, true_and, and_true]); omega) | (simp <;> fail) | skip) [runM_nil, hc0]
    refine hK _ _ ?_
    clear hK K
    refine ifF (by simp (disch := first | (refine Ok.mk ?_; (try simp only [Lm, La, Lc, Ln, Lt, Ld, Lr, Li, true_or, or_true, true_and, and_true]); omega) | (simp <;> fail) | skip) [runM_nil]) (pwp_skip ?_)
    first | refine pwp_sr ?_ | refine pwp_regionM ?_
    intro K hK
    simp (disch := first | (refine Ok.mk ?_; (try simp only [Lm, La, Lc, Ln, Lt, Ld, Lr, Li, true_or, or_true, true_and, and_true]); omega) | (simp <;> fail) | skip) [runM_nil]
    refine hK _ _ ?_
    clear hK K
    refine pwp_ret ⟨.inr rfl, _, _, (by simp (disch := first | (refine Ok.mk ?_; (try simp only [Lm, La, Lc, Ln, Lt, Ld, Lr, Li, true_or, or_true, true_and, and_true]); omega) | (simp <;> fail) | skip) [runM_nil, resL, stp, hc]; rfl), .refl _, by simp (disch := first | (refine Ok.mk ?_; (try simp only [Lm, La, Lc, Ln, Lt, Ld, Lr, Li, true_or, or_true, true_and, and_true]); omega) | (simp <;> fail) | skip) [resV, stp, hc], rfl⟩
def stps : Nat → Nat → Nat
  | 0, c => c
  | n + 1, c => stp (stps n c)
theorem stps_lt {c : Nat} (h : c < 4294967296) : ∀ n, stps n c < 4294967296
  | 0 => h
  | n + 1 => stp_lt (stps_lt h n)
/-- The table, so far. -/
def tblC (i : Nat) : List PV := ((List.range i).map ent ++ List.replicate (256 - i) 0).map u32
theorem tblC_len {i : Nat} (h : i ≤ 256) : (tblC i).length = 256 := by simp [tblC]; omega
theorem tblC_set {i : Nat} (h : i < 256) : (tblC i).set i (.int .u32 (ent i : Nat)) = tblC (i + 1) := by
  have e1 : PV.int .u32 (ent i : Nat) = u32 (ent i) := rfl
  rw [e1]
  unfold tblC
  rw [← List.map_set]
  congr 1
  have e : 256 - i = (256 - (i + 1)) + 1 := by omega
  rw [List.set_append_right _ _ (by simp), List.length_map, List.length_range, Nat.sub_self, e, List.replicate_succ, List.set_cons_zero, List.range_succ, List.map_append, List.append_assoc]
  rfl
set_option maxRecDepth 4000 in
theorem table_ok : PSpec Try.prog 17 [] (.lst 1 (tbl.map u32) false) := by
  intro H
  refine spec_of t17r (by simp [p17r]) ?_
  simp only [p17r]
  first | refine pwp_sr ?_ | refine pwp_regionM ?_
  intro K hK
  simp (disch := first | (refine Ok.mk ?_; (try simp only [Lm, La, Lc, Ln, Lt, Ld, Lr, Li, true_or, or_true, true_and, and_true]); omega) | (simp <;> fail) | skip) [runM_nil]
  refine hK _ _ ?_
  clear hK K
  have e0 : List.replicate 256 (PV.int .u32 0) = tblC 0 := by simp [tblC, -List.reduceReplicate]
  first | refine pwp_sr ?_ | refine pwp_regionM ?_
  intro K hK
  simp (disch := first | (refine Ok.mk ?_; (try simp only [Lm, La, Lc, Ln, Lt, Ld, Lr, Li, true_or, or_true, true_and, and_true]); omega) | (simp <;> fail) | skip) [runM_nil, e0, -List.reduceReplicate]
  intro b h_b
  try simp (disch := first | (refine Ok.mk ?_; (try simp only [Lm, La, Lc, Ln, Lt, Ld, Lr, Li, true_or, or_true, true_and, and_true]); omega) | (simp <;> fail) | skip) [runM_nil, e0, -List.reduceReplicate]
  refine hK _ _ ?_
  clear hK K
  refine pwp_seq ?_
  first | refine pwp_sr ?_ | refine pwp_regionM ?_
  intro K hK
  simp (disch := first | (refine Ok.mk ?_; (try simp only [Lm, La, Lc, Ln, Lt, Ld, Lr, Li, true_or, or_true, true_and, and_true]); omega) | (simp <;> fail) | skip) [runM_nil]
  refine hK _ _ ?_
  clear hK K
  refine pwp_block ?_
  refine pwp_loopK [1, 6, 7] (fun m st H' => ∃ i : Nat, i ≤ 256 ∧ m = 256 - i ∧ H' = (b, tblC i) :: H ∧ st = MS 23 [(1, .row b 0 256 256), (6, .int .i64 256), (7, .int .i64 i)]) (n := 256)
    ⟨_, .refl _, 0, by omega, rfl, rfl, by simp [keepL_MS, keepA, getS]⟩ ?_
  rintro m st _ ⟨i, hi, rfl, rfl, rfl⟩
  have hlen := tblC_len hi
  by_cases hlt : i < 256
  · have hset := tblC_set hlt
    generalize tblC i = T at *
    first | refine pwp_sr ?_ | refine pwp_regionM ?_
    intro K hK
    simp (disch := first | (refine Ok.mk ?_; (try simp only [Lm, La, Lc, Ln, Lt, Ld, Lr, Li, true_or, or_true, true_and, and_true]); omega) | (simp <;> fail) | skip) [runM_nil]
    refine hK _ _ ?_
    clear hK K
    refine pwp_seq (pwp_cT (by simp) (pwp_skip ?_))
    refine pwp_seq (pwp_block ?_)
    first | refine pwp_sr ?_ | refine pwp_regionM ?_
    intro K hK
    simp (disch := first | (refine Ok.mk ?_; (try simp only [Lm, La, Lc, Ln, Lt, Ld, Lr, Li, true_or, or_true, true_and, and_true]); omega) | (simp <;> fail) | skip) [runM_nil]
    refine hK _ _ ?_
    clear hK K
    first | refine pwp_sr ?_ | refine pwp_regionM ?_
    intro K hK
    simp (disch := first | (refine Ok.mk ?_; (try simp only [Lm, La, Lc, Ln, Lt, Ld, Lr, Li, true_or, or_true, true_and, and_true]); omega) | (simp <;> fail) | skip) [runM_nil]
    refine hK _ _ ?_
    clear hK K
    refine pwp_seq (pwp_seq ?_)
    first | refine pwp_sr ?_ | refine pwp_regionM ?_
    intro K hK
    simp (disch := first | (refine Ok.mk ?_; (try simp only [Lm, La, Lc, Ln, Lt, Ld, Lr, Li, true_or, or_true, true_and, and_true]); omega) | (simp <;> fail) | skip) [runM_nil]
    refine hK _ _ ?_
    clear hK K
    refine pwp_block ?_
    refine pwp_loopK [1, 2, 3, 6, 7, 12] (fun m st H' => ∃ j : Nat, j ≤ 8 ∧ m = 8 - j ∧ H' = (b, T) :: H ∧ st = MS 23 [(1, .row b 0 256 256), (2, .int .i64 i), (3, .int .u32 (stps j i : Nat)), (6, .int .i64 256), (7, .int .i64 i), (12, .int .i64 j)]) (n := 8)
      ⟨_, .refl _, 0, by omega, rfl, rfl, by simp [keepL_MS, keepA, getS, stps]⟩ ?_
    rintro m st _ ⟨j, hj, rfl, rfl, rfl⟩
    have hsl := stps_lt (c := i) (by omega) j
    by_cases hj8 : j < 8
    · first | refine pwp_sr ?_ | refine pwp_regionM ?_
      intro K hK
      simp (disch := first | (refine Ok.mk ?_; (try simp only [Lm, La, Lc, Ln, Lt, Ld, Lr, Li, true_or, or_true, true_and, and_true]); omega) | (simp <;> fail) | skip) [runM_nil]
      refine hK _ _ ?_
      clear hK K
      refine pwp_seq (pwp_cT (by simp) (pwp_skip ?_))
      refine pwp_seq (pwp_block ?_)
      first | refine pwp_sr ?_ | refine pwp_regionM ?_
      intro K hK
      simp (disch := first | (refine Ok.mk ?_; (try simp only [Lm, La, Lc, Ln, Lt, Ld, Lr, Li, true_or, or_true, true_and, and_true]); omega) | (simp <;> fail) | skip) [runM_nil]
      refine useP (turn_ok _ hsl) ?_
      simp (disch := first | (refine Ok.mk ?_; (try simp only [Lm, La, Lc, Ln, Lt, Ld, Lr, Li, true_or, or_true, true_and, and_true]); omega) | (simp <;> fail) | skip) [runM_nil]
      refine hK _ _ ?_
      clear hK K
      first | refine pwp_sr ?_ | refine pwp_regionM ?_
      intro K hK
      simp (disch := first | (refine Ok.mk ?_; (try simp only [Lm, La, Lc, Ln, Lt, Ld, Lr, Li, true_or, or_true, true_and, and_true]); omega) | (simp <;> fail) | skip) [runM_nil]
      refine hK _ _ ?_
      clear hK K
      exact ⟨8 - (j + 1), by omega, _, .refl _, j + 1, by omega, rfl, rfl, by simp [keepL_MS, keepA, getS, stps]⟩
    · obtain rfl : j = 8 := by omega
      first | refine pwp_sr ?_ | refine pwp_regionM ?_
      intro K hK
      simp (disch := first | (refine Ok.mk ?_; (try simp only [Lm, La, Lc, Ln, Lt, Ld, Lr, Li, true_or, or_true, true_and, and_true]); omega) | (simp <;> fail) | skip) [runM_nil]
      refine hK _ _ ?_
      clear hK K
      refine pwp_seq (pwp_cF (by simp) (pwp_exit ?_))
      have he : stps 8 i = ent i := rfl
      have hsc := set_cell (cs := T) (i := i) (v := .int .u32 (ent i : Nat)) (by omega)
      first | refine pwp_sr ?_ | refine pwp_regionM ?_
      intro K hK
      simp (disch := first | (refine Ok.mk ?_; (try simp only [Lm, La, Lc, Ln, Lt, Ld, Lr, Li, true_or, or_true, true_and, and_true]); omega) | (simp <;> fail) | skip) [runM_nil, he, hlen, hsc, hset]
      refine hK _ _ ?_
      clear hK K
      first | refine pwp_sr ?_ | refine pwp_regionM ?_
      intro K hK
      simp (disch := first | (refine Ok.mk ?_; (try simp only [Lm, La, Lc, Ln, Lt, Ld, Lr, Li, true_or, or_true, true_and, and_true]); omega) | (simp <;> fail) | skip) [runM_nil]
      refine hK _ _ ?_
      clear hK K
      exact ⟨256 - (i + 1), by omega, _, .refl _, i + 1, by omega, rfl, rfl, by simp [keepL_MS, keepA, getS]⟩
  · obtain rfl : i = 256 := by omega
    first | refine pwp_sr ?_ | refine pwp_regionM ?_
    intro K hK
    simp (disch := first | (refine Ok.mk ?_; (try simp only [Lm, La, Lc, Ln, Lt, Ld, Lr, Li, true_or, or_true, true_and, and_true]); omega) | (simp <;> fail) | skip) [runM_nil]
    refine hK _ _ ?_
    clear hK K
    refine pwp_seq (pwp_cF (by simp) (pwp_exit ?_))
    refine pwp_ro h_b ?_
    have hr : rowL 1 false (tblC 256) 256 256 = some (.lst 1 (tbl.map u32) false) := by
      have e1 : tblC 256 = tbl.map u32 := by simp [tblC, tbl]
      rw [e1, rowL_plain (lendL_map (fun a => rfl) tbl) (by rw [Lm]; exact tbl_length) (by omega)]
    first | refine pwp_sr ?_ | refine pwp_regionM ?_
    intro K hK
    simp (disch := first | (refine Ok.mk ?_; (try simp only [Lm, La, Lc, Ln, Lt, Ld, Lr, Li, true_or, or_true, true_and, and_true]); omega) | (simp <;> fail) | skip) [runM_nil, hr]
    refine hK _ _ ?_
    clear hK K
    refine pwp_ret ⟨.inr rfl, _, _, (by simp (disch := first | (refine Ok.mk ?_; (try simp only [Lm, La, Lc, Ln, Lt, Ld, Lr, Li, true_or, or_true, true_and, and_true]); omega) | (simp <;> fail) | skip) [runM_nil, resL]; rfl), .refl _, by simp (disch := first | (refine Ok.mk ?_; (try simp only [Lm, La, Lc, Ln, Lt, Ld, Lr, Li, true_or, or_true, true_and, and_true]); omega) | (simp <;> fail) | skip) [resV], rfl⟩
end Go.Proofs.Ytmpomnnaoggdkaa.E
/- slices.Grow of a nil slice, over the model itself. -/
namespace Go.Proofs.Ytmpomnnaoggdkaa.E
open Go Go.RowKit Go.Proofs
set_option linter.unusedVariables false
set_option linter.unusedSimpArgs false
theorem growNil_run {P : Program} {t ti ty e : TypeId} {i : TypeInfo} {z : Value} {k : IntKind} (ht : P.underlying t = some (.slice e)) (hti : P.underlying ti = some (.int k)) (hi : P.info? e = some i) (hz : i.zero = some z)
    (hzs : z.cells.size = i.size) (hsz : 0 < i.size) (hby : 1 ≤ i.bytes) (A : Option Addr) (n : Nat) (hn : 0 < n) (hb : n * i.bytes ≤ 140737488355328) (w : World) :
    ∃ cap rest, n ≤ cap ∧ cap ≤ maxLen ∧ rest.size = cap * i.size ∧ (Builtin.append_ #[t, ti] ty #[.slice A 0 0, .int .i64 n]).run P w = .ok (.slice (some ⟨w.heap.size, 0, none⟩) n cap) (w.drew.alloc (.cells rest e)) := by
  have hle : n ≤ 140737488355328 := Nat.le_trans (Nat.le_mul_of_pos_right _ hby) hb
  have h63 : n ≤ maxLen := by simp only [maxLen]; omega
  have hw : IntKind.i64.wrap (n : Int) = n := by rw [IntKind.wrap_i64]; omega
  have hneg : ¬ ((n : Int) < 0) := by omega
  have hbig : ¬ (281474976710656 < (n : Int) * (i.bytes : Int)) := by rw [← Int.natCast_mul]; omega
  have hcapn : ¬ (0 + n ≤ 0) := by omega
  have h63' : ¬ (9223372036854775807 < (((0 : Nat) : Int) + (n : Int))) := by simp only [maxLen] at h63; omega
  have hfit := growslice_fits (need := n) (old := 0) (bytes := i.bytes) (by omega) hb
  have h48' : ¬ (281474976710656 < Builtin.nextslicecap (0 + n) 0 * i.bytes) := by rw [Nat.zero_add]; omega
  have hsn : i.size ≠ 0 := by omega
  have hmz : ¬ (n * i.size = 0) := Nat.mul_ne_zero (by omega) hsn
  have hfc : (Builtin.firstCells i.size 0 (.slice A 0 0)).run P w.drew = .ok #[] w.drew := by cases A <;> simp [Builtin.firstCells, loadCells, loadCellsFrom]
  refine ⟨grownCap w n 0 e, Builtin.zeroCells z.cells n ++ Builtin.zeroCells z.cells (grownCap w n 0 e - n), grownCap_ge _ _ _ _, grownCap_le_maxLen _ _ _ _ h63, ?_, ?_⟩
  · have := grownCap_ge w n 0 e
    rw [Array.size_append, size_zeroCells, size_zeroCells, hzs, ← Nat.add_mul]
    congr 1
    omega
  · simp only [Nat.zero_add] at hcapn h63' h48'
    have hn0 : n ≠ 0 := by omega
    simp [Builtin.append_, run_underlying ht, run_underlying hti, sizeOf, typeInfo, zeroValue, hi, hz, asInt, asIntOf, hw, hneg, hbig, h48', Question.forced, newRow, grownCap, hmz, hn0, hfc]
    omega
/-- What a call that makes a value comes to. -/
theorem spec_step {P : Program} {f : Nat} {args : List PV} {r : PV} (hc : callable P f = true) (h : ∀ (out : List Nat) (w : World) (g : Ghost) (vals : Array Value), WRel out w g → VRl true w g args vals.toList →
    Calls P f vals w fun e w' => ∃ v g', e = .returned v ∧ Step [] w g w' g' r v) : PSpec P f args r := by
  refine fun H => ⟨trivial, fun out w g vals hw hH hV hun => .inl ⟨hc, (h out w g vals hw hV).mono ?_⟩⟩
  rintro e w' ⟨v, g', rfl, hs⟩
  have hlt : ∀ b f, g b = .tail f → b < w.heap.size := fun b f hf => hw.lt (by rw [hf]; simp)
  have hE : Evol (out ++ toksH w H) w g w' g' := hs.toStep0.evol (by simp) fun b hb => by
    refine ⟨?_, by simp⟩
    rcases List.mem_append.1 hb with hb | hb
    · obtain ⟨f, hf⟩ := hw.outT b hb; exact hlt b f hf
    · obtain ⟨f, hf⟩ := toksH_tail hH b hb; exact hlt b f hf
  have hm : ∀ b, g b = .mut → w'.heap[b]? = w.heap[b]? ∧ g' b = .mut := fun b hb => by
    obtain ⟨k1, k2⟩ := hs.old b (hw.lt (by rw [hb]; simp)) (by simp)
    exact ⟨k1, k2.trans hb⟩
  obtain ⟨hH', hT⟩ := HRel.keep hE hm hH (fun b hb => List.mem_append_right _ hb)
  refine ⟨v, r, H, g', rfl, ⟨rfl, rfl⟩, hs.toStep0.wrel hw (by simp), hH', hs.rv, fun b => ?_, hE.sub (fun b hb => List.mem_append_left _ hb)⟩
  rw [hT]
  have h1 := hun b
  have h2 := hs.rt b
  by_cases hb : b ∈ toks r v
  · rcases hs.rs b hb with hm | hm
    · cases hm
    · have z1 : (toksH w H).count b = 0 := count_mem_zero fun hh => by obtain ⟨f, hf⟩ := toksH_tail hH b hh; have := hlt b f hf; omega
      have z2 : out.count b = 0 := count_mem_zero fun hh => by obtain ⟨f, hf⟩ := hw.outT b hh; have := hlt b f hf; omega
      omega
  · have := count_mem_zero hb
    omega
theorem wp_growNil {P : Program} {ops : Array Oper} {rest' : List Oper} {o : Oper} {a : Act} {W : World} {Q : Exit → Act → World → Prop} (hgd : o.guard = none) (s x : Operand) (t ti e : TypeId) {i : TypeInfo} {z : Value} {k : IntKind}
    (ho : o.op = .call { callee := .builtin .append, args := #[s, x], argTypes := #[t, ti] }) (ht : P.underlying t = some (.slice e)) (hti : P.underlying ti = some (.int k)) (hi : P.info? e = some i) (hz : i.zero = some z)
    (hzs : z.cells.size = i.size) (hsz : 0 < i.size) (hby : 1 ≤ i.bytes) (A : Option Addr) (n : Nat) (hn : 0 < n) (hb : n * i.bytes ≤ 140737488355328) (hs : a.eval s = .slice A 0 0) (hx : a.eval x = .int .i64 n)
    (h : ∀ cap rest, n ≤ cap → cap ≤ maxLen → rest.size = cap * i.size → wpList P ops Q rest' (a.put o.dst (.slice (some ⟨W.heap.size, 0, none⟩) n cap)) (W.drew.alloc (.cells rest e))) : wpList P ops Q (o :: rest') a W := by
  obtain ⟨cap, rest, k1, k2, k3, hr1⟩ := growNil_run (ty := o.type) ht hti hi hz hzs hsz hby A n hn hb W
  refine wpList_plain hgd fun K hK => ?_
  unfold Oper.wp execOp
  simp only [ho, resolve, invoke, builtin, Sem.run_bind, Sem.run_pure, Result.andThen_ok, List.map_toArray, List.map_cons, List.map_nil, hs, hx, hr1]
  exact hK _ _ (h cap rest k1 k2 k3)
theorem slice_len {P : Program} {t e : TypeId} {i : TypeInfo} (ht : P.underlying t = some (.slice e)) (hi : P.info? e = some i) (A : Option Addr) (n c : Nat) (hc : n ≤ c) :
    ∀ W : World, (Instr.slice t (.slice A n c) none (some (.int .i64 0)) none).run P W = .ok (.slice A 0 c) W := by
  intro W
  have hel : P.elem t = e := by simp [Program.elem, ht]
  have hu : P.underlying t = some (.slice (P.elem t)) := by rw [hel]; exact ht
  have ha : (A.map fun x => x.add 0) = A := by cases A <;> simp [Addr.add]
  rw [run_slice_h W t A n c hu .i64 0 (by omega) (by omega), hel]
  simp [sizeOf, typeInfo, hi, sliced, Result.andThen, ha]
theorem grow_ok (n : Nat) (hn : n ≤ 100000000000000) : PSpec Try.prog 34 [.lst 0 [] true, .int .i64 n] (.lst 1 [] true) := by
  refine spec_step (by kernel_rfl) ?_
  intro out w g vals hw hV
  obtain ⟨v, vs, e1, hv, v2, vs2, e2, hv2, e3⟩ := hV
  subst e2 e3
  obtain ⟨A, cap, rfl, c1, c2, c3, c4⟩ := hv
  obtain rfl : cap = 0 := by
    by_cases h : ([] : List PV).length < cap
    · exact absurd (c4 rfl rfl h).1 (by omega)
    · simpa using h
  cases hv2
  obtain rfl : vals = #[.slice A 0 0, .int .i64 n] := by cases vals; simp_all
  have hinfo : (Try.prog.info? 5).map (fun i => (i.zero, i.size, i.bytes)) = some (some (.int .u8 0), 1, 1) := by kernel_rfl
  obtain ⟨i, hi, hzz⟩ := Option.map_eq_some_iff.1 hinfo
  simp only [Prod.mk.injEq] at hzz
  obtain ⟨hz0, hz1, hz2⟩ := hzz
  have c1 : decide ((n : Int) < 0) = false := decide_eq_false (by omega)
  have e1 : IntKind.i64.wrap (n : Int) = n := by rw [IntKind.wrap_i64]; omega
  have hcap : ∀ W : World, (Instr.slice 25 (.slice A 0 0) none (some (.int .i64 0)) none).run Try.prog W = .ok (.slice A 0 0) W := slice_len Try.underlying25 hi A 0 0 (Nat.le_refl _)
  by_cases hp : 0 < n
  · have c2 : decide (0 < (n : Int)) = true := decide_eq_true (by omega)
    go_enter Try.func34, Try.ntmps34
    go_wp2_with (first | (at_builtin; refine wp_growNil rfl (.tmp 20) (.tmp 21) 25 3 5 rfl Try.underlying25 Try.underlying3 hi hz0 (by rw [hz1]; rfl) (by omega) (by omega) A n hp (by rw [hz2]; omega) rfl rfl ?_; intro cap rest k1 k2 k3; have hcut := slice_len Try.underlying25 hi (some ⟨w.heap.size, 0, none⟩) n cap k1))
    go_ret
    have hS : Step0 [] w g (w.drew.alloc (.cells rest 5)) (upd g w.heap.size (.tail 0)) := Step0.alloc (out := out) (tk := []) (fz := (0, 0)) hw rfl rfl rfl rfl (by simp) (fun f hf => by cases hf; exact ⟨rfl, Nat.zero_le _⟩)
    have ht : ∀ b ∈ toks (.lst 1 [] true) (.slice (some ⟨w.heap.size, 0, none⟩) 0 cap), b = w.heap.size := fun b hb => by
      rw [toks_lst (n := 0) rfl] at hb
      split at hb
      · simpa using hb
      · cases hb
    refine ⟨.slice (some ⟨w.heap.size, 0, none⟩) 0 cap, rfl, upd g w.heap.size (.tail 0), ⟨hS, ?_, fun b => ?_, fun b hb => .inr (by rw [ht b hb]; exact Nat.le_refl _)⟩⟩
    · refine ⟨_, cap, rfl, Nat.zero_le _, k2, .inl rfl, fun _ _ hlt => ⟨by omega, w.heap.size, rest, _, rfl, heap_alloc_new w.drew _, by rw [upd_same]; rfl, by rw [k3, hz1]; omega⟩⟩
    · rw [toks_lst (n := 0) rfl]
      exact count_one _ _ _
  · obtain rfl : n = 0 := by omega
    go_enter Try.func34, Try.ntmps34
    go_wp2
    go_ret
    refine ⟨_, rfl, g, Step.same hw ⟨A, 0, rfl, Nat.le_refl _, Nat.zero_le _, .inl rfl, fun _ _ h => absurd h (by simp)⟩ (by cases A <;> simp [toks])⟩
end Go.Proofs.Ytmpomnnaoggdkaa.E
/- Sums over bytes: sealed, and opened. -/
namespace Go.Proofs.Ytmpomnnaoggdkaa.E
open Go Go.RowKit Go.Proofs
set_option linter.unusedVariables false
set_option linter.unusedSimpArgs false
def rowsV (ls : List (Nat × List Nat)) : List PV := ls.map fun p => .lst p.1 (p.2.map u8) false
def flat (ls : List (Nat × List Nat)) (i : Nat) : List Nat := (ls.take i).flatMap (·.2)
theorem flat_succ {ls : List (Nat × List Nat)} {i : Nat} (h : i < ls.length) : flat ls (i + 1) = flat ls i ++ ls[i].2 := by
  rw [flat, List.take_succ_eq_append_getElem h, List.flatMap_append]
  simp [flat]
theorem flat_le {ls : List (Nat × List Nat)} (i : Nat) : (flat ls i).length ≤ (ls.flatMap (·.2)).length := by
  have h : ls.flatMap (·.2) = flat ls i ++ (ls.drop i).flatMap (·.2) := by rw [flat, ← List.flatMap_append, List.take_append_drop]
  rw [h, List.length_append]
  omega
theorem flat_all (ls : List (Nat × List Nat)) : flat ls ls.length = ls.flatMap (·.2) := by rw [flat, List.take_length]
set_option maxRecDepth 4000 in
theorem concat_ok {es : List PV} {o : Bool} (ls : List (Nat × List Nat)) (he : es = rowsV ls) (hs : ∀ p ∈ ls, p.1 = 1 ∨ p.2.length = 0) (hn : ls.length ≤ 1000000) (hl : (ls.flatMap (·.2)).length ≤ 100000000000000) :
    PSpec Try.prog 21 [.lst 1 es o] (bV (ls.flatMap (·.2)) true) := by
  intro H
  have hel : es.length = ls.length := by rw [he, rowsV, Lm]
  have hge : ∀ i (h : i < ls.length), es[i]? = some (.lst ls[i].1 (ls[i].2.map u8) false) := fun i h => by rw [he, rowsV, List.getElem?_map, List.getElem?_eq_getElem h]; rfl
  clear he
  refine spec_of t21t (by simp [p21t]) ?_
  simp only [p21t]
  first | refine pwp_sr ?_ | refine pwp_regionM ?_
  intro K hK
  simp (disch := first | (refine Ok.mk ?_; (try simp only [Lm, La, Lc, Ln, Lt, Ld, Lr, Li, true_or, or_true, true_and, and_true]); omega) | (simp <;> fail) | skip) [runM_nil]
  refine hK _ _ ?_
  clear hK K
  first | refine pwp_sr ?_ | refine pwp_regionM ?_
  intro K hK
  simp (disch := first | (refine Ok.mk ?_; (try simp only [Lm, La, Lc, Ln, Lt, Ld, Lr, Li, true_or, or_true, true_and, and_true]); omega) | (simp <;> fail) | skip) [runM_nil]
  refine hK _ _ ?_
  clear hK K
  refine pwp_seq (pwp_seq ?_)
  first | refine pwp_sr ?_ | refine pwp_regionM ?_
  intro K hK
  simp (disch := first | (refine Ok.mk ?_; (try simp only [Lm, La, Lc, Ln, Lt, Ld, Lr, Li, true_or, or_true, true_and, and_true]); omega) | (simp <;> fail) | skip) [runM_nil, hel]
  refine hK _ _ ?_
  clear hK K
  refine pwp_block ?_
  refine pwp_loopK [0, 3, 9, 10, 11] (fun m st H' => ∃ i : Nat, i ≤ ls.length ∧ m = ls.length - i ∧ H' = H ∧ st = MS 36 [(0, .lst 1 es o), (3, .int .i64 (flat ls i).length), (9, .lst 1 es false), (10, .int .i64 ls.length), (11, .int .i64 i)]) (n := ls.length)
    ⟨_, .refl _, 0, Nat.zero_le _, rfl, rfl, by simp [keepL_MS, keepA, getS, flat]⟩ ?_
  rintro m st H' ⟨i, hi, rfl, rfl, rfl⟩
  by_cases hlt : i < ls.length
  · have hg := hge i hlt
    have hf := flat_succ hlt
    have hfl := flat_le (ls := ls) (i + 1)
    have hfl2 := congrArg List.length hf
    rw [La] at hfl2
    generalize ls[i] = q at *
    first | refine pwp_sr ?_ | refine pwp_regionM ?_
    intro K hK
    simp (disch := first | (refine Ok.mk ?_; (try simp only [Lm, La, Lc, Ln, Lt, Ld, Lr, Li, true_or, or_true, true_and, and_true]); omega) | (simp <;> fail) | skip) [runM_nil, hel]
    refine hK _ _ ?_
    clear hK K
    refine pwp_seq (pwp_cT (by simp) (pwp_skip ?_))
    refine pwp_seq (pwp_block ?_)
    first | refine pwp_sr ?_ | refine pwp_regionM ?_
    intro K hK
    simp (disch := first | (refine Ok.mk ?_; (try simp only [Lm, La, Lc, Ln, Lt, Ld, Lr, Li, true_or, or_true, true_and, and_true]); omega) | (simp <;> fail) | skip) [runM_nil, hg, hel]
    refine hK _ _ ?_
    clear hK K
    first | refine pwp_sr ?_ | refine pwp_regionM ?_
    intro K hK
    simp (disch := first | (refine Ok.mk ?_; (try simp only [Lm, La, Lc, Ln, Lt, Ld, Lr, Li, true_or, or_true, true_and, and_true]); omega) | (simp <;> fail) | skip) [runM_nil]
    refine hK _ _ ?_
    clear hK K
    first | refine pwp_rif ?_ | refine pwp_rifE ?_
    intro K hK
    simp (disch := first | (refine Ok.mk ?_; (try simp only [Lm, La, Lc, Ln, Lt, Ld, Lr, Li, true_or, or_true, true_and, and_true]); omega) | (simp <;> fail) | skip) [runM_nil]
    refine hK _ _ ?_
    clear hK K
    refine ifF (by simp (disch := first | (refine Ok.mk ?_; (try simp only [Lm, La, Lc, Ln, Lt, Ld, Lr, Li, true_or, or_true, true_and, and_true]); omega) | (simp <;> fail) | skip) [runM_nil]) (pwp_skip ?_)
    first | refine pwp_sr ?_ | refine pwp_regionM ?_
    intro K hK
    simp (disch := first | (refine Ok.mk ?_; (try simp only [Lm, La, Lc, Ln, Lt, Ld, Lr, Li, true_or, or_true, true_and, and_true]); omega) | (simp <;> fail) | skip) [runM_nil]
    refine hK _ _ ?_
    clear hK K
    exact ⟨ls.length - (i + 1), by omega, _, .refl _, i + 1, by omega, rfl, rfl, by simp [keepL_MS, keepA, getS, hfl2]⟩
  · obtain rfl : i = ls.length := by omega
    first | refine pwp_sr ?_ | refine pwp_regionM ?_
    intro K hK
    simp (disch := first | (refine Ok.mk ?_; (try simp only [Lm, La, Lc, Ln, Lt, Ld, Lr, Li, true_or, or_true, true_and, and_true]); omega) | (simp <;> fail) | skip) [runM_nil, hel]
    refine hK _ _ ?_
    clear hK K
    refine pwp_seq (pwp_cF (by simp) (pwp_exit ?_))
    have hfa := flat_all ls
    generalize hF : ls.flatMap (·.2) = F at *
    rw [hfa]
    first | refine pwp_sr ?_ | refine pwp_regionM ?_
    intro K hK
    simp (disch := first | (refine Ok.mk ?_; (try simp only [Lm, La, Lc, Ln, Lt, Ld, Lr, Li, true_or, or_true, true_and, and_true]); omega) | (simp <;> fail) | skip) [runM_nil]
    refine useP (grow_ok _ hl) ?_
    simp (disch := first | (refine Ok.mk ?_; (try simp only [Lm, La, Lc, Ln, Lt, Ld, Lr, Li, true_or, or_true, true_and, and_true]); omega) | (simp <;> fail) | skip) [runM_nil]
    refine hK _ _ ?_
    clear hK K
    refine pwp_seq (pwp_seq ?_)
    first | refine pwp_sr ?_ | refine pwp_regionM ?_
    intro K hK
    simp (disch := first | (refine Ok.mk ?_; (try simp only [Lm, La, Lc, Ln, Lt, Ld, Lr, Li, true_or, or_true, true_and, and_true]); omega) | (simp <;> fail) | skip) [runM_nil, hel]
    refine hK _ _ ?_
    clear hK K
    refine pwp_block ?_
    refine pwp_loopK [6, 25, 26, 27] (fun m st H2 => ∃ i : Nat, i ≤ ls.length ∧ m = ls.length - i ∧ H2 = H' ∧ st = MS 36 [(6, bV (flat ls i) true), (25, .lst 1 es false), (26, .int .i64 ls.length), (27, .int .i64 i)]) (n := ls.length)
      ⟨_, .refl _, 0, Nat.zero_le _, rfl, rfl, by simp [keepL_MS, keepA, getS, flat]⟩ ?_
    clear hlt hi
    rintro m st _ ⟨i, hi, rfl, rfl, rfl⟩
    by_cases hlt : i < ls.length
    · have hg := hge i hlt
      have hsi := hs _ (List.getElem_mem hlt)
      have hf := flat_succ hlt
      have hfl := flat_le (ls := ls) (i + 1)
      rw [hF] at hfl
      have hfl2 := congrArg List.length hf
      rw [La] at hfl2
      generalize ls[i] = q at *
      first | refine pwp_sr ?_ | refine pwp_regionM ?_
      intro K hK
      simp (disch := first | (refine Ok.mk ?_; (try simp only [Lm, La, Lc, Ln, Lt, Ld, Lr, Li, true_or, or_true, true_and, and_true]); omega) | (simp <;> fail) | skip) [runM_nil, hel]
      refine hK _ _ ?_
      clear hK K
      refine pwp_seq (pwp_cT (by simp) (pwp_skip ?_))
      refine pwp_seq (pwp_block ?_)
      first | refine pwp_sr ?_ | refine pwp_regionM ?_
      intro K hK
      simp (disch := first | (refine Ok.mk ?_; (try simp only [Lm, La, Lc, Ln, Lt, Ld, Lr, Li, true_or, or_true, true_and, and_true]); omega) | (simp <;> fail) | skip) [runM_nil, hg, hel]
      refine hK _ _ ?_
      clear hK K
      first | refine pwp_sr ?_ | refine pwp_regionM ?_
      intro K hK
      simp (disch := first | (refine Ok.mk ?_; (try simp only [Lm, La, Lc, Ln, Lt, Ld, Lr, Li, true_or, or_true, true_and, and_true]); omega) | (simp <;> fail) | skip) [runM_nil]
      refine hK _ _ ?_
      clear hK K
      first | refine pwp_sr ?_ | refine pwp_regionM ?_
      intro K hK
      simp (disch := first | (refine Ok.mk ?_; (try simp only [Lm, La, Lc, Ln, Lt, Ld, Lr, Li, true_or, or_true, true_and, and_true]); omega) | (simp <;> fail) | skip) [runM_nil]
      refine hK _ _ ?_
      clear hK K
      exact ⟨ls.length - (i + 1), by omega, _, .refl _, i + 1, by omega, rfl, rfl, by simp [keepL_MS, keepA, getS, hf]⟩
    · obtain rfl : i = ls.length := by omega
      first | refine pwp_sr ?_ | refine pwp_regionM ?_
      intro K hK
      simp (disch := first | (refine Ok.mk ?_; (try simp only [Lm, La, Lc, Ln, Lt, Ld, Lr, Li, true_or, or_true, true_and, and_true]); omega) | (simp <;> fail) | skip) [runM_nil, hel]
      refine hK _ _ ?_
      clear hK K
      refine pwp_seq (pwp_cF (by simp) (pwp_exit ?_))
      rw [hfa]
      first | refine pwp_sr ?_ | refine pwp_regionM ?_
      intro K hK
      simp (disch := first | (refine Ok.mk ?_; (try simp only [Lm, La, Lc, Ln, Lt, Ld, Lr, Li, true_or, or_true, true_and, and_true]); omega) | (simp <;> fail) | skip) [runM_nil]
      refine hK _ _ ?_
      clear hK K
      refine pwp_ret ⟨.inr rfl, _, _, (by simp (disch := first | (refine Ok.mk ?_; (try simp only [Lm, La, Lc, Ln, Lt, Ld, Lr, Li, true_or, or_true, true_and, and_true]); omega) | (simp <;> fail) | skip) [runM_nil, resL]; rfl), .refl _, by simp (disch := first | (refine Ok.mk ?_; (try simp only [Lm, La, Lc, Ln, Lt, Ld, Lr, Li, true_or, or_true, true_and, and_true]); omega) | (simp <;> fail) | skip) [resV], rfl⟩
end Go.Proofs.Ytmpomnnaoggdkaa.E
/- Sums over bytes: what is sealed, and opened. -/
namespace Go.Proofs.Ytmpomnnaoggdkaa.E
open Go Go.RowKit Go.Proofs
set_option linter.unusedVariables false
set_option linter.unusedSimpArgs false
/-- The register's next number. -/
def nxt (t : List Nat) (c x : Nat) : Nat := t.getD ((c % 256) ^^^ x) 0 ^^^ (c / 256)
theorem mor_cons (t : List Nat) (c x : Nat) (b : List Nat) : mor t c (x :: b) = mor t (nxt t c x) b := rfl
theorem mor_drop {t b : List Nat} {c i : Nat} (h : i < b.length) : mor t c (b.drop i) = mor t (nxt t c b[i]) (b.drop (i + 1)) := by
  rw [List.drop_eq_getElem_cons h, mor_cons]
set_option maxRecDepth 4000 in
theorem more_ok {t : List Nat} (ht : t.length = 256) (ht2 : ∀ x ∈ t, x < 4294967296) {ot o : Bool} {s : Nat} {xs : List PV} {b : List Nat} (hx : xs = b.map u8) (hs : s = 1 ∨ b.length = 0) (hw : ∀ x ∈ b, x < 256) (hl : b.length ≤ 100000000000000) (c : Nat) (hc : c < 4294967296) :
    PSpec Try.prog 43 [.lst 1 (t.map u32) ot, .int .u32 c, .lst s xs o] (.tup [.int .u32 (mor t c b : Nat), .int .i64 0]) := by
  subst hx
  intro H
  refine spec_of t43 (by simp [p43]) ?_
  simp only [p43]
  first | refine pwp_sr ?_ | refine pwp_regionM ?_
  intro K hK
  simp (disch := first | (refine Ok.mk ?_; (try simp only [Lm, La, Lc, Ln, Lt, Ld, Lr, Li, true_or, or_true, true_and, and_true]); omega) | (simp <;> fail) | skip) [runM_nil]
  refine hK _ _ ?_
  clear hK K
  first | refine pwp_rif ?_ | refine pwp_rifE ?_
  intro K hK
  simp (disch := first | (refine Ok.mk ?_; (try simp only [Lm, La, Lc, Ln, Lt, Ld, Lr, Li, true_or, or_true, true_and, and_true]); omega) | (simp <;> fail) | skip) [runM_nil, ht]
  refine hK _ _ ?_
  clear hK K
  refine ifF (by simp (disch := first | (refine Ok.mk ?_; (try simp only [Lm, La, Lc, Ln, Lt, Ld, Lr, Li, true_or, or_true, true_and, and_true]); omega) | (simp <;> fail) | skip) [runM_nil]) (pwp_skip ?_)
  refine pwp_seq (pwp_seq ?_)
  first | refine pwp_sr ?_ | refine pwp_regionM ?_
  intro K hK
  simp (disch := first | (refine Ok.mk ?_; (try simp only [Lm, La, Lc, Ln, Lt, Ld, Lr, Li, true_or, or_true, true_and, and_true]); omega) | (simp <;> fail) | skip) [runM_nil]
  refine hK _ _ ?_
  clear hK K
  refine pwp_block ?_
  refine pwp_loopK [0, 1, 13, 14, 15] (fun m st H' => ∃ i d : Nat, i ≤ b.length ∧ m = b.length - i ∧ d < 4294967296 ∧ mor t d (b.drop i) = mor t c b ∧ H' = H ∧ st = MS 31 [(0, .lst 1 (t.map u32) ot), (1, .int .u32 d), (13, .lst s (b.map u8) false), (14, .int .i64 b.length), (15, .int .i64 i)]) (n := b.length)
    ⟨_, .refl _, 0, c, Nat.zero_le _, rfl, hc, rfl, rfl, by simp [keepL_MS, keepA, getS]⟩ ?_
  rintro m st H' ⟨i, d, hi, rfl, hd, hm, rfl, rfl⟩
  by_cases hlt : i < b.length
  · obtain rfl : s = 1 := by omega
    have hxb : b[i] < 256 := hw _ (List.getElem_mem hlt)
    have hgx : b[i]? = some b[i] := List.getElem?_eq_getElem hlt
    rw [mor_drop hlt] at hm
    generalize b[i] = x at *
    have hk : (d % 256) ^^^ x < 256 := xor_lt8 (by omega) hxb
    have hgt : t[(d % 256) ^^^ x]? = some (t.getD ((d % 256) ^^^ x) 0) := by rw [List.getD_eq_getElem?_getD, List.getElem?_eq_getElem (by omega)]; rfl
    have htl : t.getD ((d % 256) ^^^ x) 0 < 4294967296 := getD_lt ht2 (by omega)
    have hnx : nxt t d x = t.getD ((d % 256) ^^^ x) 0 ^^^ (d / 256) := rfl
    have e1 : ((d : Int) % 256).toNat = d % 256 := by omega
    have e2 : ((d : Int) / 256).toNat = d / 256 := by omega
    have hnl : nxt t d x < 4294967296 := nxt_lt ht2 d x hd
    generalize t.getD ((d % 256) ^^^ x) 0 = y at *
    first | refine pwp_sr ?_ | refine pwp_regionM ?_
    intro K hK
    simp (disch := first | (refine Ok.mk ?_; (try simp only [Lm, La, Lc, Ln, Lt, Ld, Lr, Li, true_or, or_true, true_and, and_true]); omega) | (simp <;> fail) | skip) [runM_nil]
    refine hK _ _ ?_
    clear hK K
    refine pwp_seq (pwp_cT (by simp) (pwp_skip ?_))
    refine pwp_seq (pwp_block ?_)
    first | refine pwp_sr ?_ | refine pwp_regionM ?_
    intro K hK
    simp (disch := first | (refine Ok.mk ?_; (try simp only [Lm, La, Lc, Ln, Lt, Ld, Lr, Li, true_or, or_true, true_and, and_true]); omega) | (simp <;> fail) | skip) [runM_nil, hgx]
    refine hK _ _ ?_
    clear hK K
    have hkt : (d % 256) ^^^ x < t.length := by omega
    first | refine pwp_sr ?_ | refine pwp_regionM ?_
    intro K hK
    simp (disch := first | (refine Ok.mk ?_; (try simp only [Lm, La, Lc, Ln, Lt, Ld, Lr, Li, true_or, or_true, true_and, and_true]); omega) | (simp <;> fail) | skip) [runM_nil, wm_u8, e1, e2, hgt, ht, hk]
    refine hK _ _ ?_
    clear hK K
    first | refine pwp_sr ?_ | refine pwp_regionM ?_
    intro K hK
    simp (disch := first | (refine Ok.mk ?_; (try simp only [Lm, La, Lc, Ln, Lt, Ld, Lr, Li, true_or, or_true, true_and, and_true]); omega) | (simp <;> fail) | skip) [runM_nil]
    refine hK _ _ ?_
    clear hK K
    exact ⟨b.length - (i + 1), by omega, _, .refl _, i + 1, nxt t d x, by omega, rfl, hnl, hm, rfl, by simp [keepL_MS, keepA, getS, hnx]⟩
  · obtain rfl : i = b.length := by omega
    rw [List.drop_length] at hm
    first | refine pwp_sr ?_ | refine pwp_regionM ?_
    intro K hK
    simp (disch := first | (refine Ok.mk ?_; (try simp only [Lm, La, Lc, Ln, Lt, Ld, Lr, Li, true_or, or_true, true_and, and_true]); omega) | (simp <;> fail) | skip) [runM_nil]
    refine hK _ _ ?_
    clear hK K
    refine pwp_seq (pwp_cF (by simp) (pwp_exit ?_))
    first | refine pwp_sr ?_ | refine pwp_regionM ?_
    intro K hK
    simp (disch := first | (refine Ok.mk ?_; (try simp only [Lm, La, Lc, Ln, Lt, Ld, Lr, Li, true_or, or_true, true_and, and_true]); omega) | (simp <;> fail) | skip) [runM_nil]
    refine hK _ _ ?_
    clear hK K
    rw [← hm]
    refine pwp_ret ⟨.inr rfl, _, _, (by simp (disch := first | (refine Ok.mk ?_; (try simp only [Lm, La, Lc, Ln, Lt, Ld, Lr, Li, true_or, or_true, true_and, and_true]); omega) | (simp <;> fail) | skip) [runM_nil, resL, mor]; rfl), .refl _, by simp (disch := first | (refine Ok.mk ?_; (try simp only [Lm, La, Lc, Ln, Lt, Ld, Lr, Li, true_or, or_true, true_and, and_true]); omega) | (simp <;> fail) | skip) [resV, mor], rfl⟩
end Go.Proofs.Ytmpomnnaoggdkaa.E
/- Sums over bytes: sealed, and opened; the document's. -/
namespace Go.Proofs.Ytmpomnnaoggdkaa.E
open Go Go.RowKit Go.Proofs
set_option linter.unusedVariables false
set_option linter.unusedSimpArgs false
theorem sum_ok {t : List Nat} (ht : t.length = 256) (ht2 : ∀ x ∈ t, x < 4294967296) {ot o : Bool} {s : Nat} {xs : List PV} {b : List Nat} (hx : xs = b.map u8) (hs : s = 1 ∨ b.length = 0) (hw : ∀ x ∈ b, x < 256) (hl : b.length ≤ 100000000000000) :
    PSpec Try.prog 32 [.lst 1 (t.map u32) ot, .lst s xs o] (.tup [.int .u32 (csum t b : Nat), .int .i64 0]) := by
  intro H
  have c := more_ok ht ht2 (ot := false) (o := false) hx hs hw hl 4294967295 (by omega)
  have hml := mor_lt ht2 b 4294967295 (by omega)
  have hcs : csum t b = mor t 4294967295 b ^^^ 4294967295 := rfl
  have hcc := Nat.xor_comm (mor t 4294967295 b) 4294967295
  generalize mor t 4294967295 b = m at *
  refine spec_of t32 (by simp [p32]) ?_
  simp only [p32]
  first | refine pwp_sr ?_ | refine pwp_regionM ?_
  intro K hK
  simp (disch := first | (refine Ok.mk ?_; (try simp only [Lm, La, Lc, Ln, Lt, Ld, Lr, Li, true_or, or_true, true_and, and_true]); omega) | (simp <;> fail) | skip) [runM_nil]
  refine hK _ _ ?_
  clear hK K
  first | refine pwp_sr ?_ | refine pwp_regionM ?_
  intro K hK
  simp (disch := first | (refine Ok.mk ?_; (try simp only [Lm, La, Lc, Ln, Lt, Ld, Lr, Li, true_or, or_true, true_and, and_true]); omega) | (simp <;> fail) | skip) [runM_nil]
  refine useP (c) ?_
  simp (disch := first | (refine Ok.mk ?_; (try simp only [Lm, La, Lc, Ln, Lt, Ld, Lr, Li, true_or, or_true, true_and, and_true]); omega) | (simp <;> fail) | skip) [runM_nil]
  refine hK _ _ ?_
  clear hK K
  first | refine pwp_rif ?_ | refine pwp_rifE ?_
  intro K hK
  simp (disch := first | (refine Ok.mk ?_; (try simp only [Lm, La, Lc, Ln, Lt, Ld, Lr, Li, true_or, or_true, true_and, and_true]); omega) | (simp <;> fail) | skip) [runM_nil]
  refine hK _ _ ?_
  clear hK K
  refine ifF (by simp (disch := first | (refine Ok.mk ?_; (try simp only [Lm, La, Lc, Ln, Lt, Ld, Lr, Li, true_or, or_true, true_and, and_true]); omega) | (simp <;> fail) | skip) [runM_nil]) (pwp_skip ?_)
  have hmax : IntKind.u32.max = 4294967295 := rfl
  first | refine pwp_sr ?_ | refine pwp_regionM ?_
  intro K hK
  simp (disch := first | (refine Ok.mk ?_; (try simp only [Lm, La, Lc, Ln, Lt, Ld, Lr, Li, true_or, or_true, true_and, and_true]); omega) | (simp <;> fail) | skip) [runM_nil, hmax, IntKind.signed]
  refine hK _ _ ?_
  clear hK K
  rw [hcs, hcc]
  refine pwp_ret ⟨.inr rfl, _, _, (by simp (disch := first | (refine Ok.mk ?_; (try simp only [Lm, La, Lc, Ln, Lt, Ld, Lr, Li, true_or, or_true, true_and, and_true]); omega) | (simp <;> fail) | skip) [runM_nil, resL]; rfl), .refl _, by simp (disch := first | (refine Ok.mk ?_; (try simp only [Lm, La, Lc, Ln, Lt, Ld, Lr, Li, true_or, or_true, true_and, and_true]); omega) | (simp <;> fail) | skip) [resV], rfl⟩
theorem tail_ok (c : Nat) (hc : c < 4294967296) : PSpec Try.prog 33 [.int .u32 c] (bV (four c) true) := by
  intro H
  refine spec_of t33 (by simp [p33]) ?_
  simp only [p33]
  first | refine pwp_sr ?_ | refine pwp_regionM ?_
  intro K hK
  simp (disch := first | (refine Ok.mk ?_; (try simp only [Lm, La, Lc, Ln, Lt, Ld, Lr, Li, true_or, or_true, true_and, and_true]); omega) | (simp <;> fail) | skip) [runM_nil]
  refine hK _ _ ?_
  clear hK K
  have e : ((c : Int) / 16777216) % 256 = (c : Int) / 16777216 := by omega
  first | refine pwp_sr ?_ | refine pwp_regionM ?_
  intro K hK
  simp (disch := first | (refine Ok.mk ?_; (try simp only [Lm, La, Lc, Ln, Lt, Ld, Lr, Li, true_or, or_true, true_and, and_true]); omega) | (simp <;> fail) | skip) [runM_nil, wm_u8]
  refine hK _ _ ?_
  clear hK K
  refine pwp_ret ⟨.inr rfl, _, _, (by simp (disch := first | (refine Ok.mk ?_; (try simp only [Lm, La, Lc, Ln, Lt, Ld, Lr, Li, true_or, or_true, true_and, and_true]); omega) | (simp <;> fail) | skip) [runM_nil, resL, four, e]; rfl), .refl _, by simp (disch := first | (refine Ok.mk ?_; (try simp only [Lm, La, Lc, Ln, Lt, Ld, Lr, Li, true_or, or_true, true_and, and_true]); omega) | (simp <;> fail) | skip) [resV, four, e], rfl⟩
theorem equal_ok {s1 s2 : Nat} {xs ys : List PV} {o1 o2 : Bool} {a b : List Nat} (hx : xs = a.map u8) (hy : ys = b.map u8) (hs1 : s1 = 1 ∨ a.length = 0) (hs2 : s2 = 1 ∨ b.length = 0) (ha : ∀ x ∈ a, x < 256) (hb : ∀ x ∈ b, x < 256) :
    PSpec Try.prog 40 [.lst s1 xs o1, .lst s2 ys o2] (.bool (decide (a = b))) := by
  intro H
  have c1 := cvS_u8 (o := false) hx hs1 ha
  have c2 := cvS_u8 (o := false) hy hs2 hb
  refine spec_of t40 (by simp [p40]) ?_
  simp only [p40]
  first | refine pwp_sr ?_ | refine pwp_regionM ?_
  intro K hK
  simp (disch := first | (refine Ok.mk ?_; (try simp only [Lm, La, Lc, Ln, Lt, Ld, Lr, Li, true_or, or_true, true_and, and_true]); omega) | (simp <;> fail) | skip) [runM_nil]
  refine hK _ _ ?_
  clear hK K
  first | refine pwp_sr ?_ | refine pwp_regionM ?_
  intro K hK
  simp (disch := first | (refine Ok.mk ?_; (try simp only [Lm, La, Lc, Ln, Lt, Ld, Lr, Li, true_or, or_true, true_and, and_true]); omega) | (simp <;> fail) | skip) [runM_nil, c1, c2]
  refine hK _ _ ?_
  clear hK K
  refine pwp_ret ⟨.inr rfl, _, _, (by simp (disch := first | (refine Ok.mk ?_; (try simp only [Lm, La, Lc, Ln, Lt, Ld, Lr, Li, true_or, or_true, true_and, and_true]); omega) | (simp <;> fail) | skip) [runM_nil, resL]; rfl), .refl _, by simp (disch := first | (refine Ok.mk ?_; (try simp only [Lm, La, Lc, Ln, Lt, Ld, Lr, Li, true_or, or_true, true_and, and_true]); omega) | (simp <;> fail) | skip) [resV], rfl⟩
theorem seal_ok {t : List Nat} (ht : t.length = 256) (ht2 : ∀ x ∈ t, x < 4294967296) {ot o : Bool} {s : Nat} {xs : List PV} {b : List Nat} (hx : xs = b.map u8) (hs : s = 1 ∨ b.length = 0) (hw : ∀ x ∈ b, x < 256) (hl : b.length ≤ 90000000000000) :
    PSpec Try.prog 20 [.lst 1 (t.map u32) ot, .lst s xs o] (.tup [bV (sealed t b) true, .int .i64 0]) := by
  subst hx
  intro H
  have c := sum_ok ht ht2 (ot := false) (o := false) (xs := b.map u8) rfl hs hw (by omega)
  have hml := csum_lt ht2 b
  have c2 := tail_ok (csum t b) hml
  have c3 := concat_ok (es := [.lst s (b.map u8) false, .lst 1 ((four (csum t b)).map u8) false]) (o := false) [(s, b), (1, four (csum t b))] rfl (by
    intro p hp
    rcases List.mem_cons.1 hp with rfl | hp
    · exact hs
    · rcases List.mem_cons.1 hp with rfl | hp
      · exact .inl rfl
      · cases hp) (by simp) (by simp [four_length]; omega)
  have e : List.flatMap (fun x : Nat × List Nat => x.2) [(s, b), (1, four (csum t b))] = sealed t b := by simp [sealed]
  rw [e] at c3
  generalize sealed t b = z at *
  generalize four (csum t b) = f4 at *
  generalize csum t b = m at *
  refine spec_of t20 (by simp [p20]) ?_
  simp only [p20]
  first | refine pwp_sr ?_ | refine pwp_regionM ?_
  intro K hK
  simp (disch := first | (refine Ok.mk ?_; (try simp only [Lm, La, Lc, Ln, Lt, Ld, Lr, Li, true_or, or_true, true_and, and_true]); omega) | (simp <;> fail) | skip) [runM_nil]
  refine hK _ _ ?_
  clear hK K
  first | refine pwp_sr ?_ | refine pwp_regionM ?_
  intro K hK
  simp (disch := first | (refine Ok.mk ?_; (try simp only [Lm, La, Lc, Ln, Lt, Ld, Lr, Li, true_or, or_true, true_and, and_true]); omega) | (simp <;> fail) | skip) [runM_nil]
  refine useP (c) ?_
  simp (disch := first | (refine Ok.mk ?_; (try simp only [Lm, La, Lc, Ln, Lt, Ld, Lr, Li, true_or, or_true, true_and, and_true]); omega) | (simp <;> fail) | skip) [runM_nil]
  refine hK _ _ ?_
  clear hK K
  first | refine pwp_rif ?_ | refine pwp_rifE ?_
  intro K hK
  simp (disch := first | (refine Ok.mk ?_; (try simp only [Lm, La, Lc, Ln, Lt, Ld, Lr, Li, true_or, or_true, true_and, and_true]); omega) | (simp <;> fail) | skip) [runM_nil]
  refine hK _ _ ?_
  clear hK K
  refine ifF (by simp (disch := first | (refine Ok.mk ?_; (try simp only [Lm, La, Lc, Ln, Lt, Ld, Lr, Li, true_or, or_true, true_and, and_true]); omega) | (simp <;> fail) | skip) [runM_nil]) (pwp_skip ?_)
  first | refine pwp_sr ?_ | refine pwp_regionM ?_
  intro K hK
  simp (disch := first | (refine Ok.mk ?_; (try simp only [Lm, La, Lc, Ln, Lt, Ld, Lr, Li, true_or, or_true, true_and, and_true]); omega) | (simp <;> fail) | skip) [runM_nil]
  refine useP (c2) ?_
  simp (disch := first | (refine Ok.mk ?_; (try simp only [Lm, La, Lc, Ln, Lt, Ld, Lr, Li, true_or, or_true, true_and, and_true]); omega) | (simp <;> fail) | skip) [runM_nil]
  refine useP (c3) ?_
  simp (disch := first | (refine Ok.mk ?_; (try simp only [Lm, La, Lc, Ln, Lt, Ld, Lr, Li, true_or, or_true, true_and, and_true]); omega) | (simp <;> fail) | skip) [runM_nil]
  refine hK _ _ ?_
  clear hK K
  refine pwp_ret ⟨.inr rfl, _, _, (by simp (disch := first | (refine Ok.mk ?_; (try simp only [Lm, La, Lc, Ln, Lt, Ld, Lr, Li, true_or, or_true, true_and, and_true]); omega) | (simp <;> fail) | skip) [runM_nil, resL]; rfl), .refl _, by simp (disch := first | (refine Ok.mk ?_; (try simp only [Lm, La, Lc, Ln, Lt, Ld, Lr, Li, true_or, or_true, true_and, and_true]); omega) | (simp <;> fail) | skip) [resV], rfl⟩
theorem opened_cases (t s : List Nat) : (s.length < 4 ∧ opened t s = ([], 2)) ∨ (4 ≤ s.length ∧ four (csum t (s.take (s.length - 4))) = s.drop (s.length - 4) ∧ opened t s = (s.take (s.length - 4), 0)) ∨
    (4 ≤ s.length ∧ ¬ four (csum t (s.take (s.length - 4))) = s.drop (s.length - 4) ∧ opened t s = ([], 4)) := by
  unfold opened
  by_cases h : s.length < 4
  · rw [if_pos h]; exact .inl ⟨h, rfl⟩
  · rw [if_neg h]
    by_cases h2 : four (csum t (s.take (s.length - 4))) = s.drop (s.length - 4)
    · rw [if_pos h2]; exact .inr (.inl ⟨by omega, h2, rfl⟩)
    · rw [if_neg h2]; exact .inr (.inr ⟨by omega, h2, rfl⟩)
set_option maxRecDepth 4000 in
theorem open_ok {t : List Nat} (ht : t.length = 256) (ht2 : ∀ x ∈ t, x < 4294967296) {ot o : Bool} {s : Nat} {xs : List PV} {b : List Nat} (hx : xs = b.map u8) (hs : s = 1 ∨ b.length = 0) (hw : ∀ x ∈ b, x < 256) (hl : b.length ≤ 100000000000000) :
    PSpec Try.prog 28 [.lst 1 (t.map u32) ot, .lst s xs o] (.tup [bV (opened t b).1 true, .int .i64 ((opened t b).2 : Nat)]) := by
  subst hx
  intro H
  have hoc := opened_cases t b
  refine spec_ofU t28 (by simp [p28]) ?_
  simp only [p28]
  first | refine pwp_sr ?_ | refine pwp_regionM ?_
  intro K hK
  simp (disch := first | (refine Ok.mk ?_; (try simp only [Lm, La, Lc, Ln, Lt, Ld, Lr, Li, true_or, or_true, true_and, and_true]); omega) | (simp <;> fail) | skip) [runM_nil]
  refine hK _ _ ?_
  clear hK K
  first | refine pwp_sr ?_ | refine pwp_regionM ?_
  intro K hK
  simp (disch := first | (refine Ok.mk ?_; (try simp only [Lm, La, Lc, Ln, Lt, Ld, Lr, Li, true_or, or_true, true_and, and_true]); omega) | (simp <;> fail) | skip) [runM_nil]
  refine hK _ _ ?_
  clear hK K
  refine pwp_seq (pwp_block ?_)
  first | refine pwp_sr ?_ | refine pwp_regionM ?_
  intro K hK
  simp (disch := first | (refine Ok.mk ?_; (try simp only [Lm, La, Lc, Ln, Lt, Ld, Lr, Li, true_or, or_true, true_and, and_true]); omega) | (simp <;> fail) | skip) [runM_nil, ht]
  refine hK _ _ ?_
  clear hK K
  refine pwp_cF (by simp) ?_
  rcases hoc with ⟨h4, e⟩ | ⟨h4, h5, e⟩ | ⟨h4, h5, e⟩
  · first | refine pwp_sr ?_ | refine pwp_regionM ?_
    intro K hK
    simp (disch := first | (refine Ok.mk ?_; (try simp only [Lm, La, Lc, Ln, Lt, Ld, Lr, Li, true_or, or_true, true_and, and_true]); omega) | (simp <;> fail) | skip) [runM_nil]
    refine hK _ _ ?_
    clear hK K
    refine pwp_cT (by simp) ?_
    first | refine pwp_sr ?_ | refine pwp_regionM ?_
    intro K hK
    simp (disch := first | (refine Ok.mk ?_; (try simp only [Lm, La, Lc, Ln, Lt, Ld, Lr, Li, true_or, or_true, true_and, and_true]); omega) | (simp <;> fail) | skip) [runM_nil]
    refine hK _ _ ?_
    clear hK K
    rw [e]
    refine pwp_ret ⟨.inr rfl, _, _, _, (by simp (disch := first | (refine Ok.mk ?_; (try simp only [Lm, La, Lc, Ln, Lt, Ld, Lr, Li, true_or, or_true, true_and, and_true]); omega) | (simp <;> fail) | skip) [runM_nil, resL]; rfl), .refl _, (by simp (disch := first | (refine Ok.mk ?_; (try simp only [Lm, La, Lc, Ln, Lt, Ld, Lr, Li, true_or, or_true, true_and, and_true]); omega) | (simp <;> fail) | skip) [resV]), rfl, rfl⟩
  · rw [e]
    first | refine pwp_sr ?_ | refine pwp_regionM ?_
    intro K hK
    simp (disch := first | (refine Ok.mk ?_; (try simp only [Lm, La, Lc, Ln, Lt, Ld, Lr, Li, true_or, or_true, true_and, and_true]); omega) | (simp <;> fail) | skip) [runM_nil]
    refine hK _ _ ?_
    clear hK K
    refine pwp_cF (by simp) (pwp_skip ?_)
    have hml := csum_lt ht2 (b.take (b.length - 4))
    have e1 : ((b.length : Int) - 4).toNat = b.length - 4 := by omega
    have hsT : s = 1 := by omega
    subst hsT
    first | refine pwp_sr ?_ | refine pwp_regionM ?_
    intro K hK
    simp (disch := first | (refine Ok.mk ?_; (try simp only [Lm, La, Lc, Ln, Lt, Ld, Lr, Li, true_or, or_true, true_and, and_true]); omega) | (simp <;> fail) | skip) [runM_nil, e1]
    refine useP (sum_ok ht ht2 (b := b.take (b.length - 4)) (by simp) (.inl rfl) (fun x hx => hw x (List.mem_of_mem_take hx)) (by rw [Lt]; omega)) ?_
    simp (disch := first | (refine Ok.mk ?_; (try simp only [Lm, La, Lc, Ln, Lt, Ld, Lr, Li, true_or, or_true, true_and, and_true]); omega) | (simp <;> fail) | skip) [runM_nil, e1]
    refine hK _ _ ?_
    clear hK K
    first | refine pwp_dif hmix ?_ | refine pwp_difE hmix ?_
    intro K hK
    simp (disch := first | (refine Ok.mk ?_; (try simp only [Lm, La, Lc, Ln, Lt, Ld, Lr, Li, true_or, or_true, true_and, and_true]); omega) | (simp <;> fail) | skip) [runM_nil, e1]
    refine useD (tail_ok _ hml) ?_
    simp (disch := first | (refine Ok.mk ?_; (try simp only [Lm, La, Lc, Ln, Lt, Ld, Lr, Li, true_or, or_true, true_and, and_true]); omega) | (simp <;> fail) | skip) [runM_nil, e1]
    refine useD (equal_ok (a := four (csum t (b.take (b.length - 4)))) (b := b.drop (b.length - 4)) rfl (by simp) (.inl rfl) (.inl rfl) (four_lt _) (fun x hx => hw x (List.mem_of_mem_drop hx))) ?_
    simp (disch := first | (refine Ok.mk ?_; (try simp only [Lm, La, Lc, Ln, Lt, Ld, Lr, Li, true_or, or_true, true_and, and_true]); omega) | (simp <;> fail) | skip) [runM_nil, e1]
    refine hK _ _ ?_
    clear hK K
    refine ifF (by simp (disch := first | (refine Ok.mk ?_; (try simp only [Lm, La, Lc, Ln, Lt, Ld, Lr, Li, true_or, or_true, true_and, and_true]); omega) | (simp <;> fail) | skip) [runM_nil, h5]) (pwp_skip ?_)
    first | refine pwp_sr ?_ | refine pwp_regionM ?_
    intro K hK
    simp (disch := first | (refine Ok.mk ?_; (try simp only [Lm, La, Lc, Ln, Lt, Ld, Lr, Li, true_or, or_true, true_and, and_true]); omega) | (simp <;> fail) | skip) [runM_nil, e1]
    refine useP (clone_ok (l := b.take (b.length - 4)) (by simp) (.inl rfl) (by rw [Lt]; omega)) ?_
    simp (disch := first | (refine Ok.mk ?_; (try simp only [Lm, La, Lc, Ln, Lt, Ld, Lr, Li, true_or, or_true, true_and, and_true]); omega) | (simp <;> fail) | skip) [runM_nil, e1]
    refine hK _ _ ?_
    clear hK K
    refine pwp_ret ⟨.inr rfl, _, _, _, (by simp (disch := first | (refine Ok.mk ?_; (try simp only [Lm, La, Lc, Ln, Lt, Ld, Lr, Li, true_or, or_true, true_and, and_true]); omega) | (simp <;> fail) | skip) [runM_nil, resL]; rfl), .refl _, (by simp (disch := first | (refine Ok.mk ?_; (try simp only [Lm, La, Lc, Ln, Lt, Ld, Lr, Li, true_or, or_true, true_and, and_true]); omega) | (simp <;> fail) | skip) [resV]), rfl, rfl⟩
  · rw [e]
    first | refine pwp_sr ?_ | refine pwp_regionM ?_
    intro K hK
    simp (disch := first | (refine Ok.mk ?_; (try simp only [Lm, La, Lc, Ln, Lt, Ld, Lr, Li, true_or, or_true, true_and, and_true]); omega) | (simp <;> fail) | skip) [runM_nil]
    refine hK _ _ ?_
    clear hK K
    refine pwp_cF (by simp) (pwp_skip ?_)
    have hml := csum_lt ht2 (b.take (b.length - 4))
    have e1 : ((b.length : Int) - 4).toNat = b.length - 4 := by omega
    have hsT : s = 1 := by omega
    subst hsT
    first | refine pwp_sr ?_ | refine pwp_regionM ?_
    intro K hK
    simp (disch := first | (refine Ok.mk ?_; (try simp only [Lm, La, Lc, Ln, Lt, Ld, Lr, Li, true_or, or_true, true_and, and_true]); omega) | (simp <;> fail) | skip) [runM_nil, e1]
    refine useP (sum_ok ht ht2 (b := b.take (b.length - 4)) (by simp) (.inl rfl) (fun x hx => hw x (List.mem_of_mem_take hx)) (by rw [Lt]; omega)) ?_
    simp (disch := first | (refine Ok.mk ?_; (try simp only [Lm, La, Lc, Ln, Lt, Ld, Lr, Li, true_or, or_true, true_and, and_true]); omega) | (simp <;> fail) | skip) [runM_nil, e1]
    refine hK _ _ ?_
    clear hK K
    first | refine pwp_dif hmix ?_ | refine pwp_difE hmix ?_
    intro K hK
    simp (disch := first | (refine Ok.mk ?_; (try simp only [Lm, La, Lc, Ln, Lt, Ld, Lr, Li, true_or, or_true, true_and, and_true]); omega) | (simp <;> fail) | skip) [runM_nil, e1]
    refine useD (tail_ok _ hml) ?_
    simp (disch := first | (refine Ok.mk ?_; (try simp only [Lm, La, Lc, Ln, Lt, Ld, Lr, Li, true_or, or_true, true_and, and_true]); omega) | (simp <;> fail) | skip) [runM_nil, e1]
    refine useD (equal_ok (a := four (csum t (b.take (b.length - 4)))) (b := b.drop (b.length - 4)) rfl (by simp) (.inl rfl) (.inl rfl) (four_lt _) (fun x hx => hw x (List.mem_of_mem_drop hx))) ?_
    simp (disch := first | (refine Ok.mk ?_; (try simp only [Lm, La, Lc, Ln, Lt, Ld, Lr, Li, true_or, or_true, true_and, and_true]); omega) | (simp <;> fail) | skip) [runM_nil, e1]
    refine hK _ _ ?_
    clear hK K
    refine ifT (by simp (disch := first | (refine Ok.mk ?_; (try simp only [Lm, La, Lc, Ln, Lt, Ld, Lr, Li, true_or, or_true, true_and, and_true]); omega) | (simp <;> fail) | skip) [runM_nil, h5]) ?_
    first | refine pwp_sr ?_ | refine pwp_regionM ?_
    intro K hK
    simp (disch := first | (refine Ok.mk ?_; (try simp only [Lm, La, Lc, Ln, Lt, Ld, Lr, Li, true_or, or_true, true_and, and_true]); omega) | (simp <;> fail) | skip) [runM_nil]
    refine hK _ _ ?_
    clear hK K
    refine pwp_ret ⟨.inr rfl, _, _, _, (by simp (disch := first | (refine Ok.mk ?_; (try simp only [Lm, La, Lc, Ln, Lt, Ld, Lr, Li, true_or, or_true, true_and, and_true]); omega) | (simp <;> fail) | skip) [runM_nil, resL]; rfl), .refl _, (by simp (disch := first | (refine Ok.mk ?_; (try simp only [Lm, La, Lc, Ln, Lt, Ld, Lr, Li, true_or, or_true, true_and, and_true]); omega) | (simp <;> fail) | skip) [resV]), rfl, rfl⟩
end Go.Proofs.Ytmpomnnaoggdkaa.E
/- The same texts, the same records. -/
namespace Go.Proofs.Ytmpomnnaoggdkaa.E
open Go Go.RowKit Go.Proofs
set_option linter.unusedVariables false
set_option linter.unusedSimpArgs false
theorem mixS : Try.prog.follows .mixedOrders = true := by kernel_rfl
def sV (t : List Nat) : PV := .str (ci t)
def rowsC (l : List (List (List Nat))) : List PV := l.map fun r => .lst 1 (r.map sV) false
theorem strsSame_ok {r : List (List Nat)} (hl : r.length ≤ 1000000) {o q : Bool} : PSpec Try.prog 29 [.lst 1 (r.map sV) o, .lst 1 (r.map sV) q] (.bool true) := by
  intro H
  have hmix := mixS
  refine spec_of t29 (by simp [p29]) ?_
  simp only [p29]
  first | refine pwp_sr ?_ | refine pwp_regionM ?_
  intro K hK
  simp (disch := first | (refine Ok.mk ?_; (try simp only [Lm, La, Lc, Ln, Lt, Ld, Lr, Li, true_or, or_true, true_and, and_true]); omega) | (simp <;> fail) | skip) [runM_nil]
  refine hK _ _ ?_
  clear hK K
  refine pwp_seq ?_
  first | refine pwp_sr ?_ | refine pwp_regionM ?_
  intro K hK
  simp (disch := first | (refine Ok.mk ?_; (try simp only [Lm, La, Lc, Ln, Lt, Ld, Lr, Li, true_or, or_true, true_and, and_true]); omega) | (simp <;> fail) | skip) [runM_nil]
  refine hK _ _ ?_
  clear hK K
  refine pwp_cF (by simp) (pwp_skip ?_)
  refine pwp_seq (pwp_seq ?_)
  first | refine pwp_sr ?_ | refine pwp_regionM ?_
  intro K hK
  simp (disch := first | (refine Ok.mk ?_; (try simp only [Lm, La, Lc, Ln, Lt, Ld, Lr, Li, true_or, or_true, true_and, and_true]); omega) | (simp <;> fail) | skip) [runM_nil]
  refine hK _ _ ?_
  clear hK K
  refine pwp_block ?_
  refine pwp_loopK [0, 1, 5] (fun m st H' => ∃ i, i ≤ r.length ∧ m = r.length - i ∧ H' = H ∧ st = MS 26 [(0, .lst 1 (r.map sV) o), (1, .lst 1 (r.map sV) q), (5, .int .i64 i)]) (n := r.length)
    ⟨_, .refl _, 0, Nat.zero_le _, rfl, rfl, by simp [keepL_MS, keepA, getS]⟩ ?_
  rintro m st H1 ⟨i, hi, rfl, rfl, rfl⟩
  by_cases hlt : i < r.length
  · have g1 : r[i]? = some r[i] := List.getElem?_eq_getElem hlt
    generalize r[i] = e at *
    refine pwp_seq ?_
    first | refine pwp_sr ?_ | refine pwp_regionM ?_
    intro K hK
    simp (disch := first | (refine Ok.mk ?_; (try simp only [Lm, La, Lc, Ln, Lt, Ld, Lr, Li, true_or, or_true, true_and, and_true]); omega) | (simp <;> fail) | skip) [runM_nil]
    refine hK _ _ ?_
    clear hK K
    refine pwp_cT (by simp) (pwp_skip ?_)
    refine pwp_seq (pwp_block ?_)
    first | refine pwp_sd hmix ?_ | refine pwp_drawM hmix ?_
    intro K hK
    simp (disch := first | (refine Ok.mk ?_; (try simp only [Lm, La, Lc, Ln, Lt, Ld, Lr, Li, true_or, or_true, true_and, and_true]); omega) | (simp <;> fail) | skip) [runM_nil, g1, sV, strP]
    refine hK _ _ ?_
    clear hK K
    refine pwp_cF (by simp) (pwp_skip ?_)
    first | refine pwp_sr ?_ | refine pwp_regionM ?_
    intro K hK
    simp (disch := first | (refine Ok.mk ?_; (try simp only [Lm, La, Lc, Ln, Lt, Ld, Lr, Li, true_or, or_true, true_and, and_true]); omega) | (simp <;> fail) | skip) [runM_nil]
    refine hK _ _ ?_
    clear hK K
    exact ⟨r.length - (i + 1), by omega, _, .refl _, i + 1, by omega, rfl, rfl, by simp [keepL_MS, keepA, getS]⟩
  · obtain rfl : i = r.length := by omega
    refine pwp_seq ?_
    first | refine pwp_sr ?_ | refine pwp_regionM ?_
    intro K hK
    simp (disch := first | (refine Ok.mk ?_; (try simp only [Lm, La, Lc, Ln, Lt, Ld, Lr, Li, true_or, or_true, true_and, and_true]); omega) | (simp <;> fail) | skip) [runM_nil]
    refine hK _ _ ?_
    clear hK K
    refine pwp_cF (by simp) (pwp_exit ?_)
    first | refine pwp_sr ?_ | refine pwp_regionM ?_
    intro K hK
    simp (disch := first | (refine Ok.mk ?_; (try simp only [Lm, La, Lc, Ln, Lt, Ld, Lr, Li, true_or, or_true, true_and, and_true]); omega) | (simp <;> fail) | skip) [runM_nil]
    refine hK _ _ ?_
    clear hK K
    refine pwp_ret ⟨.inr rfl, _, _, (by simp (disch := first | (refine Ok.mk ?_; (try simp only [Lm, La, Lc, Ln, Lt, Ld, Lr, Li, true_or, or_true, true_and, and_true]); omega) | (simp <;> fail) | skip) [runM_nil, resL]; rfl), .refl _, by simp (disch := first | (refine Ok.mk ?_; (try simp only [Lm, La, Lc, Ln, Lt, Ld, Lr, Li, true_or, or_true, true_and, and_true]); omega) | (simp <;> fail) | skip) [resV], rfl⟩
theorem recsSame_ok {l : List (List (List Nat))} (hl : l.length ≤ 1000000) (hr : ∀ r ∈ l, r.length ≤ 1000000) {o q : Bool} : PSpec Try.prog 13 [.lst 1 (rowsC l) o, .lst 1 (rowsC l) q] (.bool true) := by
  intro H
  have hmix := mixS
  have hrl : (rowsC l).length = l.length := by simp [rowsC]
  have hge : ∀ i (h : i < l.length), (rowsC l)[i]? = some (.lst 1 (l[i].map sV) false) := fun i h => by rw [rowsC, List.getElem?_map, List.getElem?_eq_getElem h]; rfl
  refine spec_of t13 (by simp [p13]) ?_
  simp only [p13]
  generalize rowsC l = es at *
  first | refine pwp_sr ?_ | refine pwp_regionM ?_
  intro K hK
  simp (disch := first | (refine Ok.mk ?_; (try simp only [Lm, La, Lc, Ln, Lt, Ld, Lr, Li, true_or, or_true, true_and, and_true]); omega) | (simp <;> fail) | skip) [runM_nil]
  refine hK _ _ ?_
  clear hK K
  refine pwp_seq ?_
  first | refine pwp_sr ?_ | refine pwp_regionM ?_
  intro K hK
  simp (disch := first | (refine Ok.mk ?_; (try simp only [Lm, La, Lc, Ln, Lt, Ld, Lr, Li, true_or, or_true, true_and, and_true]); omega) | (simp <;> fail) | skip) [runM_nil, hrl]
  refine hK _ _ ?_
  clear hK K
  refine pwp_cF (by simp) (pwp_skip ?_)
  refine pwp_seq (pwp_seq ?_)
  first | refine pwp_sr ?_ | refine pwp_regionM ?_
  intro K hK
  simp (disch := first | (refine Ok.mk ?_; (try simp only [Lm, La, Lc, Ln, Lt, Ld, Lr, Li, true_or, or_true, true_and, and_true]); omega) | (simp <;> fail) | skip) [runM_nil]
  refine hK _ _ ?_
  clear hK K
  refine pwp_block ?_
  refine pwp_loopK [0, 1, 5] (fun m st H' => ∃ i, i ≤ l.length ∧ m = l.length - i ∧ H' = H ∧ st = MS 27 [(0, .lst 1 es o), (1, .lst 1 es q), (5, .int .i64 i)]) (n := l.length)
    ⟨_, .refl _, 0, Nat.zero_le _, rfl, rfl, by simp [keepL_MS, keepA, getS]⟩ ?_
  rintro m st H1 ⟨i, hi, rfl, rfl, rfl⟩
  by_cases hlt : i < l.length
  · have g1 := hge i hlt
    have c := strsSame_ok (hr _ (List.getElem_mem hlt)) (o := false) (q := false)
    generalize l[i] = e at *
    refine pwp_seq ?_
    first | refine pwp_sr ?_ | refine pwp_regionM ?_
    intro K hK
    simp (disch := first | (refine Ok.mk ?_; (try simp only [Lm, La, Lc, Ln, Lt, Ld, Lr, Li, true_or, or_true, true_and, and_true]); omega) | (simp <;> fail) | skip) [runM_nil, hrl]
    refine hK _ _ ?_
    clear hK K
    refine pwp_cT (by simp) (pwp_skip ?_)
    refine pwp_seq (pwp_block ?_)
    first | refine pwp_sd hmix ?_ | refine pwp_drawM hmix ?_
    intro K hK
    simp (disch := first | (refine Ok.mk ?_; (try simp only [Lm, La, Lc, Ln, Lt, Ld, Lr, Li, true_or, or_true, true_and, and_true]); omega) | (simp <;> fail) | skip) [runM_nil, g1, hrl]
    refine useD (c) ?_
    simp (disch := first | (refine Ok.mk ?_; (try simp only [Lm, La, Lc, Ln, Lt, Ld, Lr, Li, true_or, or_true, true_and, and_true]); omega) | (simp <;> fail) | skip) [runM_nil, g1, hrl]
    refine hK _ _ ?_
    clear hK K
    refine pwp_cF (by simp) (pwp_skip ?_)
    first | refine pwp_sr ?_ | refine pwp_regionM ?_
    intro K hK
    simp (disch := first | (refine Ok.mk ?_; (try simp only [Lm, La, Lc, Ln, Lt, Ld, Lr, Li, true_or, or_true, true_and, and_true]); omega) | (simp <;> fail) | skip) [runM_nil]
    refine hK _ _ ?_
    clear hK K
    exact ⟨l.length - (i + 1), by omega, _, .refl _, i + 1, by omega, rfl, rfl, by simp [keepL_MS, keepA, getS]⟩
  · obtain rfl : i = l.length := by omega
    refine pwp_seq ?_
    first | refine pwp_sr ?_ | refine pwp_regionM ?_
    intro K hK
    simp (disch := first | (refine Ok.mk ?_; (try simp only [Lm, La, Lc, Ln, Lt, Ld, Lr, Li, true_or, or_true, true_and, and_true]); omega) | (simp <;> fail) | skip) [runM_nil, hrl]
    refine hK _ _ ?_
    clear hK K
    refine pwp_cF (by simp) (pwp_exit ?_)
    first | refine pwp_sr ?_ | refine pwp_regionM ?_
    intro K hK
    simp (disch := first | (refine Ok.mk ?_; (try simp only [Lm, La, Lc, Ln, Lt, Ld, Lr, Li, true_or, or_true, true_and, and_true]); omega) | (simp <;> fail) | skip) [runM_nil]
    refine hK _ _ ?_
    clear hK K
    refine pwp_ret ⟨.inr rfl, _, _, (by simp (disch := first | (refine Ok.mk ?_; (try simp only [Lm, La, Lc, Ln, Lt, Ld, Lr, Li, true_or, or_true, true_and, and_true]); omega) | (simp <;> fail) | skip) [runM_nil, resL]; rfl), .refl _, by simp (disch := first | (refine Ok.mk ?_; (try simp only [Lm, La, Lc, Ln, Lt, Ld, Lr, Li, true_or, or_true, true_and, and_true]); omega) | (simp <;> fail) | skip) [resV], rfl⟩
end Go.Proofs.Ytmpomnnaoggdkaa.E
