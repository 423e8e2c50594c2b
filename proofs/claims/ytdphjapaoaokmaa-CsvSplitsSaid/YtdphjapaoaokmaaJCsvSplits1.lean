/- Part 1 of the proof of CsvSplits: what the program's functions come to. -/
import Derived.Test.YtdphjapaoaokmaaL3
import Derived.Test.YtdphjapaoaokmaaProg
/- Varints and sums over bytes, in plain terms: no program in sight. -/
namespace Go.Proofs.Ytdphjapaoaokmaa.E
open Go Go.RowKit
set_option linter.unusedVariables false
set_option linter.unusedSimpArgs false
theorem xor_lt8 {a b : Nat} (ha : a < 256) (hb : b < 256) : a ^^^ b < 256 := Nat.xor_lt_two_pow (n := 8) ha hb
theorem xor_lt32 {a b : Nat} (ha : a < 4294967296) (hb : b < 4294967296) : a ^^^ b < 4294967296 := Nat.xor_lt_two_pow (n := 32) ha hb
theorem ci_length (l : List Nat) : (ci l).length = l.length := List.length_map _
theorem ci_append (a b : List Nat) : ci (a ++ b) = ci a ++ ci b := List.map_append
theorem ci_nil : ci [] = [] := rfl
theorem ci_cons (a : Nat) (l : List Nat) : ci (a :: l) = (a : Int) :: ci l := rfl
theorem ci_take (l : List Nat) (n : Nat) : (ci l).take n = ci (l.take n) := by simp [ci, List.map_take]
theorem ci_drop (l : List Nat) (n : Nat) : (ci l).drop n = ci (l.drop n) := by simp [ci, List.map_drop]
theorem ci_set (l : List Nat) (n x : Nat) : (ci l).set n (x : Int) = ci (l.set n x) := by simp [ci, List.map_set]
theorem ci_inj {a b : List Nat} (h : ci a = ci b) : a = b := by
  have := congrArg (List.map Int.toNat) h
  simpa [ci, List.map_map, Function.comp_def] using this
theorem to_ci {l : List Int} {b : Nat} (h : ∀ x ∈ l, 0 ≤ x ∧ x < (b : Int)) : ∃ m : List Nat, l = ci m ∧ ∀ x ∈ m, x < b := by
  refine ⟨l.map Int.toNat, ?_, ?_⟩
  · simp only [ci, List.map_map]
    conv => lhs; rw [← List.map_id l]
    refine List.map_congr_left (fun x hx => ?_)
    have := h x hx
    simp
    omega
  · intro x hx
    obtain ⟨y, hy, rfl⟩ := List.mem_map.1 hx
    have := h y hy
    omega
theorem getD_lt {l : List Nat} {b i : Nat} (h : ∀ x ∈ l, x < b) (hb : 0 < b) : l.getD i 0 < b := by
  rw [List.getD_eq_getElem?_getD]
  cases hg : l[i]? with
  | none => exact hb
  | some x => exact h x (List.mem_of_getElem? hg)
def vb (n : Nat) : List Nat := if n < 128 then [n] else (n % 128 + 128) :: vb (n / 128)
termination_by n
decreasing_by omega
theorem vb_small {n : Nat} (h : n < 128) : vb n = [n] := by rw [vb, if_pos h]
theorem vb_big {n : Nat} (h : ¬ n < 128) : vb n = (n % 128 + 128) :: vb (n / 128) := by rw [vb, if_neg h]
theorem vb_lt (n : Nat) : ∀ x ∈ vb n, x < 256 := by
  induction n using Nat.strongRecOn with
  | ind n ih =>
    intro x hx
    by_cases h : n < 128
    · rw [vb_small h, List.mem_singleton] at hx; omega
    · rw [vb_big h, List.mem_cons] at hx
      rcases hx with rfl | hx
      · omega
      · exact ih (n / 128) (by omega) x hx
theorem vb_length_pos (n : Nat) : 1 ≤ (vb n).length := by
  by_cases h : n < 128
  · rw [vb_small h]; simp
  · rw [vb_big h]; simp
theorem vb_len_le : ∀ (s n : Nat), 1 ≤ s → n < 128 ^ s → (vb n).length ≤ s
  | 0, n, h, _ => absurd h (by omega)
  | s + 1, n, _, h => by
    by_cases h1 : n < 128
    · rw [vb_small h1]; simp
    · rw [vb_big h1, List.length_cons]
      have hs : 1 ≤ s := by
        rcases Nat.eq_zero_or_pos s with rfl | hs
        · exact absurd (by simpa using h) h1
        · exact hs
      have := vb_len_le s (n / 128) hs (by rw [Nat.pow_succ] at h; exact Nat.div_lt_of_lt_mul (by rw [Nat.mul_comm]; exact h))
      omega
theorem vb_len_ge : ∀ (s n : Nat), 128 ^ s ≤ n → s + 1 ≤ (vb n).length
  | 0, n, _ => vb_length_pos n
  | s + 1, n, h => by
    have hp : 1 ≤ 128 ^ s := Nat.pow_pos (by omega)
    have h1 : ¬ n < 128 := by rw [Nat.pow_succ] at h; omega
    rw [vb_big h1, List.length_cons]
    have := vb_len_ge s (n / 128) (by rw [Nat.pow_succ] at h; exact (Nat.le_div_iff_mul_le (by omega)).2 h)
    omega
theorem vb_length_le10 {n : Nat} (h : n < 18446744073709551616) : (vb n).length ≤ 10 := vb_len_le 10 n (by omega) (Nat.lt_of_lt_of_le h (by decide))
theorem vb_length_mono {n m : Nat} (h : (vb n).length < (vb m).length) : n < m := by
  rcases Nat.lt_or_ge n m with h1 | h1
  · exact h1
  exfalso
  have : ∀ (a b : Nat), b ≤ a → (vb b).length ≤ (vb a).length := by
    intro a
    induction a using Nat.strongRecOn with
    | ind a ih =>
      intro b hb
      by_cases hb1 : b < 128
      · rw [vb_small hb1]; exact vb_length_pos a
      · rw [vb_big hb1, vb_big (show ¬ a < 128 by omega), List.length_cons, List.length_cons]
        exact Nat.succ_le_succ (ih (a / 128) (by omega) (b / 128) (by omega))
  have := this n m h1
  omega
def num : List Nat → Nat
  | [] => 0
  | x :: s => x % 128 + 128 * num s
theorem num_snoc : ∀ (p : List Nat) (x : Nat), num (p ++ [x]) = num p + x % 128 * 128 ^ p.length
  | [], x => by simp [num]
  | y :: p, x => by
    rw [List.cons_append, num, num, num_snoc p x, List.length_cons, Nat.pow_succ, Nat.mul_add, ← Nat.add_assoc, Nat.mul_left_comm, Nat.mul_comm 128 (128 ^ p.length)]
theorem num_lt : ∀ p : List Nat, num p < 128 ^ p.length
  | [] => by simp [num]
  | y :: p => by
    have := num_lt p
    rw [num, List.length_cons, Nat.pow_succ]
    omega
theorem num_vb (n : Nat) : num (vb n) = n := by
  induction n using Nat.strongRecOn with
  | ind n ih =>
    by_cases h : n < 128
    · rw [vb_small h, num, num]; omega
    · rw [vb_big h, num, ih (n / 128) (by omega)]; omega
theorem vb_num : ∀ (q : List Nat) (x : Nat), (∀ y ∈ q, 128 ≤ y ∧ y < 256) → x < 128 → (q = [] ∨ x ≠ 0) → vb (num (q ++ [x])) = q ++ [x]
  | [], x, _, hx, _ => by
    rw [List.nil_append, num, num, show x % 128 + 128 * 0 = x by omega, vb_small hx]
  | y :: q, x, hq, hx, h => by
    have h0 : x ≠ 0 := h.resolve_left (by simp)
    have hy := hq y (List.mem_cons_self ..)
    have hp : 1 ≤ 128 ^ q.length := Nat.pow_pos (by omega)
    have h1 : 1 ≤ num (q ++ [x]) := by
      rw [num_snoc, Nat.mod_eq_of_lt hx]
      have : 1 * 1 ≤ x * 128 ^ q.length := Nat.mul_le_mul (by omega) hp
      omega
    rw [List.cons_append, num, vb_big (by omega)]
    rw [show (y % 128 + 128 * num (q ++ [x])) % 128 + 128 = y by omega, show (y % 128 + 128 * num (q ++ [x])) / 128 = num (q ++ [x]) by omega]
    rw [vb_num q x (fun z hz => hq z (List.mem_cons_of_mem _ hz)) hx (Or.inr h0)]
def lead : List Nat → Nat
  | [] => 0
  | x :: s => if 128 ≤ x then lead s + 1 else 0
theorem lead_le : ∀ s : List Nat, lead s ≤ s.length
  | [] => Nat.le_refl _
  | x :: s => by
    rw [lead]
    split
    · simpa using lead_le s
    · simp
theorem lead_hi : ∀ (s : List Nat) (j : Nat), j < lead s → 128 ≤ s.getD j 0
  | [], j, h => absurd h (by simp [lead])
  | x :: s, 0, h => by
    rw [lead] at h
    split at h
    · assumption
    · omega
  | x :: s, j + 1, h => by
    rw [lead] at h
    split at h
    · simpa using lead_hi s j (by omega)
    · omega
theorem lead_lo : ∀ s : List Nat, lead s < s.length → s.getD (lead s) 0 < 128
  | [], h => absurd h (by simp)
  | x :: s, h => by
    by_cases hx : 128 ≤ x
    · rw [lead, if_pos hx] at h ⊢
      simpa using lead_lo s (by simpa using h)
    · rw [lead, if_neg hx]
      simpa using Nat.lt_of_not_le hx
theorem lead_vb : ∀ (s n : Nat) (r : List Nat), (vb n).length = s → lead (vb n ++ r) + 1 = (vb n).length
  | 0, n, r, h => by have := vb_length_pos n; omega
  | s + 1, n, r, h => by
    by_cases h1 : n < 128
    · rw [vb_small h1]; simp only [List.cons_append, lead, if_neg (show ¬ 128 ≤ n by omega), List.length_cons, List.length_nil]
    · rw [vb_big h1, List.length_cons] at h ⊢
      rw [List.cons_append, lead, if_pos (by omega), lead_vb s (n / 128) r (by omega)]
def vbad (s : List Nat) (i : Nat) : Prop := (s.getD i 0 = 0 ∧ 0 < i) ∨ (i = 9 ∧ 1 < s.getD i 0)
instance (s : List Nat) (i : Nat) : Decidable (vbad s i) := by unfold vbad; infer_instance
def vtake (s : List Nat) : Nat × List Nat × Nat :=
  if 10 ≤ lead s then (0, [], 3) else if lead s = s.length then (0, [], 2) else if vbad s (lead s) then (0, [], 3)
  else (num (s.take (lead s + 1)), s.drop (lead s + 1), 0)
theorem take_snoc {s : List Nat} {i : Nat} (h : i < s.length) : s.take (i + 1) = s.take i ++ [s.getD i 0] := by
  rw [List.take_succ_eq_append_getElem h, List.getD_eq_getElem?_getD, List.getElem?_eq_getElem h]; rfl
theorem take_hi {s : List Nat} {i : Nat} (hs : ∀ x ∈ s, x < 256) (hi : i ≤ lead s) : ∀ y ∈ s.take i, 128 ≤ y ∧ y < 256 := by
  intro y hy
  refine ⟨?_, hs y (List.mem_of_mem_take hy)⟩
  obtain ⟨j, hj, rfl⟩ := List.mem_iff_getElem.1 hy
  rw [List.length_take] at hj
  have := lead_hi s j (by omega)
  rw [List.getD_eq_getElem?_getD, List.getElem?_eq_getElem (by omega)] at this
  rw [List.getElem_take]
  exact this
theorem canon {s : List Nat} (hs : ∀ x ∈ s, x < 256) (h10 : lead s < 10) (hl : lead s < s.length) (hb : ¬ vbad s (lead s)) :
    num (s.take (lead s + 1)) < 18446744073709551616 ∧ vb (num (s.take (lead s + 1))) = s.take (lead s + 1) := by
  have hx := lead_lo s hl
  have hn := num_lt (s.take (lead s))
  rw [List.length_take, Nat.min_eq_left (by omega)] at hn
  unfold vbad at hb
  refine ⟨?_, ?_⟩
  · rw [take_snoc hl, num_snoc, List.length_take, Nat.min_eq_left (by omega), Nat.mod_eq_of_lt hx]
    rcases Nat.lt_or_ge (lead s) 9 with h9 | h9
    · have h3 : (128 : Nat) ^ (lead s) ≤ 128 ^ 8 := Nat.pow_le_pow_right (by omega) (by omega)
      have h4 : s.getD (lead s) 0 * 128 ^ (lead s) ≤ 127 * 128 ^ 8 := Nat.mul_le_mul (by omega) h3
      omega
    · have h9' : lead s = 9 := by omega
      have h5 : s.getD (lead s) 0 ≤ 1 := by omega
      have h4 : s.getD (lead s) 0 * 128 ^ (lead s) ≤ 1 * 128 ^ 9 := Nat.mul_le_mul h5 (by rw [h9']; exact Nat.le_refl _)
      rw [h9'] at hn h4 ⊢
      omega
  · rw [take_snoc hl]
    refine vb_num _ _ (take_hi hs (Nat.le_refl _)) hx ?_
    by_cases h0 : lead s = 0
    · left; rw [h0]; rfl
    · right; omega
theorem not_canon {s : List Nat} (h10 : lead s < 10) (hl : lead s < s.length) (hb : vbad s (lead s)) :
    vb (num (s.take (lead s + 1)) % 18446744073709551616) ≠ s.take (lead s + 1) := by
  intro h
  have hx := lead_lo s hl
  have e := congrArg num h
  rw [num_vb] at e
  have hlen := congrArg List.length h
  rw [List.length_take, Nat.min_eq_left (by omega)] at hlen
  rcases hb with ⟨h0, hi⟩ | ⟨h9, h1⟩
  · have h2 : num (s.take (lead s + 1)) < 128 ^ lead s := by
      rw [take_snoc hl, h0, num_snoc]
      have := num_lt (s.take (lead s))
      rw [List.length_take, Nat.min_eq_left (by omega)] at this
      simpa using this
    rw [← e] at h2
    have := vb_len_le (lead s) _ hi h2
    omega
  · have h2 : 2 * 128 ^ 9 ≤ num (s.take (lead s + 1)) := by
      rw [take_snoc hl, num_snoc, List.length_take, Nat.min_eq_left (by omega), Nat.mod_eq_of_lt hx, h9]
      have : 2 * 128 ^ 9 ≤ s.getD 9 0 * 128 ^ 9 := Nat.mul_le_mul (by rw [h9] at h1; omega) (Nat.le_refl _)
      omega
    have h3 : num (s.take (lead s + 1)) % 18446744073709551616 < 18446744073709551616 := Nat.mod_lt _ (by omega)
    omega
theorem vtake_vb {n : Nat} (h : n < 18446744073709551616) (r : List Nat) : vtake (vb n ++ r) = (n, r, 0) := by
  have hl := lead_vb _ n r rfl
  have h10 := vb_length_le10 h
  have hp := vb_length_pos n
  have e1 : (vb n ++ r).take (lead (vb n ++ r) + 1) = vb n := by rw [hl, List.take_left]
  have hlt : lead (vb n ++ r) < (vb n ++ r).length := by rw [List.length_append]; omega
  unfold vtake
  rw [if_neg (by omega), if_neg (by omega), if_neg, hl, List.take_left, List.drop_left, num_vb]
  intro hb
  refine not_canon (by omega) hlt hb ?_
  rw [e1, num_vb, Nat.mod_eq_of_lt h]
theorem vtake_ok {s : List Nat} (hs : ∀ x ∈ s, x < 256) (h : (vtake s).2.2 = 0) : (vtake s).1 < 18446744073709551616 ∧ vb (vtake s).1 ++ (vtake s).2.1 = s := by
  unfold vtake at h ⊢
  by_cases h1 : 10 ≤ lead s
  · rw [if_pos h1] at h; exact absurd h (by simp)
  rw [if_neg h1] at h ⊢
  by_cases h2 : lead s = s.length
  · rw [if_pos h2] at h; exact absurd h (by simp)
  rw [if_neg h2] at h ⊢
  by_cases h3 : vbad s (lead s)
  · rw [if_pos h3] at h; exact absurd h (by simp)
  rw [if_neg h3]
  obtain ⟨c1, c2⟩ := canon hs (by omega) (Nat.lt_of_le_of_ne (lead_le s) h2) h3
  refine ⟨c1, ?_⟩
  rw [c2, List.take_append_drop]
theorem vtake_rest {s : List Nat} : (vtake s).2.1.length ≤ s.length ∧ ∀ x ∈ (vtake s).2.1, x ∈ s := by
  unfold vtake
  split
  · simp
  split
  · simp
  split
  · simp
  · refine ⟨by simp, fun x hx => List.mem_of_mem_drop hx⟩
theorem vtake_lt {s : List Nat} (hs : ∀ x ∈ s, x < 256) : (vtake s).1 < 18446744073709551616 := by
  unfold vtake
  split
  · simp
  split
  · simp
  split
  · simp
  · have := lead_le s
    exact (canon hs (by omega) (by omega) (by assumption)).1
def isLen (n l : Nat) : Prop := n < 2 ^ l ∧ (l = 0 ∨ 2 ^ (l - 1) ≤ n)
instance (n l : Nat) : Decidable (isLen n l) := by unfold isLen; infer_instance
theorem isLen_up {n l m : Nat} (hn : 2 ^ m ≤ n) (h : isLen (n / 2 ^ m) l) : isLen n (l + m) := by
  obtain ⟨h1, h2⟩ := h
  have hp : 0 < 2 ^ m := Nat.two_pow_pos m
  have hq : 1 ≤ n / 2 ^ m := (Nat.le_div_iff_mul_le hp).2 (by omega)
  have hl : l ≠ 0 := by
    intro h0
    rw [h0] at h1
    omega
  refine ⟨?_, Or.inr ?_⟩
  · rw [Nat.pow_add]; exact (Nat.div_lt_iff_lt_mul hp).1 h1
  · have h3 := h2.resolve_left hl
    rw [show l + m - 1 = (l - 1) + m by omega, Nat.pow_add]
    exact (Nat.le_div_iff_mul_le hp).1 h3
theorem isLen_vb {n l : Nat} (h : isLen n l) : ((vb n).length : Int) = if 1 < (l + 6) / 7 then (((l + 6) / 7 : Nat) : Int) else 1 := by
  obtain ⟨h1, h2⟩ := h
  have hle : n < 128 ^ ((l + 6) / 7) := by
    rw [show (128 : Nat) = 2 ^ 7 from rfl, ← Nat.pow_mul]
    exact Nat.lt_of_lt_of_le h1 (Nat.pow_le_pow_right (by omega) (by omega))
  split
  · next hs =>
    have hge : 128 ^ ((l + 6) / 7 - 1) ≤ n := by
      rw [show (128 : Nat) = 2 ^ 7 from rfl, ← Nat.pow_mul]
      exact Nat.le_trans (Nat.pow_le_pow_right (by omega) (by omega)) (h2.resolve_left (by omega))
    have a := vb_len_le _ n (by omega) hle
    have b := vb_len_ge _ n hge
    omega
  · next hs =>
    have h128 : n < 128 := by
      refine Nat.lt_of_lt_of_le hle ?_
      exact Nat.le_trans (Nat.pow_le_pow_right (by omega) (show (l + 6) / 7 ≤ 1 by omega)) (by simp)
    rw [vb_small h128]; rfl
def stp (c : Nat) : Nat := if c % 2 = 1 then (c / 2) ^^^ 3988292384 else c / 2
def ent (i : Nat) : Nat := stp (stp (stp (stp (stp (stp (stp (stp i)))))))
def tbl : List Nat := (List.range 256).map ent
def mor (t : List Nat) : Nat → List Nat → Nat
  | c, [] => c
  | c, x :: b => mor t (t.getD ((c % 256) ^^^ x) 0 ^^^ (c / 256)) b
def csum (t b : List Nat) : Nat := mor t 4294967295 b ^^^ 4294967295
theorem tbl_length : tbl.length = 256 := by simp [tbl]
theorem tbl_lt : ∀ x ∈ tbl, x < 4294967296 := by decide +kernel
theorem nxt_lt {t : List Nat} (ht : ∀ x ∈ t, x < 4294967296) (c x : Nat) (hc : c < 4294967296) : t.getD ((c % 256) ^^^ x) 0 ^^^ (c / 256) < 4294967296 :=
  xor_lt32 (getD_lt ht (by omega)) (by omega)
theorem mor_lt {t : List Nat} (ht : ∀ x ∈ t, x < 4294967296) : ∀ (b : List Nat) (c : Nat), c < 4294967296 → mor t c b < 4294967296
  | [], c, hc => hc
  | x :: b, c, hc => mor_lt ht b _ (nxt_lt ht c x hc)
theorem mor_append (t : List Nat) : ∀ (a b : List Nat) (c : Nat), mor t c (a ++ b) = mor t (mor t c a) b
  | [], b, c => rfl
  | x :: a, b, c => mor_append t a b _
theorem csum_lt {t : List Nat} (ht : ∀ x ∈ t, x < 4294967296) (b : List Nat) : csum t b < 4294967296 := xor_lt32 (mor_lt ht b _ (by omega)) (by omega)
theorem tbl_at {j : Nat} (h : j < 256) : tbl.getD j 0 = ent j := by
  simp only [tbl, List.getD_eq_getElem?_getD, List.getElem?_map, List.getElem?_range h, Option.map_some, Option.getD_some]
theorem xor_mod256 {c x : Nat} (hx : x < 256) : (c ^^^ x) % 256 = (c % 256) ^^^ x := by
  have := Nat.xor_mod_two_pow (a := c) (b := x) (n := 8)
  rw [show (2 : Nat) ^ 8 = 256 from rfl, Nat.mod_eq_of_lt hx] at this
  exact this
def four (c : Nat) : List Nat := [c % 256, c / 256 % 256, c / 65536 % 256, c / 16777216 % 256]
theorem four_lt (c : Nat) : ∀ x ∈ four c, x < 256 := by
  intro x hx
  simp only [four, List.mem_cons, List.not_mem_nil, or_false] at hx
  omega
theorem four_length (c : Nat) : (four c).length = 4 := rfl
def sealed (t b : List Nat) : List Nat := b ++ four (csum t b)
theorem sealed_length (t b : List Nat) : (sealed t b).length = b.length + 4 := by simp [sealed, four_length]
theorem sealed_lt (t : List Nat) {b : List Nat} (hb : ∀ x ∈ b, x < 256) : ∀ x ∈ sealed t b, x < 256 := by
  intro x hx
  rcases List.mem_append.1 hx with h | h
  · exact hb x h
  · exact four_lt _ x h
def opened (t s : List Nat) : List Nat × Nat := if s.length < 4 then ([], 2) else if four (csum t (s.take (s.length - 4))) = s.drop (s.length - 4) then (s.take (s.length - 4), 0) else ([], 4)
theorem open_sealed (t b : List Nat) : opened t (sealed t b) = (b, 0) := by
  unfold opened
  rw [sealed_length, if_neg (by omega), show b.length + 4 - 4 = b.length by omega]
  unfold sealed
  rw [List.take_left, List.drop_left, if_pos rfl]
/-- The lengths of bytes in bits. -/
def lenL : List Int := [0, 1, 2, 2, 3, 3, 3, 3, 4, 4, 4, 4, 4, 4, 4, 4, 5, 5, 5, 5, 5, 5, 5, 5, 5, 5, 5, 5, 5, 5, 5, 5, 6, 6, 6, 6, 6, 6, 6, 6, 6, 6, 6, 6, 6, 6, 6, 6, 6, 6, 6, 6, 6, 6, 6, 6, 6, 6, 6, 6, 6, 6, 6, 6, 7, 7, 7, 7, 7, 7, 7, 7, 7, 7, 7, 7, 7, 7, 7, 7, 7, 7, 7, 7, 7, 7, 7, 7, 7, 7, 7, 7, 7, 7, 7, 7, 7, 7, 7, 7, 7, 7, 7, 7, 7, 7, 7, 7, 7, 7, 7, 7, 7, 7, 7, 7, 7, 7, 7, 7, 7, 7, 7, 7, 7, 7, 7, 7, 8, 8, 8, 8, 8, 8, 8, 8, 8, 8, 8, 8, 8, 8, 8, 8, 8, 8, 8, 8, 8, 8, 8, 8, 8, 8, 8, 8, 8, 8, 8, 8, 8, 8, 8, 8, 8, 8, 8, 8, 8, 8, 8, 8, 8, 8, 8, 8, 8, 8, 8, 8, 8, 8, 8, 8, 8, 8, 8, 8, 8, 8, 8, 8, 8, 8, 8, 8, 8, 8, 8, 8, 8, 8, 8, 8, 8, 8, 8, 8, 8, 8, 8, 8, 8, 8, 8, 8, 8, 8, 8, 8, 8, 8, 8, 8, 8, 8, 8, 8, 8, 8, 8, 8, 8, 8, 8, 8, 8, 8, 8, 8, 8, 8, 8, 8, 8, 8, 8, 8, 8, 8, 8, 8, 8, 8, 8, 8]
theorem lenL_at : ∀ v ∈ List.range 256, ∃ l ∈ List.range 9, lenL[v]? = some (l : Int) ∧ isLen v l := by decide +kernel
def bl (n : Nat) : Nat := if n = 0 then 0 else bl (n / 2) + 1
termination_by n
decreasing_by omega
theorem isLen_bl (n : Nat) : isLen n (bl n) := by
  induction n using Nat.strongRecOn with
  | ind n ih =>
    by_cases h : n = 0
    · rw [bl, if_pos h, h]; exact ⟨by decide, .inl rfl⟩
    · rw [bl, if_neg h]
      by_cases h1 : n = 1
      · subst h1
        have e : bl (1 / 2) = 0 := by rw [bl]; rfl
        rw [e]; exact ⟨by decide, .inr (by decide)⟩
      · exact isLen_up (m := 1) (by omega) (by simpa using ih (n / 2) (by omega))
theorem isLen_unique {n a b : Nat} (ha : isLen n a) (hb : isLen n b) : a = b := by
  obtain ⟨a1, a2⟩ := ha
  obtain ⟨b1, b2⟩ := hb
  rcases Nat.lt_trichotomy a b with h | h | h
  · have h1 : 2 ^ a ≤ 2 ^ (b - 1) := Nat.pow_le_pow_right (by omega) (by omega)
    have := b2.resolve_left (by omega)
    omega
  · exact h
  · have h1 : 2 ^ b ≤ 2 ^ (a - 1) := Nat.pow_le_pow_right (by omega) (by omega)
    have := a2.resolve_left (by omega)
    omega
def u8 (n : Nat) : PV := .int .u8 n
def u32 (n : Nat) : PV := .int .u32 n
attribute [simp] u8 u32
/-- Bytes. -/
@[simp] abbrev bV (l : List Nat) (o : Bool) : PV := .lst 1 (l.map u8) o
end Go.Proofs.Ytdphjapaoaokmaa.E
/- The functions of this claim as operations on plain values. -/
namespace Go.Proofs.Ytdphjapaoaokmaa.E
open Go Go.RowKit Go.Proofs
set_option linter.unusedVariables false
set_option maxRecDepth 100000
def p2 : PFn :=
  ⟨1, [], .region [
     ⟨some 0, none, .callF 1 [] []⟩]⟩
theorem t2 : compF Try.prog {} 2 = some p2 := by kernel_rfl
def p3 : PFn :=
  ⟨70, [.t 6], .seq
    (.region [
      ⟨some 6, none, .mv true (.c (.bool false))⟩])
    (.seq
     (.seq
      (.region [
        ⟨some 16, none, .mv false (.t 0)⟩,
        ⟨some 17, none, .len false (.t 16)⟩,
        ⟨some 18, none, .bin .gtr (.t 17) (.c (.int .i64 3000))⟩])
      (.cond (.t 18)
       (.seq
        (.region [
          ⟨some 19, none, .callF 5 [] []⟩,
          ⟨some 6, none, .mv true (.t 19)⟩])
        .ret)
       .skip))
     (.seq
      (.region [
        ⟨some 21, none, .mv false (.t 0)⟩,
        ⟨some 22, none, .callF 6 [.t 21] []⟩,
        ⟨some 20, none, .mv true (.t 22)⟩,
        ⟨some 23, none, .ext true (.t 20) 0⟩,
        ⟨some 24, none, .ext false (.t 20) 1⟩,
        ⟨some 25, none, .ext false (.t 20) 2⟩,
        ⟨some 7, none, .mv true (.t 23)⟩,
        ⟨some 8, none, .mv true (.t 24)⟩,
        ⟨some 9, none, .mv true (.t 25)⟩])
      (.seq
       (.region [
         ⟨some 27, none, .mv false (.t 0)⟩,
         ⟨some 28, none, .mv false (.t 1)⟩,
         ⟨some 29, none, .mv false (.t 2)⟩,
         ⟨some 30, none, .mv false (.t 0)⟩,
         ⟨some 31, none, .mv false (.t 1)⟩,
         ⟨some 32, none, .callF 8 [.t 30, .t 31] []⟩,
         ⟨some 33, none, .mv false (.t 8)⟩,
         ⟨some 34, none, .callF 7 [.t 27, .t 28, .t 29, .t 32, .t 33] []⟩,
         ⟨some 26, none, .mv true (.t 34)⟩,
         ⟨some 35, none, .ext true (.t 26) 0⟩,
         ⟨some 36, none, .ext false (.t 26) 1⟩,
         ⟨some 10, none, .mv true (.t 35)⟩,
         ⟨some 11, none, .mv true (.t 36)⟩])
       (.seq
        (.region [
          ⟨some 38, none, .mv false (.t 0)⟩,
          ⟨some 39, none, .mv false (.t 1)⟩,
          ⟨some 40, none, .mv false (.t 2)⟩,
          ⟨some 41, none, .mv false (.t 8)⟩,
          ⟨some 42, none, .callF 9 [.t 38, .t 39, .t 40, .t 41] []⟩,
          ⟨some 37, none, .mv true (.t 42)⟩,
          ⟨some 43, none, .ext true (.t 37) 0⟩,
          ⟨some 44, none, .ext false (.t 37) 1⟩,
          ⟨some 12, none, .mv true (.t 43)⟩,
          ⟨some 13, none, .mv true (.t 44)⟩])
        (.seq
         (.region [
           ⟨some 46, none, .mv false (.t 0)⟩,
           ⟨some 47, none, .mv false (.t 1)⟩,
           ⟨some 48, none, .mv false (.t 2)⟩,
           ⟨some 49, none, .mv false (.t 0)⟩,
           ⟨some 50, none, .len false (.t 49)⟩,
           ⟨some 51, none, .bin .add (.t 50) (.c (.int .i64 1))⟩,
           ⟨some 52, none, .callF 7 [.t 46, .t 47, .t 48, .c (.bool false), .t 51] []⟩,
           ⟨some 45, none, .mv true (.t 52)⟩,
           ⟨some 53, none, .ext true (.t 45) 0⟩,
           ⟨some 54, none, .ext false (.t 45) 1⟩,
           ⟨some 14, none, .mv true (.t 53)⟩,
           ⟨some 15, none, .mv true (.t 54)⟩])
         (.seq
          (.region [
            ⟨some 55, none, .callF 5 [] []⟩,
            ⟨some 56, none, .mv false (.t 55)⟩,
            ⟨some 57, some (56, true), .mv false (.t 10)⟩,
            ⟨some 58, some (56, true), .mv false (.t 12)⟩,
            ⟨some 59, some (56, true), .callF 10 [.t 57, .t 58] []⟩,
            ⟨some 60, none, .pick (.t 56) (.t 59) (.c (.bool false))⟩,
            ⟨some 61, none, .mv false (.t 60)⟩,
            ⟨some 62, some (61, true), .mv false (.t 11)⟩,
            ⟨some 63, some (61, true), .mv false (.t 13)⟩,
            ⟨some 64, some (61, true), .bin .eql (.t 62) (.t 63)⟩,
            ⟨some 65, none, .pick (.t 61) (.t 64) (.c (.bool false))⟩,
            ⟨some 66, none, .mv false (.t 65)⟩,
            ⟨some 67, some (66, true), .mv false (.t 15)⟩,
            ⟨some 68, some (66, true), .bin .eql (.t 67) (.c (.int .i64 1))⟩,
            ⟨some 69, none, .pick (.t 66) (.t 68) (.c (.bool false))⟩,
            ⟨some 6, none, .mv true (.t 69)⟩])
          .ret))))))⟩
theorem t3 : compF Try.prog {} 3 = some p3 := by kernel_rfl
def p4 : PFn :=
  ⟨98, [.t 4], .seq
    (.region [
      ⟨some 4, none, .mv true (.c (.bool false))⟩])
    (.seq
     (.seq
      (.region [
        ⟨some 14, none, .mv false (.t 0)⟩,
        ⟨some 15, none, .len false (.t 14)⟩,
        ⟨some 16, none, .bin .gtr (.t 15) (.c (.int .i64 3000))⟩,
        ⟨some 17, none, .mv false (.t 16)⟩,
        ⟨some 18, some (17, false), .mv false (.t 1)⟩,
        ⟨some 19, some (17, false), .len false (.t 18)⟩,
        ⟨some 20, some (17, false), .bin .gtr (.t 19) (.c (.int .i64 100))⟩,
        ⟨some 21, none, .pick (.t 17) (.c (.bool true)) (.t 20)⟩])
      (.cond (.t 21)
       (.seq
        (.region [
          ⟨some 22, none, .callF 5 [] []⟩,
          ⟨some 4, none, .mv true (.t 22)⟩])
        .ret)
       .skip))
     (.seq
      (.region [
        ⟨some 24, none, .mv false (.t 0)⟩,
        ⟨some 25, none, .callF 11 [.t 24] []⟩,
        ⟨some 23, none, .mv true (.t 25)⟩,
        ⟨some 26, none, .ext true (.t 23) 0⟩,
        ⟨some 27, none, .ext false (.t 23) 1⟩,
        ⟨some 28, none, .ext false (.t 23) 2⟩,
        ⟨some 5, none, .mv true (.t 26)⟩,
        ⟨some 6, none, .mv true (.t 27)⟩,
        ⟨some 7, none, .mv true (.t 28)⟩])
      (.seq
       (.region [
         ⟨some 29, none, .mv false (.t 0)⟩,
         ⟨some 30, none, .len false (.t 29)⟩,
         ⟨some 31, none, .mv false (.t 1)⟩,
         ⟨some 32, none, .callF 12 [.t 30, .t 31] []⟩,
         ⟨some 8, none, .mv true (.t 32)⟩])
       (.seq
        (.region [
          ⟨some 33, none, .bsl 1 0 false [] [] false⟩,
          ⟨some 9, none, .mv true (.t 33)⟩])
        (.seq
         (.region [
           ⟨some 10, none, .mv true (.c (.bool false))⟩])
         (.seq
          (.seq
           (.region [
             ⟨some 11, none, .mv true (.c (.int .i64 1))⟩])
           (.block 0
            (.loop
             (.seq
              (.seq
               (.region [
                 ⟨some 34, none, .mv false (.t 11)⟩,
                 ⟨some 35, none, .mv false (.t 8)⟩,
                 ⟨some 36, none, .len false (.t 35)⟩,
                 ⟨some 37, none, .bin .lss (.t 34) (.t 36)⟩])
               (.cond (.t 37)
                .skip
                (.exit 0)))
              (.seq
               (.block 1
                (.seq
                 (.draw [
                   ⟨some 41, none, .mv false (.t 0)⟩,
                   ⟨some 42, none, .mv false (.t 8)⟩,
                   ⟨some 43, none, .mv false (.t 11)⟩,
                   ⟨some 44, none, .bin .sub (.t 43) (.c (.int .i64 1))⟩,
                   ⟨some 45, none, .iad 1 (.t 42) (.t 44)⟩,
                   ⟨some 46, none, .ld 1 false false (.t 45)⟩,
                   ⟨some 47, none, .mv false (.t 8)⟩,
                   ⟨some 48, none, .mv false (.t 11)⟩,
                   ⟨some 49, none, .iad 1 (.t 47) (.t 48)⟩,
                   ⟨some 50, none, .ld 1 false false (.t 49)⟩,
                   ⟨some 51, none, .mv false (.t 0)⟩,
                   ⟨some 52, none, .mv false (.t 8)⟩,
                   ⟨some 53, none, .mv false (.t 11)⟩,
                   ⟨some 54, none, .bin .sub (.t 53) (.c (.int .i64 1))⟩,
                   ⟨some 55, none, .iad 1 (.t 52) (.t 54)⟩,
                   ⟨some 56, none, .ld 1 false false (.t 55)⟩,
                   ⟨some 57, none, .callF 13 [.t 51, .t 56] []⟩,
                   ⟨some 58, none, .mv false (.t 6)⟩,
                   ⟨some 59, none, .callF 7 [.t 41, .t 46, .t 50, .t 57, .t 58] []⟩,
                   ⟨some 40, none, .mv true (.t 59)⟩,
                   ⟨some 60, none, .ext true (.t 40) 0⟩,
                   ⟨some 61, none, .ext false (.t 40) 1⟩,
                   ⟨some 12, none, .mv true (.t 60)⟩,
                   ⟨some 13, none, .mv true (.t 61)⟩] [])
                 (.seq
                  (.seq
                   (.region [
                     ⟨some 62, none, .mv false (.t 13)⟩,
                     ⟨some 63, none, .bin .neq (.t 62) (.c (.int .i64 0))⟩,
                     ⟨some 64, none, .mv false (.t 63)⟩,
                     ⟨some 65, some (64, true), .mv false (.t 13)⟩,
                     ⟨some 66, some (64, true), .bin .neq (.t 65) (.c (.int .i64 3))⟩,
                     ⟨some 67, none, .pick (.t 64) (.t 66) (.c (.bool false))⟩])
                   (.cond (.t 67)
                    (.seq
                     (.region [
                       ⟨some 4, none, .mv true (.c (.bool false))⟩])
                     .ret)
                    .skip))
                  (.seq
                   (.region [
                     ⟨some 68, none, .mv false (.t 10)⟩,
                     ⟨some 69, none, .mv false (.t 68)⟩,
                     ⟨some 70, some (69, false), .mv false (.t 13)⟩,
                     ⟨some 71, some (69, false), .bin .neq (.t 70) (.c (.int .i64 0))⟩,
                     ⟨some 72, none, .pick (.t 69) (.c (.bool true)) (.t 71)⟩,
                     ⟨some 10, none, .mv true (.t 72)⟩])
                   (.region [
                     ⟨some 73, none, .mv true (.t 9)⟩,
                     ⟨some 74, none, .mv false (.t 12)⟩,
                     ⟨some 75, none, .app 1 24 (.t 73) (.t 74)⟩,
                     ⟨some 9, none, .mv true (.t 75)⟩])))))
               (.region [
                 ⟨some 38, none, .mv false (.t 11)⟩,
                 ⟨some 39, none, .bin .add (.t 38) (.c (.int .i64 1))⟩,
                 ⟨some 11, none, .mv true (.t 39)⟩]))))))
          (.seq
           (.region [
             ⟨some 76, none, .callF 5 [] []⟩,
             ⟨some 77, none, .mv false (.t 76)⟩,
             ⟨some 78, some (77, true), .mv false (.t 9)⟩,
             ⟨some 79, some (77, true), .mv false (.t 5)⟩,
             ⟨some 80, some (77, true), .callF 14 [.t 79] []⟩,
             ⟨some 81, some (77, true), .callF 10 [.t 78, .t 80] []⟩,
             ⟨some 82, none, .pick (.t 77) (.t 81) (.c (.bool false))⟩,
             ⟨some 83, none, .mv false (.t 82)⟩,
             ⟨some 84, some (83, true), .mv false (.t 10)⟩,
             ⟨some 85, some (83, true), .mv false (.t 7)⟩,
             ⟨some 86, some (83, true), .bin .neq (.t 85) (.c (.int .i64 0))⟩,
             ⟨some 87, some (83, true), .binB false (.t 84) (.t 86)⟩,
             ⟨some 88, none, .pick (.t 83) (.t 87) (.c (.bool false))⟩,
             ⟨some 89, none, .mv false (.t 88)⟩,
             ⟨some 90, some (89, true), .mv false (.t 7)⟩,
             ⟨some 91, some (89, true), .bin .eql (.t 90) (.c (.int .i64 0))⟩,
             ⟨some 92, some (89, true), .mv false (.t 6)⟩,
             ⟨some 93, some (89, true), .mv false (.t 0)⟩,
             ⟨some 94, some (89, true), .len false (.t 93)⟩,
             ⟨some 95, some (89, true), .bin .eql (.t 92) (.t 94)⟩,
             ⟨some 96, some (89, true), .binB false (.t 91) (.t 95)⟩,
             ⟨some 97, none, .pick (.t 89) (.t 96) (.c (.bool false))⟩,
             ⟨some 4, none, .mv true (.t 97)⟩])
           .ret)))))))⟩
theorem t4 : compF Try.prog {} 4 = some p4 := by kernel_rfl
def p5 : PFn :=
  ⟨69, [.t 0], .seq
    (.region [
      ⟨some 0, none, .mv true (.c (.bool false))⟩])
    (.seq
     (.region [
       ⟨some 8, none, .nl 1 9 false [.int .u8 0, .int .u8 0, .int .u8 0, .int .u8 0, .int .u8 0, .int .u8 0, .int .u8 0, .int .u8 0, .int .u8 0] [(0, .c (.int .u8 34)), (1, .c (.int .u8 97)), (2, .c (.int .u8 44)), (3, .c (.int .u8 34)), (4, .c (.int .u8 34)), (5, .c (.int .u8 98)), (6, .c (.int .u8 34)), (7, .c (.int .u8 44)), (8, .c (.int .u8 99))]⟩,
       ⟨some 9, none, .cvM (.t 8)⟩,
       ⟨some 10, none, .callF 11 [.t 9] []⟩,
       ⟨some 7, none, .mv true (.t 10)⟩,
       ⟨some 11, none, .ext true (.t 7) 0⟩,
       ⟨some 12, none, .ext false (.t 7) 1⟩,
       ⟨some 13, none, .ext false (.t 7) 2⟩,
       ⟨some 1, none, .mv true (.t 11)⟩,
       ⟨some 2, none, .mv true (.t 12)⟩,
       ⟨some 3, none, .mv true (.t 13)⟩])
     (.seq
      (.region [
        ⟨some 15, none, .nl 1 5 false [.int .u8 0, .int .u8 0, .int .u8 0, .int .u8 0, .int .u8 0] [(0, .c (.int .u8 97)), (1, .c (.int .u8 10)), (2, .c (.int .u8 98)), (3, .c (.int .u8 34)), (4, .c (.int .u8 10))]⟩,
        ⟨some 16, none, .cvM (.t 15)⟩,
        ⟨some 17, none, .callF 11 [.t 16] []⟩,
        ⟨some 14, none, .mv true (.t 17)⟩,
        ⟨some 18, none, .ext true (.t 14) 0⟩,
        ⟨some 19, none, .ext false (.t 14) 1⟩,
        ⟨some 20, none, .ext false (.t 14) 2⟩,
        ⟨some 4, none, .mv true (.t 18)⟩,
        ⟨some 5, none, .mv true (.t 19)⟩,
        ⟨some 6, none, .mv true (.t 20)⟩])
      (.seq
       (.region [
         ⟨some 21, none, .mv false (.t 1)⟩,
         ⟨some 22, none, .len false (.t 21)⟩,
         ⟨some 23, none, .bin .eql (.t 22) (.c (.int .i64 1))⟩,
         ⟨some 24, none, .mv false (.t 23)⟩,
         ⟨some 25, some (24, true), .mv false (.t 1)⟩,
         ⟨some 26, some (24, true), .iad 2 (.t 25) (.c (.int .i64 0))⟩,
         ⟨some 27, some (24, true), .fad 1 (.t 26)⟩,
         ⟨some 28, some (24, true), .ld 1 false false (.t 27)⟩,
         ⟨some 29, some (24, true), .len false (.t 28)⟩,
         ⟨some 30, some (24, true), .bin .eql (.t 29) (.c (.int .i64 1))⟩,
         ⟨some 31, none, .pick (.t 24) (.t 30) (.c (.bool false))⟩,
         ⟨some 32, none, .mv false (.t 31)⟩,
         ⟨some 33, some (32, true), .mv false (.t 1)⟩,
         ⟨some 34, some (32, true), .iad 2 (.t 33) (.c (.int .i64 0))⟩,
         ⟨some 35, some (32, true), .fad 1 (.t 34)⟩,
         ⟨some 36, some (32, true), .ld 1 false false (.t 35)⟩,
         ⟨some 37, some (32, true), .iad 1 (.t 36) (.c (.int .i64 0))⟩,
         ⟨some 38, some (32, true), .ld 1 false false (.t 37)⟩,
         ⟨some 39, some (32, true), .len false (.t 38)⟩,
         ⟨some 40, some (32, true), .bin .eql (.t 39) (.c (.int .i64 2))⟩,
         ⟨some 41, none, .pick (.t 32) (.t 40) (.c (.bool false))⟩,
         ⟨some 42, none, .mv false (.t 41)⟩,
         ⟨some 43, some (42, true), .mv false (.t 1)⟩,
         ⟨some 44, some (42, true), .iad 2 (.t 43) (.c (.int .i64 0))⟩,
         ⟨some 45, some (42, true), .fad 1 (.t 44)⟩,
         ⟨some 46, some (42, true), .ld 1 false false (.t 45)⟩,
         ⟨some 47, some (42, true), .iad 1 (.t 46) (.c (.int .i64 0))⟩,
         ⟨some 48, some (42, true), .ld 1 false false (.t 47)⟩,
         ⟨some 49, some (42, true), .iad 1 (.t 48) (.c (.int .i64 0))⟩,
         ⟨some 50, some (42, true), .ld 1 false false (.t 49)⟩,
         ⟨some 51, some (42, true), .bin .eql (.t 50) (.c (.str [97, 44, 34, 98]))⟩,
         ⟨some 52, none, .pick (.t 42) (.t 51) (.c (.bool false))⟩,
         ⟨some 53, none, .mv false (.t 52)⟩,
         ⟨some 54, some (53, true), .mv false (.t 2)⟩,
         ⟨some 55, some (53, true), .bin .eql (.t 54) (.c (.int .i64 9))⟩,
         ⟨some 56, none, .pick (.t 53) (.t 55) (.c (.bool false))⟩,
         ⟨some 57, none, .mv false (.t 56)⟩,
         ⟨some 58, some (57, true), .mv false (.t 3)⟩,
         ⟨some 59, some (57, true), .bin .eql (.t 58) (.c (.int .i64 0))⟩,
         ⟨some 60, none, .pick (.t 57) (.t 59) (.c (.bool false))⟩,
         ⟨some 61, none, .mv false (.t 60)⟩,
         ⟨some 62, some (61, true), .mv false (.t 5)⟩,
         ⟨some 63, some (61, true), .bin .eql (.t 62) (.c (.int .i64 2))⟩,
         ⟨some 64, none, .pick (.t 61) (.t 63) (.c (.bool false))⟩,
         ⟨some 65, none, .mv false (.t 64)⟩,
         ⟨some 66, some (65, true), .mv false (.t 6)⟩,
         ⟨some 67, some (65, true), .bin .eql (.t 66) (.c (.int .i64 3))⟩,
         ⟨some 68, none, .pick (.t 65) (.t 67) (.c (.bool false))⟩,
         ⟨some 0, none, .mv true (.t 68)⟩])
       .ret)))⟩
theorem t5 : compF Try.prog {} 5 = some p5 := by kernel_rfl
def p6 : PFn :=
  ⟨37, [.t 2, .t 3, .t 4], .seq
    (.region [
      ⟨some 2, none, .mv true (.c (.lst 0 [] true))⟩,
      ⟨some 3, none, .mv true (.c (.int .i64 0))⟩,
      ⟨some 4, none, .mv true (.c (.int .i64 0))⟩])
    (.seq
     (.region [
       ⟨some 10, none, .bsl 2 0 true [] [] false⟩,
       ⟨some 5, none, .mv true (.t 10)⟩])
     (.seq
      (.region [
        ⟨some 6, none, .mv true (.c (.int .i64 0))⟩])
      (.seq
       (.block 0
        (.loop
         (.seq
          (.seq
           (.region [
             ⟨some 11, none, .mv false (.t 6)⟩,
             ⟨some 12, none, .mv false (.t 0)⟩,
             ⟨some 13, none, .len false (.t 12)⟩,
             ⟨some 14, none, .bin .lss (.t 11) (.t 13)⟩])
           (.cond (.t 14)
            .skip
            (.exit 0)))
          (.block 1
           (.seq
            (.region [
              ⟨some 16, none, .mv false (.t 0)⟩,
              ⟨some 17, none, .mv false (.t 6)⟩,
              ⟨some 18, none, .callF 15 [.t 16, .t 17] []⟩,
              ⟨some 15, none, .mv true (.t 18)⟩,
              ⟨some 19, none, .ext true (.t 15) 0⟩,
              ⟨some 20, none, .ext false (.t 15) 1⟩,
              ⟨some 21, none, .ext false (.t 15) 2⟩,
              ⟨some 7, none, .mv true (.t 19)⟩,
              ⟨some 8, none, .mv true (.t 20)⟩,
              ⟨some 9, none, .mv true (.t 21)⟩])
            (.seq
             (.seq
              (.region [
                ⟨some 22, none, .mv false (.t 9)⟩,
                ⟨some 23, none, .bin .neq (.t 22) (.c (.int .i64 0))⟩])
              (.cond (.t 23)
               (.seq
                (.region [
                  ⟨some 24, none, .mv true (.t 5)⟩,
                  ⟨some 25, none, .mv true (.t 6)⟩,
                  ⟨some 26, none, .mv true (.t 9)⟩,
                  ⟨some 2, none, .mv true (.t 24)⟩,
                  ⟨some 3, none, .mv true (.t 25)⟩,
                  ⟨some 4, none, .mv true (.t 26)⟩])
                .ret)
               .skip))
             (.seq
              (.region [
                ⟨some 27, none, .mv true (.t 5)⟩,
                ⟨some 28, none, .mv false (.t 6)⟩,
                ⟨some 29, none, .mv false (.t 7)⟩,
                ⟨some 30, none, .bsl 1 1 false [.lst 0 [] true] [(0, .t 29)] false⟩,
                ⟨some 31, none, .build [.int .i64 0, .lst 0 [] true] [(0, (1, .t 28)), (1, (1, .t 30))]⟩,
                ⟨some 32, none, .bsl 2 1 true [.int .i64 0, .lst 0 [] true] [(0, .t 31)] false⟩,
                ⟨some 33, none, .app 2 32 (.t 27) (.t 32)⟩,
                ⟨some 5, none, .mv true (.t 33)⟩])
              (.region [
                ⟨some 34, none, .mv true (.t 8)⟩,
                ⟨some 6, none, .mv true (.t 34)⟩]))))))))
       (.seq
        (.region [
          ⟨some 35, none, .mv true (.t 5)⟩,
          ⟨some 36, none, .mv true (.t 6)⟩,
          ⟨some 2, none, .mv true (.t 35)⟩,
          ⟨some 3, none, .mv true (.t 36)⟩,
          ⟨some 4, none, .mv true (.c (.int .i64 0))⟩])
        .ret))))⟩
theorem t6 : compF Try.prog {} 6 = some p6 := by kernel_rfl
def p7 : PFn :=
  ⟨71, [.t 10, .t 11], .seq
    (.region [
      ⟨some 10, none, .mv true (.c (.lst 0 [] true))⟩,
      ⟨some 11, none, .mv true (.c (.int .i64 0))⟩])
    (.seq
     (.seq
      (.region [
        ⟨some 17, none, .mv false (.t 1)⟩,
        ⟨some 18, none, .bin .lss (.t 17) (.c (.int .i64 0))⟩,
        ⟨some 19, none, .mv false (.t 18)⟩,
        ⟨some 20, some (19, false), .mv false (.t 1)⟩,
        ⟨some 21, some (19, false), .mv false (.t 2)⟩,
        ⟨some 22, some (19, false), .bin .gtr (.t 20) (.t 21)⟩,
        ⟨some 23, none, .pick (.t 19) (.c (.bool true)) (.t 22)⟩,
        ⟨some 24, none, .mv false (.t 23)⟩,
        ⟨some 25, some (24, false), .mv false (.t 2)⟩,
        ⟨some 26, some (24, false), .mv false (.t 0)⟩,
        ⟨some 27, some (24, false), .len false (.t 26)⟩,
        ⟨some 28, some (24, false), .bin .gtr (.t 25) (.t 27)⟩,
        ⟨some 29, none, .pick (.t 24) (.c (.bool true)) (.t 28)⟩,
        ⟨some 30, none, .mv false (.t 29)⟩,
        ⟨some 31, some (30, false), .mv false (.t 4)⟩,
        ⟨some 32, some (30, false), .bin .lss (.t 31) (.c (.int .i64 0))⟩,
        ⟨some 33, none, .pick (.t 30) (.c (.bool true)) (.t 32)⟩,
        ⟨some 34, none, .mv false (.t 33)⟩,
        ⟨some 35, some (34, false), .mv false (.t 4)⟩,
        ⟨some 36, some (34, false), .mv false (.t 0)⟩,
        ⟨some 37, some (34, false), .len false (.t 36)⟩,
        ⟨some 38, some (34, false), .bin .gtr (.t 35) (.t 37)⟩,
        ⟨some 39, none, .pick (.t 34) (.c (.bool true)) (.t 38)⟩])
      (.cond (.t 39)
       (.seq
        (.region [
          ⟨some 10, none, .mv true (.c (.lst 0 [] true))⟩,
          ⟨some 11, none, .mv true (.c (.int .i64 1))⟩])
        .ret)
       .skip))
     (.seq
      (.region [
        ⟨some 12, none, .mv true (.c (.lst 0 [] true))⟩])
      (.seq
       (.seq
        (.region [
          ⟨some 40, none, .mv false (.t 0)⟩,
          ⟨some 41, none, .mv false (.t 1)⟩,
          ⟨some 42, none, .mv false (.t 3)⟩,
          ⟨some 43, none, .callF 16 [.t 40, .t 41, .t 42] []⟩,
          ⟨some 13, none, .mv true (.t 43)⟩])
        (.block 0
         (.loop
          (.seq
           (.seq
            (.region [
              ⟨some 44, none, .mv false (.t 13)⟩,
              ⟨some 45, none, .mv false (.t 2)⟩,
              ⟨some 46, none, .bin .lss (.t 44) (.t 45)⟩,
              ⟨some 47, none, .mv false (.t 46)⟩,
              ⟨some 48, some (47, true), .mv false (.t 13)⟩,
              ⟨some 49, some (47, true), .mv false (.t 4)⟩,
              ⟨some 50, some (47, true), .bin .lss (.t 48) (.t 49)⟩,
              ⟨some 51, none, .pick (.t 47) (.t 50) (.c (.bool false))⟩])
            (.cond (.t 51)
             .skip
             (.exit 0)))
           (.block 1
            (.seq
             (.region [
               ⟨some 53, none, .mv false (.t 0)⟩,
               ⟨some 54, none, .mv false (.t 13)⟩,
               ⟨some 55, none, .callF 17 [.t 53, .t 54] []⟩,
               ⟨some 52, none, .mv true (.t 55)⟩,
               ⟨some 56, none, .ext true (.t 52) 0⟩,
               ⟨some 57, none, .ext false (.t 52) 1⟩,
               ⟨some 58, none, .ext false (.t 52) 2⟩,
               ⟨some 14, none, .mv true (.t 56)⟩,
               ⟨some 15, none, .mv true (.t 57)⟩,
               ⟨some 16, none, .mv true (.t 58)⟩])
             (.seq
              (.seq
               (.region [
                 ⟨some 59, none, .mv false (.t 16)⟩,
                 ⟨some 60, none, .bin .neq (.t 59) (.c (.int .i64 0))⟩])
               (.cond (.t 60)
                (.exit 0)
                .skip))
              (.region [
                ⟨some 61, none, .mv true (.t 12)⟩,
                ⟨some 62, none, .mv false (.t 14)⟩,
                ⟨some 63, none, .bsl 1 1 false [.lst 0 [] true] [(0, .t 62)] false⟩,
                ⟨some 64, none, .app 1 24 (.t 61) (.t 63)⟩,
                ⟨some 65, none, .mv true (.t 15)⟩,
                ⟨some 12, none, .mv true (.t 64)⟩,
                ⟨some 13, none, .mv true (.t 65)⟩]))))))))
       (.seq
        (.seq
         (.region [
           ⟨some 66, none, .mv false (.t 4)⟩,
           ⟨some 67, none, .mv false (.t 2)⟩,
           ⟨some 68, none, .bin .lss (.t 66) (.t 67)⟩])
         (.cond (.t 68)
          (.seq
           (.region [
             ⟨some 69, none, .mv true (.t 12)⟩,
             ⟨some 10, none, .mv true (.t 69)⟩,
             ⟨some 11, none, .mv true (.c (.int .i64 3))⟩])
           .ret)
          .skip))
        (.seq
         (.region [
           ⟨some 70, none, .mv true (.t 12)⟩,
           ⟨some 10, none, .mv true (.t 70)⟩,
           ⟨some 11, none, .mv true (.c (.int .i64 0))⟩])
         .ret)))))⟩
theorem t7 : compF Try.prog {} 7 = some p7 := by kernel_rfl
def p8 : PFn :=
  ⟨26, [.t 4], .seq
    (.region [
      ⟨some 4, none, .mv true (.c (.bool false))⟩])
    (.seq
     (.region [
       ⟨some 5, none, .mv true (.c (.bool false))⟩])
     (.seq
      (.seq
       (.region [
         ⟨some 6, none, .mv true (.c (.int .i64 0))⟩])
       (.block 0
        (.loop
         (.seq
          (.seq
           (.region [
             ⟨some 7, none, .mv false (.t 6)⟩,
             ⟨some 8, none, .mv false (.t 0)⟩,
             ⟨some 9, none, .len false (.t 8)⟩,
             ⟨some 10, none, .bin .lss (.t 7) (.t 9)⟩,
             ⟨some 11, none, .mv false (.t 10)⟩,
             ⟨some 12, some (11, true), .mv false (.t 6)⟩,
             ⟨some 13, some (11, true), .mv false (.t 1)⟩,
             ⟨some 14, some (11, true), .bin .lss (.t 12) (.t 13)⟩,
             ⟨some 15, none, .pick (.t 11) (.t 14) (.c (.bool false))⟩])
           (.cond (.t 15)
            .skip
            (.exit 0)))
          (.seq
           (.block 1
            (.seq
             (.region [
               ⟨some 18, none, .mv false (.t 0)⟩,
               ⟨some 19, none, .mv false (.t 6)⟩,
               ⟨some 20, none, .iad 1 (.t 18) (.t 19)⟩,
               ⟨some 21, none, .ld 1 false false (.t 20)⟩,
               ⟨some 22, none, .bin .eql (.t 21) (.c (.int .u8 34))⟩])
             (.cond (.t 22)
              (.region [
                ⟨some 23, none, .mv false (.t 5)⟩,
                ⟨some 24, none, .un .not (.t 23)⟩,
                ⟨some 5, none, .mv true (.t 24)⟩])
              .skip)))
           (.region [
             ⟨some 16, none, .mv false (.t 6)⟩,
             ⟨some 17, none, .bin .add (.t 16) (.c (.int .i64 1))⟩,
             ⟨some 6, none, .mv true (.t 17)⟩]))))))
      (.seq
       (.region [
         ⟨some 25, none, .mv true (.t 5)⟩,
         ⟨some 4, none, .mv true (.t 25)⟩])
       .ret)))⟩
theorem t8 : compF Try.prog {} 8 = some p8 := by kernel_rfl
def p9 : PFn :=
  ⟨53, [.t 8, .t 9], .seq
    (.region [
      ⟨some 8, none, .mv true (.c (.lst 0 [] true))⟩,
      ⟨some 9, none, .mv true (.c (.int .i64 0))⟩])
    (.seq
     (.seq
      (.region [
        ⟨some 13, none, .mv false (.t 1)⟩,
        ⟨some 14, none, .bin .lss (.t 13) (.c (.int .i64 0))⟩,
        ⟨some 15, none, .mv false (.t 14)⟩,
        ⟨some 16, some (15, false), .mv false (.t 1)⟩,
        ⟨some 17, some (15, false), .mv false (.t 2)⟩,
        ⟨some 18, some (15, false), .bin .gtr (.t 16) (.t 17)⟩,
        ⟨some 19, none, .pick (.t 15) (.c (.bool true)) (.t 18)⟩,
        ⟨some 20, none, .mv false (.t 19)⟩,
        ⟨some 21, some (20, false), .mv false (.t 2)⟩,
        ⟨some 22, some (20, false), .mv false (.t 0)⟩,
        ⟨some 23, some (20, false), .len false (.t 22)⟩,
        ⟨some 24, some (20, false), .bin .gtr (.t 21) (.t 23)⟩,
        ⟨some 25, none, .pick (.t 20) (.c (.bool true)) (.t 24)⟩,
        ⟨some 26, none, .mv false (.t 25)⟩,
        ⟨some 27, some (26, false), .mv false (.t 3)⟩,
        ⟨some 28, some (26, false), .bin .lss (.t 27) (.c (.int .i64 0))⟩,
        ⟨some 29, none, .pick (.t 26) (.c (.bool true)) (.t 28)⟩,
        ⟨some 30, none, .mv false (.t 29)⟩,
        ⟨some 31, some (30, false), .mv false (.t 3)⟩,
        ⟨some 32, some (30, false), .mv false (.t 0)⟩,
        ⟨some 33, some (30, false), .len false (.t 32)⟩,
        ⟨some 34, some (30, false), .bin .gtr (.t 31) (.t 33)⟩,
        ⟨some 35, none, .pick (.t 30) (.c (.bool true)) (.t 34)⟩])
      (.cond (.t 35)
       (.seq
        (.region [
          ⟨some 8, none, .mv true (.c (.lst 0 [] true))⟩,
          ⟨some 9, none, .mv true (.c (.int .i64 1))⟩])
        .ret)
       .skip))
     (.seq
      (.region [
        ⟨some 37, none, .mv false (.t 0)⟩,
        ⟨some 38, none, .callF 6 [.t 37] []⟩,
        ⟨some 36, none, .mv true (.t 38)⟩,
        ⟨some 39, none, .ext true (.t 36) 0⟩,
        ⟨some 40, none, .ext false (.t 36) 1⟩,
        ⟨some 41, none, .ext false (.t 36) 2⟩,
        ⟨some 10, none, .mv true (.t 39)⟩,
        ⟨some 11, none, .mv true (.t 40)⟩,
        ⟨some 12, none, .mv true (.t 41)⟩])
      (.seq
       (.seq
        (.region [
          ⟨some 42, none, .mv false (.t 3)⟩,
          ⟨some 43, none, .mv false (.t 2)⟩,
          ⟨some 44, none, .bin .lss (.t 42) (.t 43)⟩])
        (.cond (.t 44)
         (.seq
          (.region [
            ⟨some 45, none, .mv false (.t 10)⟩,
            ⟨some 46, none, .mv false (.t 1)⟩,
            ⟨some 47, none, .mv false (.t 2)⟩,
            ⟨some 48, none, .callF 18 [.t 45, .t 46, .t 47] []⟩,
            ⟨some 8, none, .mv true (.t 48)⟩,
            ⟨some 9, none, .mv true (.c (.int .i64 3))⟩])
          .ret)
         .skip))
       (.seq
        (.region [
          ⟨some 49, none, .mv false (.t 10)⟩,
          ⟨some 50, none, .mv false (.t 1)⟩,
          ⟨some 51, none, .mv false (.t 2)⟩,
          ⟨some 52, none, .callF 18 [.t 49, .t 50, .t 51] []⟩,
          ⟨some 8, none, .mv true (.t 52)⟩,
          ⟨some 9, none, .mv true (.c (.int .i64 0))⟩])
        .ret))))⟩
theorem t9 : compF Try.prog {} 9 = some p9 := by kernel_rfl
def p10 : PFn :=
  ⟨27, [.t 4], .seq
    (.region [
      ⟨some 4, none, .mv true (.c (.bool false))⟩])
    (.seq
     (.seq
      (.region [
        ⟨some 6, none, .mv false (.t 0)⟩,
        ⟨some 7, none, .len false (.t 6)⟩,
        ⟨some 8, none, .mv false (.t 1)⟩,
        ⟨some 9, none, .len false (.t 8)⟩,
        ⟨some 10, none, .bin .neq (.t 7) (.t 9)⟩])
      (.cond (.t 10)
       (.seq
        (.region [
          ⟨some 4, none, .mv true (.c (.bool false))⟩])
        .ret)
       .skip))
     (.seq
      (.seq
       (.region [
         ⟨some 5, none, .mv true (.c (.int .i64 0))⟩])
       (.block 0
        (.loop
         (.seq
          (.seq
           (.region [
             ⟨some 11, none, .mv false (.t 5)⟩,
             ⟨some 12, none, .mv false (.t 0)⟩,
             ⟨some 13, none, .len false (.t 12)⟩,
             ⟨some 14, none, .bin .lss (.t 11) (.t 13)⟩])
           (.cond (.t 14)
            .skip
            (.exit 0)))
          (.seq
           (.block 1
            (.seq
             (.draw [
               ⟨some 17, none, .mv false (.t 0)⟩,
               ⟨some 18, none, .mv false (.t 5)⟩,
               ⟨some 19, none, .iad 1 (.t 17) (.t 18)⟩,
               ⟨some 20, none, .ld 1 false false (.t 19)⟩,
               ⟨some 21, none, .mv false (.t 1)⟩,
               ⟨some 22, none, .mv false (.t 5)⟩,
               ⟨some 23, none, .iad 1 (.t 21) (.t 22)⟩,
               ⟨some 24, none, .ld 1 false false (.t 23)⟩,
               ⟨some 25, none, .callF 19 [.t 20, .t 24] []⟩,
               ⟨some 26, none, .un .not (.t 25)⟩] [])
             (.cond (.t 26)
              (.seq
               (.region [
                 ⟨some 4, none, .mv true (.c (.bool false))⟩])
               .ret)
              .skip)))
           (.region [
             ⟨some 15, none, .mv false (.t 5)⟩,
             ⟨some 16, none, .bin .add (.t 15) (.c (.int .i64 1))⟩,
             ⟨some 5, none, .mv true (.t 16)⟩]))))))
      (.seq
       (.region [
         ⟨some 4, none, .mv true (.c (.bool true))⟩])
       .ret)))⟩
theorem t10 : compF Try.prog {} 10 = some p10 := by kernel_rfl
def p11 : PFn :=
  ⟨36, [.t 2, .t 3, .t 4], .seq
    (.region [
      ⟨some 2, none, .mv true (.c (.lst 0 [] true))⟩,
      ⟨some 3, none, .mv true (.c (.int .i64 0))⟩,
      ⟨some 4, none, .mv true (.c (.int .i64 0))⟩])
    (.seq
     (.region [
       ⟨some 5, none, .mv true (.c (.lst 0 [] true))⟩])
     (.seq
      (.region [
        ⟨some 6, none, .mv true (.c (.int .i64 0))⟩])
      (.seq
       (.block 0
        (.loop
         (.seq
          (.seq
           (.region [
             ⟨some 10, none, .mv false (.t 6)⟩,
             ⟨some 11, none, .mv false (.t 0)⟩,
             ⟨some 12, none, .len false (.t 11)⟩,
             ⟨some 13, none, .bin .lss (.t 10) (.t 12)⟩])
           (.cond (.t 13)
            .skip
            (.exit 0)))
          (.block 1
           (.seq
            (.region [
              ⟨some 15, none, .mv false (.t 0)⟩,
              ⟨some 16, none, .mv false (.t 6)⟩,
              ⟨some 17, none, .callF 17 [.t 15, .t 16] []⟩,
              ⟨some 14, none, .mv true (.t 17)⟩,
              ⟨some 18, none, .ext true (.t 14) 0⟩,
              ⟨some 19, none, .ext false (.t 14) 1⟩,
              ⟨some 20, none, .ext false (.t 14) 2⟩,
              ⟨some 7, none, .mv true (.t 18)⟩,
              ⟨some 8, none, .mv true (.t 19)⟩,
              ⟨some 9, none, .mv true (.t 20)⟩])
            (.seq
             (.seq
              (.region [
                ⟨some 21, none, .mv false (.t 9)⟩,
                ⟨some 22, none, .bin .neq (.t 21) (.c (.int .i64 0))⟩])
              (.cond (.t 22)
               (.seq
                (.region [
                  ⟨some 23, none, .mv true (.t 5)⟩,
                  ⟨some 24, none, .mv true (.t 6)⟩,
                  ⟨some 25, none, .mv true (.t 9)⟩,
                  ⟨some 2, none, .mv true (.t 23)⟩,
                  ⟨some 3, none, .mv true (.t 24)⟩,
                  ⟨some 4, none, .mv true (.t 25)⟩])
                .ret)
               .skip))
             (.region [
               ⟨some 26, none, .mv true (.t 5)⟩,
               ⟨some 27, none, .mv false (.t 6)⟩,
               ⟨some 28, none, .mv false (.t 7)⟩,
               ⟨some 29, none, .bsl 1 1 false [.lst 0 [] true] [(0, .t 28)] false⟩,
               ⟨some 30, none, .build [.int .i64 0, .lst 0 [] true] [(0, (1, .t 27)), (1, (1, .t 29))]⟩,
               ⟨some 31, none, .bsl 2 1 true [.int .i64 0, .lst 0 [] true] [(0, .t 30)] false⟩,
               ⟨some 32, none, .app 2 32 (.t 26) (.t 31)⟩,
               ⟨some 33, none, .mv true (.t 8)⟩,
               ⟨some 5, none, .mv true (.t 32)⟩,
               ⟨some 6, none, .mv true (.t 33)⟩])))))))
       (.seq
        (.region [
          ⟨some 34, none, .mv true (.t 5)⟩,
          ⟨some 35, none, .mv true (.t 6)⟩,
          ⟨some 2, none, .mv true (.t 34)⟩,
          ⟨some 3, none, .mv true (.t 35)⟩,
          ⟨some 4, none, .mv true (.c (.int .i64 0))⟩])
        .ret))))⟩
theorem t11 : compF Try.prog {} 11 = some p11 := by kernel_rfl
def p12 : PFn :=
  ⟨37, [.t 4], .seq
    (.region [
      ⟨some 4, none, .mv true (.c (.lst 0 [] true))⟩])
    (.seq
     (.region [
       ⟨some 8, none, .bsl 1 1 false [.int .i64 0] [(0, .c (.int .i64 0))] false⟩,
       ⟨some 5, none, .mv true (.t 8)⟩])
     (.seq
      (.seq
       (.region [
         ⟨some 6, none, .mv true (.c (.int .i64 1))⟩])
       (.block 0
        (.loop
         (.seq
          (.seq
           (.region [
             ⟨some 9, none, .mv false (.t 6)⟩,
             ⟨some 10, none, .mv false (.t 0)⟩,
             ⟨some 11, none, .bin .lss (.t 9) (.t 10)⟩])
           (.cond (.t 11)
            .skip
            (.exit 0)))
          (.seq
           (.block 1
            (.seq
             (.region [
               ⟨some 7, none, .mv true (.c (.int .i64 0))⟩])
             (.block 2
              (.loop
               (.seq
                (.seq
                 (.region [
                   ⟨some 14, none, .mv false (.t 7)⟩,
                   ⟨some 15, none, .mv false (.t 1)⟩,
                   ⟨some 16, none, .len false (.t 15)⟩,
                   ⟨some 17, none, .bin .lss (.t 14) (.t 16)⟩])
                 (.cond (.t 17)
                  .skip
                  (.exit 2)))
                (.seq
                 (.block 3
                  (.seq
                   (.region [
                     ⟨some 20, none, .mv false (.t 1)⟩,
                     ⟨some 21, none, .mv false (.t 7)⟩,
                     ⟨some 22, none, .iad 1 (.t 20) (.t 21)⟩,
                     ⟨some 23, none, .ld 1 false false (.t 22)⟩,
                     ⟨some 24, none, .mv false (.t 6)⟩,
                     ⟨some 25, none, .bin .eql (.t 23) (.t 24)⟩])
                   (.cond (.t 25)
                    (.seq
                     (.region [
                       ⟨some 26, none, .mv true (.t 5)⟩,
                       ⟨some 27, none, .mv false (.t 6)⟩,
                       ⟨some 28, none, .bsl 1 1 false [.int .i64 0] [(0, .t 27)] false⟩,
                       ⟨some 29, none, .app 1 8 (.t 26) (.t 28)⟩,
                       ⟨some 5, none, .mv true (.t 29)⟩])
                     (.exit 2))
                    .skip)))
                 (.region [
                   ⟨some 18, none, .mv false (.t 7)⟩,
                   ⟨some 19, none, .bin .add (.t 18) (.c (.int .i64 1))⟩,
                   ⟨some 7, none, .mv true (.t 19)⟩])))))))
           (.region [
             ⟨some 12, none, .mv false (.t 6)⟩,
             ⟨some 13, none, .bin .add (.t 12) (.c (.int .i64 1))⟩,
             ⟨some 6, none, .mv true (.t 13)⟩]))))))
      (.seq
       (.seq
        (.region [
          ⟨some 30, none, .mv false (.t 0)⟩,
          ⟨some 31, none, .bin .gtr (.t 30) (.c (.int .i64 0))⟩])
        (.cond (.t 31)
         (.region [
           ⟨some 32, none, .mv true (.t 5)⟩,
           ⟨some 33, none, .mv false (.t 0)⟩,
           ⟨some 34, none, .bsl 1 1 false [.int .i64 0] [(0, .t 33)] false⟩,
           ⟨some 35, none, .app 1 8 (.t 32) (.t 34)⟩,
           ⟨some 5, none, .mv true (.t 35)⟩])
         .skip))
       (.seq
        (.region [
          ⟨some 36, none, .mv true (.t 5)⟩,
          ⟨some 4, none, .mv true (.t 36)⟩])
        .ret))))⟩
theorem t12 : compF Try.prog {} 12 = some p12 := by kernel_rfl
def p13 : PFn :=
  ⟨16, [.t 4], .seq
    (.region [
      ⟨some 4, none, .mv true (.c (.bool false))⟩])
    (.seq
     (.region [
       ⟨some 5, none, .mv false (.t 0)⟩,
       ⟨some 6, none, .mv false (.t 1)⟩,
       ⟨some 7, none, .mm true (.t 6) (.c (.int .i64 0))⟩,
       ⟨some 8, none, .mv false (.t 0)⟩,
       ⟨some 9, none, .len false (.t 8)⟩,
       ⟨some 10, none, .mm false (.t 7) (.t 9)⟩,
       ⟨some 11, none, .sli 1 (.t 5) none (some (.t 10)) none⟩,
       ⟨some 12, none, .bsl 1 1 false [.int .u8 0] [(0, .c (.int .u8 34))] false⟩,
       ⟨some 13, none, .callF 20 [.t 11, .t 12] []⟩,
       ⟨some 14, none, .bin .rem (.t 13) (.c (.int .i64 2))⟩,
       ⟨some 15, none, .bin .eql (.t 14) (.c (.int .i64 1))⟩,
       ⟨some 4, none, .mv true (.t 15)⟩])
     .ret)⟩
theorem t13 : compF Try.prog {} 13 = some p13 := by kernel_rfl
def p14 : PFn :=
  ⟨20, [.t 2], .seq
    (.region [
      ⟨some 2, none, .mv true (.c (.lst 0 [] true))⟩])
    (.seq
     (.region [
       ⟨some 5, none, .bsl 1 0 false [] [] false⟩,
       ⟨some 3, none, .mv true (.t 5)⟩])
     (.seq
      (.seq
       (.region [
         ⟨some 4, none, .mv true (.c (.int .i64 0))⟩])
       (.block 0
        (.loop
         (.seq
          (.seq
           (.region [
             ⟨some 6, none, .mv false (.t 4)⟩,
             ⟨some 7, none, .mv false (.t 0)⟩,
             ⟨some 8, none, .len false (.t 7)⟩,
             ⟨some 9, none, .bin .lss (.t 6) (.t 8)⟩])
           (.cond (.t 9)
            .skip
            (.exit 0)))
          (.seq
           (.block 1
            (.region [
              ⟨some 12, none, .mv true (.t 3)⟩,
              ⟨some 13, none, .mv false (.t 0)⟩,
              ⟨some 14, none, .mv false (.t 4)⟩,
              ⟨some 15, none, .iad 2 (.t 13) (.t 14)⟩,
              ⟨some 16, none, .fad 1 (.t 15)⟩,
              ⟨some 17, none, .ld 1 false false (.t 16)⟩,
              ⟨some 18, none, .app 1 24 (.t 12) (.t 17)⟩,
              ⟨some 3, none, .mv true (.t 18)⟩]))
           (.region [
             ⟨some 10, none, .mv false (.t 4)⟩,
             ⟨some 11, none, .bin .add (.t 10) (.c (.int .i64 1))⟩,
             ⟨some 4, none, .mv true (.t 11)⟩]))))))
      (.seq
       (.region [
         ⟨some 19, none, .mv true (.t 3)⟩,
         ⟨some 2, none, .mv true (.t 19)⟩])
       .ret)))⟩
theorem t14 : compF Try.prog {} 14 = some p14 := by kernel_rfl
def p15 : PFn :=
  ⟨68, [.t 4, .t 5, .t 6], .seq
    (.region [
      ⟨some 4, none, .mv true (.c (.lst 0 [] true))⟩,
      ⟨some 5, none, .mv true (.c (.int .i64 0))⟩,
      ⟨some 6, none, .mv true (.c (.int .i64 0))⟩])
    (.seq
     (.region [
       ⟨some 11, none, .bsl 1 0 false [] [] false⟩,
       ⟨some 7, none, .mv true (.t 11)⟩])
     (.block 0
      (.loop
       (.block 1
        (.seq
         (.seq
          (.region [
            ⟨some 12, none, .mv false (.t 7)⟩,
            ⟨some 13, none, .len false (.t 12)⟩,
            ⟨some 14, none, .bin .eql (.t 13) (.c (.int .i64 50))⟩])
          (.cond (.t 14)
           (.seq
            (.region [
              ⟨some 4, none, .mv true (.c (.lst 0 [] true))⟩,
              ⟨some 5, none, .mv true (.c (.int .i64 0))⟩,
              ⟨some 6, none, .mv true (.c (.int .i64 5))⟩])
            .ret)
           .skip))
         (.seq
          (.region [
            ⟨some 8, none, .mv true (.c (.str []))⟩,
            ⟨some 9, none, .mv true (.c (.int .i64 0))⟩,
            ⟨some 10, none, .mv true (.c (.int .i64 0))⟩])
          (.seq
           (.seq
            (.region [
              ⟨some 15, none, .mv false (.t 1)⟩,
              ⟨some 16, none, .mv false (.t 0)⟩,
              ⟨some 17, none, .len false (.t 16)⟩,
              ⟨some 18, none, .bin .lss (.t 15) (.t 17)⟩,
              ⟨some 19, none, .mv false (.t 18)⟩,
              ⟨some 20, some (19, true), .mv false (.t 0)⟩,
              ⟨some 21, some (19, true), .mv false (.t 1)⟩,
              ⟨some 22, some (19, true), .iad 1 (.t 20) (.t 21)⟩,
              ⟨some 23, some (19, true), .ld 1 false false (.t 22)⟩,
              ⟨some 24, some (19, true), .bin .eql (.t 23) (.c (.int .u8 34))⟩,
              ⟨some 25, none, .pick (.t 19) (.t 24) (.c (.bool false))⟩])
            (.cond (.t 25)
             (.region [
               ⟨some 27, none, .mv false (.t 0)⟩,
               ⟨some 28, none, .mv false (.t 1)⟩,
               ⟨some 29, none, .bin .add (.t 28) (.c (.int .i64 1))⟩,
               ⟨some 30, none, .callF 21 [.t 27, .t 29] []⟩,
               ⟨some 26, none, .mv true (.t 30)⟩,
               ⟨some 31, none, .ext false (.t 26) 0⟩,
               ⟨some 32, none, .ext false (.t 26) 1⟩,
               ⟨some 33, none, .ext false (.t 26) 2⟩,
               ⟨some 8, none, .mv true (.t 31)⟩,
               ⟨some 9, none, .mv true (.t 32)⟩,
               ⟨some 10, none, .mv true (.t 33)⟩])
             (.region [
               ⟨some 35, none, .mv false (.t 0)⟩,
               ⟨some 36, none, .mv false (.t 1)⟩,
               ⟨some 37, none, .callF 22 [.t 35, .t 36] []⟩,
               ⟨some 34, none, .mv true (.t 37)⟩,
               ⟨some 38, none, .ext false (.t 34) 0⟩,
               ⟨some 39, none, .ext false (.t 34) 1⟩,
               ⟨some 40, none, .ext false (.t 34) 2⟩,
               ⟨some 8, none, .mv true (.t 38)⟩,
               ⟨some 9, none, .mv true (.t 39)⟩,
               ⟨some 10, none, .mv true (.t 40)⟩])))
           (.seq
            (.seq
             (.region [
               ⟨some 41, none, .mv false (.t 10)⟩,
               ⟨some 42, none, .bin .neq (.t 41) (.c (.int .i64 0))⟩])
             (.cond (.t 42)
              (.seq
               (.region [
                 ⟨some 43, none, .mv true (.t 10)⟩,
                 ⟨some 4, none, .mv true (.c (.lst 0 [] true))⟩,
                 ⟨some 5, none, .mv true (.c (.int .i64 0))⟩,
                 ⟨some 6, none, .mv true (.t 43)⟩])
               .ret)
              .skip))
            (.seq
             (.region [
               ⟨some 44, none, .mv true (.t 7)⟩,
               ⟨some 45, none, .mv false (.t 8)⟩,
               ⟨some 46, none, .bsl 1 1 false [.str []] [(0, .t 45)] false⟩,
               ⟨some 47, none, .app 1 16 (.t 44) (.t 46)⟩,
               ⟨some 7, none, .mv true (.t 47)⟩])
             (.seq
              (.region [
                ⟨some 48, none, .mv true (.t 9)⟩,
                ⟨some 1, none, .mv true (.t 48)⟩])
              (.seq
               (.seq
                (.region [
                  ⟨some 49, none, .mv false (.t 1)⟩,
                  ⟨some 50, none, .mv false (.t 0)⟩,
                  ⟨some 51, none, .len false (.t 50)⟩,
                  ⟨some 52, none, .bin .lss (.t 49) (.t 51)⟩,
                  ⟨some 53, none, .mv false (.t 52)⟩,
                  ⟨some 54, some (53, true), .mv false (.t 0)⟩,
                  ⟨some 55, some (53, true), .mv false (.t 1)⟩,
                  ⟨some 56, some (53, true), .iad 1 (.t 54) (.t 55)⟩,
                  ⟨some 57, some (53, true), .ld 1 false false (.t 56)⟩,
                  ⟨some 58, some (53, true), .bin .eql (.t 57) (.c (.int .u8 44))⟩,
                  ⟨some 59, none, .pick (.t 53) (.t 58) (.c (.bool false))⟩])
                (.cond (.t 59)
                 (.seq
                  (.region [
                    ⟨some 60, none, .mv false (.t 1)⟩,
                    ⟨some 61, none, .bin .add (.t 60) (.c (.int .i64 1))⟩,
                    ⟨some 1, none, .mv true (.t 61)⟩])
                  (.exit 1))
                 .skip))
               (.seq
                (.region [
                  ⟨some 62, none, .mv true (.t 7)⟩,
                  ⟨some 63, none, .mv false (.t 1)⟩,
                  ⟨some 64, none, .mv false (.t 0)⟩,
                  ⟨some 65, none, .mv false (.t 1)⟩,
                  ⟨some 66, none, .callF 23 [.t 64, .t 65] []⟩,
                  ⟨some 67, none, .bin .add (.t 63) (.t 66)⟩,
                  ⟨some 4, none, .mv true (.t 62)⟩,
                  ⟨some 5, none, .mv true (.t 67)⟩,
                  ⟨some 6, none, .mv true (.c (.int .i64 0))⟩])
                .ret))))))))))))⟩
theorem t15 : compF Try.prog {} 15 = some p15 := by kernel_rfl
def p16 : PFn :=
  ⟨55, [.t 6], .seq
    (.region [
      ⟨some 6, none, .mv true (.c (.int .i64 0))⟩])
    (.seq
     (.seq
      (.region [
        ⟨some 7, none, .mv false (.t 1)⟩,
        ⟨some 8, none, .bin .eql (.t 7) (.c (.int .i64 0))⟩,
        ⟨some 9, none, .mv false (.t 8)⟩,
        ⟨some 10, some (9, false), .mv false (.t 1)⟩,
        ⟨some 11, some (9, false), .mv false (.t 0)⟩,
        ⟨some 12, some (9, false), .len false (.t 11)⟩,
        ⟨some 13, some (9, false), .bin .leq (.t 10) (.t 12)⟩,
        ⟨some 14, some (9, false), .mv false (.t 13)⟩,
        ⟨some 15, some (14, true), .mv false (.t 0)⟩,
        ⟨some 16, some (14, true), .mv false (.t 1)⟩,
        ⟨some 17, some (14, true), .bin .sub (.t 16) (.c (.int .i64 1))⟩,
        ⟨some 18, some (14, true), .iad 1 (.t 15) (.t 17)⟩,
        ⟨some 19, some (14, true), .ld 1 false false (.t 18)⟩,
        ⟨some 20, some (14, true), .bin .eql (.t 19) (.c (.int .u8 10))⟩,
        ⟨some 21, some (9, false), .pick (.t 14) (.t 20) (.c (.bool false))⟩,
        ⟨some 22, some (9, false), .mv false (.t 21)⟩,
        ⟨some 23, some (22, true), .mv false (.t 2)⟩,
        ⟨some 24, some (22, true), .un .not (.t 23)⟩,
        ⟨some 25, some (9, false), .pick (.t 22) (.t 24) (.c (.bool false))⟩,
        ⟨some 26, none, .pick (.t 9) (.c (.bool true)) (.t 25)⟩])
      (.cond (.t 26)
       (.seq
        (.region [
          ⟨some 27, none, .mv true (.t 1)⟩,
          ⟨some 6, none, .mv true (.t 27)⟩])
        .ret)
       .skip))
     (.seq
      (.block 0
       (.loop
        (.seq
         (.seq
          (.region [
            ⟨some 28, none, .mv false (.t 1)⟩,
            ⟨some 29, none, .mv false (.t 0)⟩,
            ⟨some 30, none, .len false (.t 29)⟩,
            ⟨some 31, none, .bin .lss (.t 28) (.t 30)⟩])
          (.cond (.t 31)
           .skip
           (.exit 0)))
         (.seq
          (.block 1
           (.block 2
            (.seq
             (.region [
               ⟨some 35, none, .mv false (.t 0)⟩,
               ⟨some 36, none, .mv false (.t 1)⟩,
               ⟨some 37, none, .iad 1 (.t 35) (.t 36)⟩,
               ⟨some 38, none, .ld 1 false false (.t 37)⟩,
               ⟨some 39, none, .bin .eql (.t 38) (.c (.int .u8 34))⟩,
               ⟨some 34, none, .mv true (.t 39)⟩])
             (.cond (.t 34)
              (.region [
                ⟨some 40, none, .mv false (.t 2)⟩,
                ⟨some 41, none, .un .not (.t 40)⟩,
                ⟨some 2, none, .mv true (.t 41)⟩])
              (.seq
               (.region [
                 ⟨some 43, none, .mv false (.t 0)⟩,
                 ⟨some 44, none, .mv false (.t 1)⟩,
                 ⟨some 45, none, .iad 1 (.t 43) (.t 44)⟩,
                 ⟨some 46, none, .ld 1 false false (.t 45)⟩,
                 ⟨some 47, none, .bin .eql (.t 46) (.c (.int .u8 10))⟩,
                 ⟨some 48, none, .mv false (.t 47)⟩,
                 ⟨some 49, some (48, true), .mv false (.t 2)⟩,
                 ⟨some 50, some (48, true), .un .not (.t 49)⟩,
                 ⟨some 51, none, .pick (.t 48) (.t 50) (.c (.bool false))⟩,
                 ⟨some 42, none, .mv true (.t 51)⟩])
               (.cond (.t 42)
                (.seq
                 (.region [
                   ⟨some 52, none, .mv false (.t 1)⟩,
                   ⟨some 53, none, .bin .add (.t 52) (.c (.int .i64 1))⟩,
                   ⟨some 6, none, .mv true (.t 53)⟩])
                 .ret)
                .skip))))))
          (.region [
            ⟨some 32, none, .mv false (.t 1)⟩,
            ⟨some 33, none, .bin .add (.t 32) (.c (.int .i64 1))⟩,
            ⟨some 1, none, .mv true (.t 33)⟩])))))
      (.seq
       (.region [
         ⟨some 54, none, .mv true (.t 1)⟩,
         ⟨some 6, none, .mv true (.t 54)⟩])
       .ret)))⟩
theorem t16 : compF Try.prog {} 16 = some p16 := by kernel_rfl
def p17 : PFn :=
  ⟨75, [.t 4, .t 5, .t 6], .seq
    (.region [
      ⟨some 4, none, .mv true (.c (.lst 0 [] true))⟩,
      ⟨some 5, none, .mv true (.c (.int .i64 0))⟩,
      ⟨some 6, none, .mv true (.c (.int .i64 0))⟩])
    (.seq
     (.region [
       ⟨some 14, none, .build [.lst 0 [] true, .lst 0 [] true, .bool false, .int .i64 0] []⟩,
       ⟨some 15, none, .bx 4 (.t 14)⟩,
       ⟨some 7, none, .mv true (.t 15)⟩])
     (.seq
      (.region [
        ⟨some 16, none, .mv false (.t 7)⟩,
        ⟨some 17, none, .mkf (.func 24) [.t 16] []⟩,
        ⟨some 8, none, .mv true (.t 17)⟩,
        ⟨some 9, none, .mv true (.c (.bool false))⟩,
        ⟨some 10, none, .mv true (.c (.bool false))⟩])
      (.seq
       (.region [
         ⟨some 18, none, .mv true (.t 8)⟩,
         ⟨some 11, none, .mv true (.t 18)⟩])
       (.seq
        (.block 0
         (.loop
          (.seq
           (.seq
            (.region [
              ⟨some 19, none, .mv false (.t 1)⟩,
              ⟨some 20, none, .mv false (.t 0)⟩,
              ⟨some 21, none, .len false (.t 20)⟩,
              ⟨some 22, none, .bin .lss (.t 19) (.t 21)⟩])
            (.cond (.t 22)
             .skip
             (.exit 0)))
           (.seq
            (.block 1
             (.seq
              (.region [
                ⟨some 25, none, .mv false (.t 0)⟩,
                ⟨some 26, none, .mv false (.t 1)⟩,
                ⟨some 27, none, .iad 1 (.t 25) (.t 26)⟩,
                ⟨some 28, none, .ld 1 false false (.t 27)⟩,
                ⟨some 12, none, .mv true (.t 28)⟩])
              (.seq
               (.region [
                 ⟨some 29, none, .mv false (.t 12)⟩,
                 ⟨some 30, none, .bin .eql (.t 29) (.c (.int .u8 13))⟩,
                 ⟨some 13, none, .mv true (.t 30)⟩])
               (.seq
                (.region [
                  ⟨some 31, none, .mv false (.t 11)⟩,
                  ⟨some 32, none, .mv false (.t 12)⟩,
                  ⟨some 33, none, .callV (.t 31) [.t 32]⟩,
                  ⟨some 11, none, .mv true (.t 33)⟩])
                (.seq
                 (.block 2
                  (.seq
                   (.region [
                     ⟨some 35, none, .mv false (.t 7)⟩,
                     ⟨some 36, none, .nck (.t 35)⟩,
                     ⟨some 37, none, .fad 3 (.t 36)⟩,
                     ⟨some 38, none, .ld 1 false false (.t 37)⟩,
                     ⟨some 39, none, .bin .neq (.t 38) (.c (.int .i64 0))⟩,
                     ⟨some 34, none, .mv true (.t 39)⟩])
                   (.cond (.t 34)
                    (.seq
                     (.draw [
                       ⟨some 40, none, .mv false (.t 7)⟩,
                       ⟨some 41, none, .nck (.t 40)⟩,
                       ⟨some 42, none, .fad 3 (.t 41)⟩,
                       ⟨some 43, none, .ld 1 false false (.t 42)⟩,
                       ⟨some 4, none, .mv true (.c (.lst 0 [] true))⟩,
                       ⟨some 5, none, .mv true (.c (.int .i64 0))⟩,
                       ⟨some 6, none, .mv true (.t 43)⟩] [])
                     .ret)
                    (.seq
                     (.region [
                       ⟨some 45, none, .mv false (.t 7)⟩,
                       ⟨some 46, none, .nck (.t 45)⟩,
                       ⟨some 47, none, .fad 2 (.t 46)⟩,
                       ⟨some 48, none, .ld 1 false false (.t 47)⟩,
                       ⟨some 44, none, .mv true (.t 48)⟩])
                     (.cond (.t 44)
                      (.seq
                       (.region [
                         ⟨some 49, none, .mv false (.t 7)⟩,
                         ⟨some 50, none, .nck (.t 49)⟩,
                         ⟨some 51, none, .fad 0 (.t 50)⟩,
                         ⟨some 52, none, .ld 1 false false (.t 51)⟩,
                         ⟨some 53, none, .mv false (.t 1)⟩,
                         ⟨some 54, none, .bin .add (.t 53) (.c (.int .i64 1))⟩,
                         ⟨some 4, none, .mv true (.t 52)⟩,
                         ⟨some 5, none, .mv true (.t 54)⟩,
                         ⟨some 6, none, .mv true (.c (.int .i64 0))⟩])
                       .ret)
                      .skip)))))
                 (.region [
                   ⟨some 55, none, .mv false (.t 7)⟩,
                   ⟨some 56, none, .mv false (.t 12)⟩,
                   ⟨some 57, none, .mv false (.t 9)⟩,
                   ⟨some 58, none, .callF 25 [.t 55, .t 56, .t 57] []⟩,
                   ⟨some 59, none, .mv false (.t 13)⟩,
                   ⟨some 60, none, .mv false (.t 59)⟩,
                   ⟨some 61, some (60, true), .mv false (.t 9)⟩,
                   ⟨some 62, some (60, true), .un .not (.t 61)⟩,
                   ⟨some 63, none, .pick (.t 60) (.t 62) (.c (.bool false))⟩,
                   ⟨some 9, none, .mv true (.t 58)⟩,
                   ⟨some 10, none, .mv true (.t 63)⟩]))))))
            (.region [
              ⟨some 23, none, .mv false (.t 1)⟩,
              ⟨some 24, none, .bin .add (.t 23) (.c (.int .i64 1))⟩,
              ⟨some 1, none, .mv true (.t 24)⟩])))))
        (.seq
         (.seq
          (.region [
            ⟨some 64, none, .mv false (.t 9)⟩,
            ⟨some 65, none, .mv false (.t 64)⟩,
            ⟨some 66, some (65, false), .mv false (.t 10)⟩,
            ⟨some 67, none, .pick (.t 65) (.c (.bool true)) (.t 66)⟩])
          (.cond (.t 67)
           (.seq
            (.region [
              ⟨some 4, none, .mv true (.c (.lst 0 [] true))⟩,
              ⟨some 5, none, .mv true (.c (.int .i64 0))⟩,
              ⟨some 6, none, .mv true (.c (.int .i64 3))⟩])
            .ret)
           .skip))
         (.seq
          (.region [
            ⟨some 68, none, .mv false (.t 7)⟩,
            ⟨some 69, none, .callF 26 [.t 68] []⟩])
          (.seq
           (.region [
             ⟨some 70, none, .mv false (.t 7)⟩,
             ⟨some 71, none, .nck (.t 70)⟩,
             ⟨some 72, none, .fad 0 (.t 71)⟩,
             ⟨some 73, none, .ld 1 false false (.t 72)⟩,
             ⟨some 74, none, .mv true (.t 1)⟩,
             ⟨some 4, none, .mv true (.t 73)⟩,
             ⟨some 5, none, .mv true (.t 74)⟩,
             ⟨some 6, none, .mv true (.c (.int .i64 0))⟩])
           .ret)))))))⟩
theorem t17 : compF Try.prog {} 17 = some p17 := by kernel_rfl
def p18 : PFn :=
  ⟨40, [.t 6], .seq
    (.region [
      ⟨some 6, none, .mv true (.c (.lst 0 [] true))⟩])
    (.seq
     (.region [
       ⟨some 9, none, .bsl 1 0 false [] [] false⟩,
       ⟨some 7, none, .mv true (.t 9)⟩])
     (.seq
      (.seq
       (.region [
         ⟨some 8, none, .mv true (.c (.int .i64 0))⟩])
       (.block 0
        (.loop
         (.seq
          (.seq
           (.region [
             ⟨some 10, none, .mv false (.t 8)⟩,
             ⟨some 11, none, .mv false (.t 0)⟩,
             ⟨some 12, none, .len false (.t 11)⟩,
             ⟨some 13, none, .bin .lss (.t 10) (.t 12)⟩])
           (.cond (.t 13)
            .skip
            (.exit 0)))
          (.seq
           (.block 1
            (.seq
             (.region [
               ⟨some 16, none, .mv false (.t 0)⟩,
               ⟨some 17, none, .mv false (.t 8)⟩,
               ⟨some 18, none, .iad 2 (.t 16) (.t 17)⟩,
               ⟨some 19, none, .fad 0 (.t 18)⟩,
               ⟨some 20, none, .ld 1 false false (.t 19)⟩,
               ⟨some 21, none, .mv false (.t 1)⟩,
               ⟨some 22, none, .bin .geq (.t 20) (.t 21)⟩,
               ⟨some 23, none, .mv false (.t 22)⟩,
               ⟨some 24, some (23, true), .mv false (.t 0)⟩,
               ⟨some 25, some (23, true), .mv false (.t 8)⟩,
               ⟨some 26, some (23, true), .iad 2 (.t 24) (.t 25)⟩,
               ⟨some 27, some (23, true), .fad 0 (.t 26)⟩,
               ⟨some 28, some (23, true), .ld 1 false false (.t 27)⟩,
               ⟨some 29, some (23, true), .mv false (.t 2)⟩,
               ⟨some 30, some (23, true), .bin .lss (.t 28) (.t 29)⟩,
               ⟨some 31, none, .pick (.t 23) (.t 30) (.c (.bool false))⟩])
             (.cond (.t 31)
              (.region [
                ⟨some 32, none, .mv true (.t 7)⟩,
                ⟨some 33, none, .mv false (.t 0)⟩,
                ⟨some 34, none, .mv false (.t 8)⟩,
                ⟨some 35, none, .iad 2 (.t 33) (.t 34)⟩,
                ⟨some 36, none, .fad 1 (.t 35)⟩,
                ⟨some 37, none, .ld 1 false false (.t 36)⟩,
                ⟨some 38, none, .app 1 24 (.t 32) (.t 37)⟩,
                ⟨some 7, none, .mv true (.t 38)⟩])
              .skip)))
           (.region [
             ⟨some 14, none, .mv false (.t 8)⟩,
             ⟨some 15, none, .bin .add (.t 14) (.c (.int .i64 1))⟩,
             ⟨some 8, none, .mv true (.t 15)⟩]))))))
      (.seq
       (.region [
         ⟨some 39, none, .mv true (.t 7)⟩,
         ⟨some 6, none, .mv true (.t 39)⟩])
       .ret)))⟩
theorem t18 : compF Try.prog {} 18 = some p18 := by kernel_rfl
def p19 : PFn :=
  ⟨26, [.t 4], .seq
    (.region [
      ⟨some 4, none, .mv true (.c (.bool false))⟩])
    (.seq
     (.seq
      (.region [
        ⟨some 6, none, .mv false (.t 0)⟩,
        ⟨some 7, none, .len false (.t 6)⟩,
        ⟨some 8, none, .mv false (.t 1)⟩,
        ⟨some 9, none, .len false (.t 8)⟩,
        ⟨some 10, none, .bin .neq (.t 7) (.t 9)⟩])
      (.cond (.t 10)
       (.seq
        (.region [
          ⟨some 4, none, .mv true (.c (.bool false))⟩])
        .ret)
       .skip))
     (.seq
      (.seq
       (.region [
         ⟨some 5, none, .mv true (.c (.int .i64 0))⟩])
       (.block 0
        (.loop
         (.seq
          (.seq
           (.region [
             ⟨some 11, none, .mv false (.t 5)⟩,
             ⟨some 12, none, .mv false (.t 0)⟩,
             ⟨some 13, none, .len false (.t 12)⟩,
             ⟨some 14, none, .bin .lss (.t 11) (.t 13)⟩])
           (.cond (.t 14)
            .skip
            (.exit 0)))
          (.seq
           (.block 1
            (.seq
             (.draw [
               ⟨some 17, none, .mv false (.t 0)⟩,
               ⟨some 18, none, .mv false (.t 5)⟩,
               ⟨some 19, none, .iad 1 (.t 17) (.t 18)⟩,
               ⟨some 20, none, .ld 1 false false (.t 19)⟩,
               ⟨some 21, none, .mv false (.t 1)⟩,
               ⟨some 22, none, .mv false (.t 5)⟩,
               ⟨some 23, none, .iad 1 (.t 21) (.t 22)⟩,
               ⟨some 24, none, .ld 1 false false (.t 23)⟩,
               ⟨some 25, none, .bin .neq (.t 20) (.t 24)⟩] [])
             (.cond (.t 25)
              (.seq
               (.region [
                 ⟨some 4, none, .mv true (.c (.bool false))⟩])
               .ret)
              .skip)))
           (.region [
             ⟨some 15, none, .mv false (.t 5)⟩,
             ⟨some 16, none, .bin .add (.t 15) (.c (.int .i64 1))⟩,
             ⟨some 5, none, .mv true (.t 16)⟩]))))))
      (.seq
       (.region [
         ⟨some 4, none, .mv true (.c (.bool true))⟩])
       .ret)))⟩
theorem t19 : compF Try.prog {} 19 = some p19 := by kernel_rfl
def p20 : PFn :=
  ⟨35, [.t 4], .seq
    (.region [
      ⟨some 4, none, .mv true (.c (.int .i64 0))⟩])
    (.seq
     (.seq
      (.region [
        ⟨some 7, none, .mv false (.t 1)⟩,
        ⟨some 8, none, .len false (.t 7)⟩,
        ⟨some 9, none, .bin .eql (.t 8) (.c (.int .i64 0))⟩])
      (.cond (.t 9)
       (.seq
        (.region [
          ⟨some 10, none, .mv false (.t 0)⟩,
          ⟨some 11, none, .callF 27 [.t 10] []⟩,
          ⟨some 12, none, .bin .add (.t 11) (.c (.int .i64 1))⟩,
          ⟨some 4, none, .mv true (.t 12)⟩])
        .ret)
       .skip))
     (.seq
      (.seq
       (.region [
         ⟨some 13, none, .mv false (.t 1)⟩,
         ⟨some 14, none, .len false (.t 13)⟩,
         ⟨some 15, none, .bin .eql (.t 14) (.c (.int .i64 1))⟩])
       (.cond (.t 15)
        (.seq
         (.region [
           ⟨some 16, none, .mv false (.t 0)⟩,
           ⟨some 17, none, .mv false (.t 1)⟩,
           ⟨some 18, none, .iad 1 (.t 17) (.c (.int .i64 0))⟩,
           ⟨some 19, none, .ld 1 false false (.t 18)⟩,
           ⟨some 20, none, .callF 28 [.t 16, .t 19] []⟩,
           ⟨some 4, none, .mv true (.t 20)⟩])
         .ret)
        .skip))
      (.seq
       (.region [
         ⟨some 5, none, .mv true (.c (.int .i64 0))⟩])
       (.block 0
        (.loop
         (.block 1
          (.seq
           (.region [
             ⟨some 21, none, .mv false (.t 0)⟩,
             ⟨some 22, none, .mv false (.t 1)⟩,
             ⟨some 23, none, .callF 29 [.t 21, .t 22] []⟩,
             ⟨some 6, none, .mv true (.t 23)⟩])
           (.seq
            (.seq
             (.region [
               ⟨some 24, none, .mv false (.t 6)⟩,
               ⟨some 25, none, .bin .eql (.t 24) (.c (.int .i64 (-1)))⟩])
             (.cond (.t 25)
              (.seq
               (.region [
                 ⟨some 26, none, .mv true (.t 5)⟩,
                 ⟨some 4, none, .mv true (.t 26)⟩])
               .ret)
              .skip))
            (.seq
             (.region [
               ⟨some 27, none, .mv false (.t 5)⟩,
               ⟨some 28, none, .bin .add (.t 27) (.c (.int .i64 1))⟩,
               ⟨some 5, none, .mv true (.t 28)⟩])
             (.region [
               ⟨some 29, none, .mv false (.t 0)⟩,
               ⟨some 30, none, .mv false (.t 6)⟩,
               ⟨some 31, none, .mv false (.t 1)⟩,
               ⟨some 32, none, .len false (.t 31)⟩,
               ⟨some 33, none, .bin .add (.t 30) (.t 32)⟩,
               ⟨some 34, none, .sli 1 (.t 29) (some (.t 33)) none none⟩,
               ⟨some 0, none, .mv true (.t 34)⟩]))))))))))⟩
theorem t20 : compF Try.prog {} 20 = some p20 := by kernel_rfl
def p21 : PFn :=
  ⟨70, [.t 4, .t 5, .t 6], .seq
    (.region [
      ⟨some 4, none, .mv true (.c (.str []))⟩,
      ⟨some 5, none, .mv true (.c (.int .i64 0))⟩,
      ⟨some 6, none, .mv true (.c (.int .i64 0))⟩])
    (.seq
     (.region [
       ⟨some 8, none, .bsl 1 0 false [] [] false⟩,
       ⟨some 7, none, .mv true (.t 8)⟩])
     (.seq
      (.block 0
       (.loop
        (.seq
         (.seq
          (.region [
            ⟨some 9, none, .mv false (.t 1)⟩,
            ⟨some 10, none, .mv false (.t 0)⟩,
            ⟨some 11, none, .len false (.t 10)⟩,
            ⟨some 12, none, .bin .lss (.t 9) (.t 11)⟩])
          (.cond (.t 12)
           .skip
           (.exit 0)))
         (.block 1
          (.seq
           (.seq
            (.region [
              ⟨some 13, none, .mv false (.t 0)⟩,
              ⟨some 14, none, .mv false (.t 1)⟩,
              ⟨some 15, none, .iad 1 (.t 13) (.t 14)⟩,
              ⟨some 16, none, .ld 1 false false (.t 15)⟩,
              ⟨some 17, none, .bin .neq (.t 16) (.c (.int .u8 34))⟩])
            (.cond (.t 17)
             (.seq
              (.region [
                ⟨some 18, none, .mv true (.t 7)⟩,
                ⟨some 19, none, .mv false (.t 0)⟩,
                ⟨some 20, none, .mv false (.t 1)⟩,
                ⟨some 21, none, .iad 1 (.t 19) (.t 20)⟩,
                ⟨some 22, none, .ld 1 false false (.t 21)⟩,
                ⟨some 23, none, .bsl 1 1 false [.int .u8 0] [(0, .t 22)] false⟩,
                ⟨some 24, none, .app 1 1 (.t 18) (.t 23)⟩,
                ⟨some 7, none, .mv true (.t 24)⟩])
              (.region [
                ⟨some 25, none, .mv false (.t 1)⟩,
                ⟨some 26, none, .bin .add (.t 25) (.c (.int .i64 1))⟩,
                ⟨some 1, none, .mv true (.t 26)⟩]))
             (.seq
              (.region [
                ⟨some 27, none, .mv false (.t 1)⟩,
                ⟨some 28, none, .bin .add (.t 27) (.c (.int .i64 1))⟩,
                ⟨some 29, none, .mv false (.t 0)⟩,
                ⟨some 30, none, .len false (.t 29)⟩,
                ⟨some 31, none, .bin .lss (.t 28) (.t 30)⟩,
                ⟨some 32, none, .mv false (.t 31)⟩,
                ⟨some 33, some (32, true), .mv false (.t 0)⟩,
                ⟨some 34, some (32, true), .mv false (.t 1)⟩,
                ⟨some 35, some (32, true), .bin .add (.t 34) (.c (.int .i64 1))⟩,
                ⟨some 36, some (32, true), .iad 1 (.t 33) (.t 35)⟩,
                ⟨some 37, some (32, true), .ld 1 false false (.t 36)⟩,
                ⟨some 38, some (32, true), .bin .eql (.t 37) (.c (.int .u8 34))⟩,
                ⟨some 39, none, .pick (.t 32) (.t 38) (.c (.bool false))⟩])
              (.cond (.t 39)
               (.seq
                (.region [
                  ⟨some 40, none, .mv true (.t 7)⟩,
                  ⟨some 41, none, .bsl 1 1 false [.int .u8 0] [(0, .c (.int .u8 34))] false⟩,
                  ⟨some 42, none, .app 1 1 (.t 40) (.t 41)⟩,
                  ⟨some 7, none, .mv true (.t 42)⟩])
                (.region [
                  ⟨some 43, none, .mv false (.t 1)⟩,
                  ⟨some 44, none, .bin .add (.t 43) (.c (.int .i64 2))⟩,
                  ⟨some 1, none, .mv true (.t 44)⟩]))
               (.seq
                (.region [
                  ⟨some 45, none, .mv false (.t 1)⟩,
                  ⟨some 46, none, .bin .add (.t 45) (.c (.int .i64 1))⟩,
                  ⟨some 1, none, .mv true (.t 46)⟩])
                (.seq
                 (.seq
                  (.region [
                    ⟨some 47, none, .mv false (.t 1)⟩,
                    ⟨some 48, none, .mv false (.t 0)⟩,
                    ⟨some 49, none, .len false (.t 48)⟩,
                    ⟨some 50, none, .bin .lss (.t 47) (.t 49)⟩,
                    ⟨some 51, none, .mv false (.t 50)⟩,
                    ⟨some 52, some (51, true), .mv false (.t 0)⟩,
                    ⟨some 53, some (51, true), .mv false (.t 1)⟩,
                    ⟨some 54, some (51, true), .iad 1 (.t 52) (.t 53)⟩,
                    ⟨some 55, some (51, true), .ld 1 false false (.t 54)⟩,
                    ⟨some 56, some (51, true), .bin .neq (.t 55) (.c (.int .u8 44))⟩,
                    ⟨some 57, none, .pick (.t 51) (.t 56) (.c (.bool false))⟩,
                    ⟨some 58, none, .mv false (.t 57)⟩,
                    ⟨some 59, some (58, true), .mv false (.t 0)⟩,
                    ⟨some 60, some (58, true), .mv false (.t 1)⟩,
                    ⟨some 61, some (58, true), .callF 23 [.t 59, .t 60] []⟩,
                    ⟨some 62, some (58, true), .bin .eql (.t 61) (.c (.int .i64 0))⟩,
                    ⟨some 63, none, .pick (.t 58) (.t 62) (.c (.bool false))⟩])
                  (.cond (.t 63)
                   (.seq
                    (.region [
                      ⟨some 4, none, .mv true (.c (.str []))⟩,
                      ⟨some 5, none, .mv true (.c (.int .i64 0))⟩,
                      ⟨some 6, none, .mv true (.c (.int .i64 3))⟩])
                    .ret)
                   .skip))
                 (.seq
                  (.region [
                    ⟨some 64, none, .mv false (.t 7)⟩,
                    ⟨some 65, none, .cvS (.t 64)⟩,
                    ⟨some 66, none, .mv true (.t 1)⟩,
                    ⟨some 4, none, .mv true (.t 65)⟩,
                    ⟨some 5, none, .mv true (.t 66)⟩,
                    ⟨some 6, none, .mv true (.c (.int .i64 0))⟩])
                  .ret)))))))
           (.seq
            (.region [
              ⟨some 67, none, .mv false (.t 7)⟩,
              ⟨some 68, none, .len false (.t 67)⟩,
              ⟨some 69, none, .bin .gtr (.t 68) (.c (.int .i64 1000))⟩])
            (.cond (.t 69)
             (.seq
              (.region [
                ⟨some 4, none, .mv true (.c (.str []))⟩,
                ⟨some 5, none, .mv true (.c (.int .i64 0))⟩,
                ⟨some 6, none, .mv true (.c (.int .i64 5))⟩])
              .ret)
             .skip)))))))
      (.seq
       (.region [
         ⟨some 4, none, .mv true (.c (.str []))⟩,
         ⟨some 5, none, .mv true (.c (.int .i64 0))⟩,
         ⟨some 6, none, .mv true (.c (.int .i64 3))⟩])
       .ret)))⟩
theorem t21 : compF Try.prog {} 21 = some p21 := by kernel_rfl
def p22 : PFn :=
  ⟨50, [.t 4, .t 5, .t 6], .seq
    (.region [
      ⟨some 4, none, .mv true (.c (.str []))⟩,
      ⟨some 5, none, .mv true (.c (.int .i64 0))⟩,
      ⟨some 6, none, .mv true (.c (.int .i64 0))⟩])
    (.seq
     (.region [
       ⟨some 8, none, .mv true (.t 1)⟩,
       ⟨some 7, none, .mv true (.t 8)⟩])
     (.seq
      (.block 0
       (.loop
        (.seq
         (.seq
          (.region [
            ⟨some 9, none, .mv false (.t 1)⟩,
            ⟨some 10, none, .mv false (.t 0)⟩,
            ⟨some 11, none, .len false (.t 10)⟩,
            ⟨some 12, none, .bin .lss (.t 9) (.t 11)⟩,
            ⟨some 13, none, .mv false (.t 12)⟩,
            ⟨some 14, some (13, true), .mv false (.t 0)⟩,
            ⟨some 15, some (13, true), .mv false (.t 1)⟩,
            ⟨some 16, some (13, true), .iad 1 (.t 14) (.t 15)⟩,
            ⟨some 17, some (13, true), .ld 1 false false (.t 16)⟩,
            ⟨some 18, some (13, true), .bin .neq (.t 17) (.c (.int .u8 44))⟩,
            ⟨some 19, none, .pick (.t 13) (.t 18) (.c (.bool false))⟩,
            ⟨some 20, none, .mv false (.t 19)⟩,
            ⟨some 21, some (20, true), .mv false (.t 0)⟩,
            ⟨some 22, some (20, true), .mv false (.t 1)⟩,
            ⟨some 23, some (20, true), .callF 23 [.t 21, .t 22] []⟩,
            ⟨some 24, some (20, true), .bin .eql (.t 23) (.c (.int .i64 0))⟩,
            ⟨some 25, none, .pick (.t 20) (.t 24) (.c (.bool false))⟩])
          (.cond (.t 25)
           .skip
           (.exit 0)))
         (.block 1
          (.seq
           (.seq
            (.region [
              ⟨some 26, none, .mv false (.t 0)⟩,
              ⟨some 27, none, .mv false (.t 1)⟩,
              ⟨some 28, none, .iad 1 (.t 26) (.t 27)⟩,
              ⟨some 29, none, .ld 1 false false (.t 28)⟩,
              ⟨some 30, none, .bin .eql (.t 29) (.c (.int .u8 34))⟩,
              ⟨some 31, none, .mv false (.t 30)⟩,
              ⟨some 32, some (31, false), .mv false (.t 0)⟩,
              ⟨some 33, some (31, false), .mv false (.t 1)⟩,
              ⟨some 34, some (31, false), .iad 1 (.t 32) (.t 33)⟩,
              ⟨some 35, some (31, false), .ld 1 false false (.t 34)⟩,
              ⟨some 36, some (31, false), .bin .eql (.t 35) (.c (.int .u8 13))⟩,
              ⟨some 37, none, .pick (.t 31) (.c (.bool true)) (.t 36)⟩])
            (.cond (.t 37)
             (.seq
              (.region [
                ⟨some 4, none, .mv true (.c (.str []))⟩,
                ⟨some 5, none, .mv true (.c (.int .i64 0))⟩,
                ⟨some 6, none, .mv true (.c (.int .i64 3))⟩])
              .ret)
             .skip))
           (.seq
            (.region [
              ⟨some 38, none, .mv false (.t 1)⟩,
              ⟨some 39, none, .bin .add (.t 38) (.c (.int .i64 1))⟩,
              ⟨some 1, none, .mv true (.t 39)⟩])
            (.seq
             (.region [
               ⟨some 40, none, .mv false (.t 1)⟩,
               ⟨some 41, none, .mv false (.t 7)⟩,
               ⟨some 42, none, .bin .sub (.t 40) (.t 41)⟩,
               ⟨some 43, none, .bin .gtr (.t 42) (.c (.int .i64 1000))⟩])
             (.cond (.t 43)
              (.seq
               (.region [
                 ⟨some 4, none, .mv true (.c (.str []))⟩,
                 ⟨some 5, none, .mv true (.c (.int .i64 0))⟩,
                 ⟨some 6, none, .mv true (.c (.int .i64 5))⟩])
               .ret)
              .skip))))))))
      (.seq
       (.region [
         ⟨some 44, none, .mv false (.t 0)⟩,
         ⟨some 45, none, .mv false (.t 7)⟩,
         ⟨some 46, none, .mv false (.t 1)⟩,
         ⟨some 47, none, .sli 1 (.t 44) (some (.t 45)) (some (.t 46)) none⟩,
         ⟨some 48, none, .cvS (.t 47)⟩,
         ⟨some 49, none, .mv true (.t 1)⟩,
         ⟨some 4, none, .mv true (.t 48)⟩,
         ⟨some 5, none, .mv true (.t 49)⟩,
         ⟨some 6, none, .mv true (.c (.int .i64 0))⟩])
       .ret)))⟩
theorem t22 : compF Try.prog {} 22 = some p22 := by kernel_rfl
def p23 : PFn :=
  ⟨36, [.t 4], .seq
    (.region [
      ⟨some 4, none, .mv true (.c (.int .i64 0))⟩])
    (.seq
     (.seq
      (.region [
        ⟨some 5, none, .mv false (.t 1)⟩,
        ⟨some 6, none, .mv false (.t 0)⟩,
        ⟨some 7, none, .len false (.t 6)⟩,
        ⟨some 8, none, .bin .lss (.t 5) (.t 7)⟩,
        ⟨some 9, none, .mv false (.t 8)⟩,
        ⟨some 10, some (9, true), .mv false (.t 0)⟩,
        ⟨some 11, some (9, true), .mv false (.t 1)⟩,
        ⟨some 12, some (9, true), .iad 1 (.t 10) (.t 11)⟩,
        ⟨some 13, some (9, true), .ld 1 false false (.t 12)⟩,
        ⟨some 14, some (9, true), .bin .eql (.t 13) (.c (.int .u8 10))⟩,
        ⟨some 15, none, .pick (.t 9) (.t 14) (.c (.bool false))⟩])
      (.cond (.t 15)
       (.seq
        (.region [
          ⟨some 4, none, .mv true (.c (.int .i64 1))⟩])
        .ret)
       .skip))
     (.seq
      (.seq
       (.region [
         ⟨some 16, none, .mv false (.t 1)⟩,
         ⟨some 17, none, .bin .add (.t 16) (.c (.int .i64 1))⟩,
         ⟨some 18, none, .mv false (.t 0)⟩,
         ⟨some 19, none, .len false (.t 18)⟩,
         ⟨some 20, none, .bin .lss (.t 17) (.t 19)⟩,
         ⟨some 21, none, .mv false (.t 20)⟩,
         ⟨some 22, some (21, true), .mv false (.t 0)⟩,
         ⟨some 23, some (21, true), .mv false (.t 1)⟩,
         ⟨some 24, some (21, true), .iad 1 (.t 22) (.t 23)⟩,
         ⟨some 25, some (21, true), .ld 1 false false (.t 24)⟩,
         ⟨some 26, some (21, true), .bin .eql (.t 25) (.c (.int .u8 13))⟩,
         ⟨some 27, none, .pick (.t 21) (.t 26) (.c (.bool false))⟩,
         ⟨some 28, none, .mv false (.t 27)⟩,
         ⟨some 29, some (28, true), .mv false (.t 0)⟩,
         ⟨some 30, some (28, true), .mv false (.t 1)⟩,
         ⟨some 31, some (28, true), .bin .add (.t 30) (.c (.int .i64 1))⟩,
         ⟨some 32, some (28, true), .iad 1 (.t 29) (.t 31)⟩,
         ⟨some 33, some (28, true), .ld 1 false false (.t 32)⟩,
         ⟨some 34, some (28, true), .bin .eql (.t 33) (.c (.int .u8 10))⟩,
         ⟨some 35, none, .pick (.t 28) (.t 34) (.c (.bool false))⟩])
       (.cond (.t 35)
        (.seq
         (.region [
           ⟨some 4, none, .mv true (.c (.int .i64 2))⟩])
         .ret)
        .skip))
      (.seq
       (.region [
         ⟨some 4, none, .mv true (.c (.int .i64 0))⟩])
       .ret)))⟩
theorem t23 : compF Try.prog {} 23 = some p23 := by kernel_rfl
def p24 : PFn :=
  ⟨12, [.t 4], .seq
    (.region [
      ⟨some 4, none, .mv true (.c .nilf)⟩])
    (.seq
     (.seq
      (.region [
        ⟨some 5, none, .mv false (.t 1)⟩,
        ⟨some 6, none, .bin .eql (.t 5) (.c (.int .u8 34))⟩])
      (.cond (.t 6)
       (.seq
        (.region [
          ⟨some 7, none, .mv false (.t 0)⟩,
          ⟨some 8, none, .mkf (.func 30) [.t 7] []⟩,
          ⟨some 4, none, .mv true (.t 8)⟩])
        .ret)
       .skip))
     (.seq
      (.region [
        ⟨some 9, none, .mv false (.t 0)⟩,
        ⟨some 10, none, .mv false (.t 1)⟩,
        ⟨some 11, none, .callF 31 [.t 9, .t 10] []⟩,
        ⟨some 4, none, .mv true (.t 11)⟩])
      .ret))⟩
theorem t24 : compF Try.prog {} 24 = some p24 := by kernel_rfl
def p25 : PFn :=
  ⟨11, [.t 6], .seq
    (.region [
      ⟨some 6, none, .mv true (.c (.bool false))⟩])
    (.seq
     (.region [
       ⟨some 7, none, .mv false (.t 2)⟩,
       ⟨some 8, none, .mv false (.t 1)⟩,
       ⟨some 9, none, .bin .eql (.t 8) (.c (.int .u8 34))⟩,
       ⟨some 10, none, .binB true (.t 7) (.t 9)⟩,
       ⟨some 6, none, .mv true (.t 10)⟩])
     .ret)⟩
theorem t25 : compF Try.prog {} 25 = some p25 := by kernel_rfl
def p26 : PFn :=
  ⟨19, [], .draw [
     ⟨some 2, none, .mv false (.t 0)⟩,
     ⟨some 3, none, .mv false (.t 0)⟩,
     ⟨some 4, none, .mv false (.t 0)⟩,
     ⟨some 5, none, .nck (.t 4)⟩,
     ⟨some 6, none, .fad 0 (.t 5)⟩,
     ⟨some 7, none, .ld 1 false false (.t 6)⟩,
     ⟨some 8, none, .mv false (.t 0)⟩,
     ⟨some 9, none, .nck (.t 8)⟩,
     ⟨some 10, none, .fad 1 (.t 9)⟩,
     ⟨some 11, none, .ld 1 false false (.t 10)⟩,
     ⟨some 12, none, .cvS (.t 11)⟩,
     ⟨some 13, none, .bsl 1 1 false [.str []] [(0, .t 12)] false⟩,
     ⟨some 14, none, .app 1 16 (.t 7) (.t 13)⟩,
     ⟨some 15, none, .nck (.t 2)⟩,
     ⟨some 16, none, .fad 0 (.t 15)⟩,
     ⟨none, none, .sto 1 (.t 16) (.t 14)⟩,
     ⟨some 17, none, .nck (.t 3)⟩,
     ⟨some 18, none, .fad 1 (.t 17)⟩,
     ⟨none, none, .sto 1 (.t 18) (.c (.lst 0 [] true))⟩] []⟩
theorem t26 : compF Try.prog {} 26 = some p26 := by kernel_rfl
def p27 : PFn :=
  ⟨27, [.t 2], .seq
    (.region [
      ⟨some 2, none, .mv true (.c (.int .i64 0))⟩])
    (.seq
     (.region [
       ⟨some 6, none, .mv false (.t 0)⟩,
       ⟨some 7, none, .len false (.t 6)⟩,
       ⟨some 3, none, .mv true (.t 7)⟩])
     (.seq
      (.region [
        ⟨some 4, none, .mv true (.c (.int .i64 0))⟩])
      (.seq
       (.block 0
        (.loop
         (.seq
          (.seq
           (.region [
             ⟨some 8, none, .mv false (.t 4)⟩,
             ⟨some 9, none, .mv false (.t 3)⟩,
             ⟨some 10, none, .bin .lss (.t 8) (.t 9)⟩])
           (.cond (.t 10)
            .skip
            (.exit 0)))
          (.seq
           (.block 1
            (.seq
             (.region [
               ⟨some 13, none, .mv false (.t 0)⟩,
               ⟨some 14, none, .mv false (.t 4)⟩,
               ⟨some 15, none, .iad 1 (.t 13) (.t 14)⟩,
               ⟨some 16, none, .ld 1 false false (.t 15)⟩,
               ⟨some 5, none, .mv true (.t 16)⟩])
             (.seq
              (.region [
                ⟨some 17, none, .mv false (.t 5)⟩,
                ⟨some 18, none, .bin .geq (.t 17) (.c (.int .u8 128))⟩])
              (.cond (.t 18)
               (.seq
                (.region [
                  ⟨some 19, none, .mv false (.t 4)⟩,
                  ⟨some 20, none, .mv false (.t 0)⟩,
                  ⟨some 21, none, .mv false (.t 4)⟩,
                  ⟨some 22, none, .sli 1 (.t 20) (some (.t 21)) none none⟩,
                  ⟨some 23, none, .cvS (.t 22)⟩,
                  ⟨some 24, none, .callF 32 [.t 23] []⟩,
                  ⟨some 25, none, .bin .add (.t 19) (.t 24)⟩,
                  ⟨some 2, none, .mv true (.t 25)⟩])
                .ret)
               .skip))))
           (.region [
             ⟨some 11, none, .mv false (.t 4)⟩,
             ⟨some 12, none, .bin .add (.t 11) (.c (.int .i64 1))⟩,
             ⟨some 4, none, .mv true (.t 12)⟩])))))
       (.seq
        (.region [
          ⟨some 26, none, .mv true (.t 4)⟩,
          ⟨some 2, none, .mv true (.t 26)⟩])
        .ret))))⟩
theorem t27 : compF Try.prog {} 27 = some p27 := by kernel_rfl
def p29 : PFn :=
  ⟨200, [.t 4], .seq
    (.region [
      ⟨some 4, none, .mv true (.c (.int .i64 0))⟩])
    (.seq
     (.region [
       ⟨some 20, none, .mv false (.t 1)⟩,
       ⟨some 21, none, .len false (.t 20)⟩,
       ⟨some 5, none, .mv true (.t 21)⟩])
     (.seq
      (.block 0
       (.seq
        (.region [
          ⟨some 23, none, .mv false (.t 5)⟩,
          ⟨some 24, none, .bin .eql (.t 23) (.c (.int .i64 0))⟩,
          ⟨some 22, none, .mv true (.t 24)⟩])
        (.cond (.t 22)
         (.seq
          (.region [
            ⟨some 4, none, .mv true (.c (.int .i64 0))⟩])
          .ret)
         (.seq
          (.region [
            ⟨some 26, none, .mv false (.t 5)⟩,
            ⟨some 27, none, .bin .eql (.t 26) (.c (.int .i64 1))⟩,
            ⟨some 25, none, .mv true (.t 27)⟩])
          (.cond (.t 25)
           (.seq
            (.region [
              ⟨some 28, none, .mv false (.t 0)⟩,
              ⟨some 29, none, .mv false (.t 1)⟩,
              ⟨some 30, none, .iad 1 (.t 29) (.c (.int .i64 0))⟩,
              ⟨some 31, none, .ld 1 false false (.t 30)⟩,
              ⟨some 32, none, .callF 33 [.t 28, .t 31] []⟩,
              ⟨some 4, none, .mv true (.t 32)⟩])
            .ret)
           (.seq
            (.region [
              ⟨some 34, none, .mv false (.t 5)⟩,
              ⟨some 35, none, .mv false (.t 0)⟩,
              ⟨some 36, none, .len false (.t 35)⟩,
              ⟨some 37, none, .bin .eql (.t 34) (.t 36)⟩,
              ⟨some 33, none, .mv true (.t 37)⟩])
            (.cond (.t 33)
             (.seq
              (.seq
               (.region [
                 ⟨some 38, none, .mv false (.t 1)⟩,
                 ⟨some 39, none, .mv false (.t 0)⟩,
                 ⟨some 40, none, .callF 34 [.t 38, .t 39] []⟩])
               (.cond (.t 40)
                (.seq
                 (.region [
                   ⟨some 4, none, .mv true (.c (.int .i64 0))⟩])
                 .ret)
                .skip))
              (.seq
               (.region [
                 ⟨some 4, none, .mv true (.c (.int .i64 (-1)))⟩])
               .ret))
             (.seq
              (.region [
                ⟨some 42, none, .mv false (.t 5)⟩,
                ⟨some 43, none, .mv false (.t 0)⟩,
                ⟨some 44, none, .len false (.t 43)⟩,
                ⟨some 45, none, .bin .gtr (.t 42) (.t 44)⟩,
                ⟨some 41, none, .mv true (.t 45)⟩])
              (.cond (.t 41)
               (.seq
                (.region [
                  ⟨some 4, none, .mv true (.c (.int .i64 (-1)))⟩])
                .ret)
               (.seq
                (.region [
                  ⟨some 47, none, .mv false (.t 5)⟩,
                  ⟨some 48, none, .bad⟩,
                  ⟨some 49, none, .bin .leq (.t 47) (.t 48)⟩,
                  ⟨some 46, none, .mv true (.t 49)⟩])
                (.cond (.t 46)
                 (.seq
                  (.seq
                   (.region [
                     ⟨some 50, none, .mv false (.t 0)⟩,
                     ⟨some 51, none, .len false (.t 50)⟩,
                     ⟨some 52, none, .bin .leq (.t 51) (.c (.int .i64 64))⟩])
                   (.cond (.t 52)
                    (.seq
                     (.region [
                       ⟨some 53, none, .mv false (.t 0)⟩,
                       ⟨some 54, none, .mv false (.t 1)⟩,
                       ⟨some 55, none, .callF 35 [.t 53, .t 54] []⟩,
                       ⟨some 4, none, .mv true (.t 55)⟩])
                     .ret)
                    .skip))
                  (.seq
                   (.region [
                     ⟨some 56, none, .mv false (.t 1)⟩,
                     ⟨some 57, none, .iad 1 (.t 56) (.c (.int .i64 0))⟩,
                     ⟨some 58, none, .ld 1 false false (.t 57)⟩,
                     ⟨some 6, none, .mv true (.t 58)⟩])
                   (.seq
                    (.region [
                      ⟨some 59, none, .mv false (.t 1)⟩,
                      ⟨some 60, none, .iad 1 (.t 59) (.c (.int .i64 1))⟩,
                      ⟨some 61, none, .ld 1 false false (.t 60)⟩,
                      ⟨some 7, none, .mv true (.t 61)⟩])
                    (.seq
                     (.region [
                       ⟨some 8, none, .mv true (.c (.int .i64 0))⟩])
                     (.seq
                      (.region [
                        ⟨some 62, none, .mv false (.t 0)⟩,
                        ⟨some 63, none, .len false (.t 62)⟩,
                        ⟨some 64, none, .mv false (.t 5)⟩,
                        ⟨some 65, none, .bin .sub (.t 63) (.t 64)⟩,
                        ⟨some 66, none, .bin .add (.t 65) (.c (.int .i64 1))⟩,
                        ⟨some 9, none, .mv true (.t 66)⟩])
                      (.seq
                       (.region [
                         ⟨some 10, none, .mv true (.c (.int .i64 0))⟩])
                       (.seq
                        (.block 1
                         (.loop
                          (.seq
                           (.seq
                            (.region [
                              ⟨some 67, none, .mv false (.t 8)⟩,
                              ⟨some 68, none, .mv false (.t 9)⟩,
                              ⟨some 69, none, .bin .lss (.t 67) (.t 68)⟩])
                            (.cond (.t 69)
                             .skip
                             (.exit 1)))
                           (.block 2
                            (.seq
                             (.seq
                              (.region [
                                ⟨some 70, none, .mv false (.t 0)⟩,
                                ⟨some 71, none, .mv false (.t 8)⟩,
                                ⟨some 72, none, .iad 1 (.t 70) (.t 71)⟩,
                                ⟨some 73, none, .ld 1 false false (.t 72)⟩,
                                ⟨some 74, none, .mv false (.t 6)⟩,
                                ⟨some 75, none, .bin .neq (.t 73) (.t 74)⟩])
                              (.cond (.t 75)
                               (.seq
                                (.region [
                                  ⟨some 76, none, .mv false (.t 0)⟩,
                                  ⟨some 77, none, .mv false (.t 8)⟩,
                                  ⟨some 78, none, .bin .add (.t 77) (.c (.int .i64 1))⟩,
                                  ⟨some 79, none, .mv false (.t 9)⟩,
                                  ⟨some 80, none, .sli 1 (.t 76) (some (.t 78)) (some (.t 79)) none⟩,
                                  ⟨some 81, none, .mv false (.t 6)⟩,
                                  ⟨some 82, none, .callF 33 [.t 80, .t 81] []⟩,
                                  ⟨some 11, none, .mv true (.t 82)⟩])
                                (.seq
                                 (.seq
                                  (.region [
                                    ⟨some 83, none, .mv false (.t 11)⟩,
                                    ⟨some 84, none, .bin .lss (.t 83) (.c (.int .i64 0))⟩])
                                  (.cond (.t 84)
                                   (.seq
                                    (.region [
                                      ⟨some 4, none, .mv true (.c (.int .i64 (-1)))⟩])
                                    .ret)
                                   .skip))
                                 (.region [
                                   ⟨some 85, none, .mv false (.t 8)⟩,
                                   ⟨some 86, none, .mv false (.t 11)⟩,
                                   ⟨some 87, none, .bin .add (.t 86) (.c (.int .i64 1))⟩,
                                   ⟨some 88, none, .bin .add (.t 85) (.t 87)⟩,
                                   ⟨some 8, none, .mv true (.t 88)⟩])))
                               .skip))
                             (.seq
                              (.seq
                               (.region [
                                 ⟨some 89, none, .mv false (.t 0)⟩,
                                 ⟨some 90, none, .mv false (.t 8)⟩,
                                 ⟨some 91, none, .bin .add (.t 90) (.c (.int .i64 1))⟩,
                                 ⟨some 92, none, .iad 1 (.t 89) (.t 91)⟩,
                                 ⟨some 93, none, .ld 1 false false (.t 92)⟩,
                                 ⟨some 94, none, .mv false (.t 7)⟩,
                                 ⟨some 95, none, .bin .eql (.t 93) (.t 94)⟩,
                                 ⟨some 96, none, .mv false (.t 95)⟩,
                                 ⟨some 97, some (96, true), .mv false (.t 0)⟩,
                                 ⟨some 98, some (96, true), .mv false (.t 8)⟩,
                                 ⟨some 99, some (96, true), .mv false (.t 8)⟩,
                                 ⟨some 100, some (96, true), .mv false (.t 5)⟩,
                                 ⟨some 101, some (96, true), .bin .add (.t 99) (.t 100)⟩,
                                 ⟨some 102, some (96, true), .sli 1 (.t 97) (some (.t 98)) (some (.t 101)) none⟩,
                                 ⟨some 103, some (96, true), .mv false (.t 1)⟩,
                                 ⟨some 104, some (96, true), .callF 34 [.t 102, .t 103] []⟩,
                                 ⟨some 105, none, .pick (.t 96) (.t 104) (.c (.bool false))⟩])
                               (.cond (.t 105)
                                (.seq
                                 (.region [
                                   ⟨some 106, none, .mv true (.t 8)⟩,
                                   ⟨some 4, none, .mv true (.t 106)⟩])
                                 .ret)
                                .skip))
                              (.seq
                               (.region [
                                 ⟨some 107, none, .mv false (.t 10)⟩,
                                 ⟨some 108, none, .bin .add (.t 107) (.c (.int .i64 1))⟩,
                                 ⟨some 10, none, .mv true (.t 108)⟩])
                               (.seq
                                (.region [
                                  ⟨some 109, none, .mv false (.t 8)⟩,
                                  ⟨some 110, none, .bin .add (.t 109) (.c (.int .i64 1))⟩,
                                  ⟨some 8, none, .mv true (.t 110)⟩])
                                (.seq
                                 (.region [
                                   ⟨some 111, none, .mv false (.t 10)⟩,
                                   ⟨some 112, none, .mv false (.t 8)⟩,
                                   ⟨some 113, none, .callF 36 [.t 112] []⟩,
                                   ⟨some 114, none, .bin .gtr (.t 111) (.t 113)⟩])
                                 (.cond (.t 114)
                                  (.seq
                                   (.region [
                                     ⟨some 115, none, .mv false (.t 0)⟩,
                                     ⟨some 116, none, .mv false (.t 8)⟩,
                                     ⟨some 117, none, .sli 1 (.t 115) (some (.t 116)) none none⟩,
                                     ⟨some 118, none, .mv false (.t 1)⟩,
                                     ⟨some 119, none, .callF 35 [.t 117, .t 118] []⟩,
                                     ⟨some 12, none, .mv true (.t 119)⟩])
                                   (.seq
                                    (.seq
                                     (.region [
                                       ⟨some 120, none, .mv false (.t 12)⟩,
                                       ⟨some 121, none, .bin .geq (.t 120) (.c (.int .i64 0))⟩])
                                     (.cond (.t 121)
                                      (.seq
                                       (.region [
                                         ⟨some 122, none, .mv false (.t 12)⟩,
                                         ⟨some 123, none, .mv false (.t 8)⟩,
                                         ⟨some 124, none, .bin .add (.t 122) (.t 123)⟩,
                                         ⟨some 4, none, .mv true (.t 124)⟩])
                                       .ret)
                                      .skip))
                                    (.seq
                                     (.region [
                                       ⟨some 4, none, .mv true (.c (.int .i64 (-1)))⟩])
                                     .ret)))
                                  .skip))))))))))
                        (.seq
                         (.region [
                           ⟨some 4, none, .mv true (.c (.int .i64 (-1)))⟩])
                         .ret))))))))
                 .skip)))))))))))
      (.seq
       (.region [
         ⟨some 125, none, .mv false (.t 1)⟩,
         ⟨some 126, none, .iad 1 (.t 125) (.c (.int .i64 0))⟩,
         ⟨some 127, none, .ld 1 false false (.t 126)⟩,
         ⟨some 13, none, .mv true (.t 127)⟩])
       (.seq
        (.region [
          ⟨some 128, none, .mv false (.t 1)⟩,
          ⟨some 129, none, .iad 1 (.t 128) (.c (.int .i64 1))⟩,
          ⟨some 130, none, .ld 1 false false (.t 129)⟩,
          ⟨some 14, none, .mv true (.t 130)⟩])
        (.seq
         (.region [
           ⟨some 15, none, .mv true (.c (.int .i64 0))⟩])
         (.seq
          (.region [
            ⟨some 16, none, .mv true (.c (.int .i64 0))⟩])
          (.seq
           (.region [
             ⟨some 131, none, .mv false (.t 0)⟩,
             ⟨some 132, none, .len false (.t 131)⟩,
             ⟨some 133, none, .mv false (.t 5)⟩,
             ⟨some 134, none, .bin .sub (.t 132) (.t 133)⟩,
             ⟨some 135, none, .bin .add (.t 134) (.c (.int .i64 1))⟩,
             ⟨some 17, none, .mv true (.t 135)⟩])
           (.seq
            (.block 3
             (.loop
              (.seq
               (.seq
                (.region [
                  ⟨some 136, none, .mv false (.t 15)⟩,
                  ⟨some 137, none, .mv false (.t 17)⟩,
                  ⟨some 138, none, .bin .lss (.t 136) (.t 137)⟩])
                (.cond (.t 138)
                 .skip
                 (.exit 3)))
               (.block 4
                (.seq
                 (.seq
                  (.region [
                    ⟨some 139, none, .mv false (.t 0)⟩,
                    ⟨some 140, none, .mv false (.t 15)⟩,
                    ⟨some 141, none, .iad 1 (.t 139) (.t 140)⟩,
                    ⟨some 142, none, .ld 1 false false (.t 141)⟩,
                    ⟨some 143, none, .mv false (.t 13)⟩,
                    ⟨some 144, none, .bin .neq (.t 142) (.t 143)⟩])
                  (.cond (.t 144)
                   (.seq
                    (.region [
                      ⟨some 145, none, .mv false (.t 0)⟩,
                      ⟨some 146, none, .mv false (.t 15)⟩,
                      ⟨some 147, none, .bin .add (.t 146) (.c (.int .i64 1))⟩,
                      ⟨some 148, none, .mv false (.t 17)⟩,
                      ⟨some 149, none, .sli 1 (.t 145) (some (.t 147)) (some (.t 148)) none⟩,
                      ⟨some 150, none, .mv false (.t 13)⟩,
                      ⟨some 151, none, .callF 33 [.t 149, .t 150] []⟩,
                      ⟨some 18, none, .mv true (.t 151)⟩])
                    (.seq
                     (.seq
                      (.region [
                        ⟨some 152, none, .mv false (.t 18)⟩,
                        ⟨some 153, none, .bin .lss (.t 152) (.c (.int .i64 0))⟩])
                      (.cond (.t 153)
                       (.exit 3)
                       .skip))
                     (.region [
                       ⟨some 154, none, .mv false (.t 15)⟩,
                       ⟨some 155, none, .mv false (.t 18)⟩,
                       ⟨some 156, none, .bin .add (.t 155) (.c (.int .i64 1))⟩,
                       ⟨some 157, none, .bin .add (.t 154) (.t 156)⟩,
                       ⟨some 15, none, .mv true (.t 157)⟩])))
                   .skip))
                 (.seq
                  (.seq
                   (.region [
                     ⟨some 158, none, .mv false (.t 0)⟩,
                     ⟨some 159, none, .mv false (.t 15)⟩,
                     ⟨some 160, none, .bin .add (.t 159) (.c (.int .i64 1))⟩,
                     ⟨some 161, none, .iad 1 (.t 158) (.t 160)⟩,
                     ⟨some 162, none, .ld 1 false false (.t 161)⟩,
                     ⟨some 163, none, .mv false (.t 14)⟩,
                     ⟨some 164, none, .bin .eql (.t 162) (.t 163)⟩,
                     ⟨some 165, none, .mv false (.t 164)⟩,
                     ⟨some 166, some (165, true), .mv false (.t 0)⟩,
                     ⟨some 167, some (165, true), .mv false (.t 15)⟩,
                     ⟨some 168, some (165, true), .mv false (.t 15)⟩,
                     ⟨some 169, some (165, true), .mv false (.t 5)⟩,
                     ⟨some 170, some (165, true), .bin .add (.t 168) (.t 169)⟩,
                     ⟨some 171, some (165, true), .sli 1 (.t 166) (some (.t 167)) (some (.t 170)) none⟩,
                     ⟨some 172, some (165, true), .mv false (.t 1)⟩,
                     ⟨some 173, some (165, true), .callF 34 [.t 171, .t 172] []⟩,
                     ⟨some 174, none, .pick (.t 165) (.t 173) (.c (.bool false))⟩])
                   (.cond (.t 174)
                    (.seq
                     (.region [
                       ⟨some 175, none, .mv true (.t 15)⟩,
                       ⟨some 4, none, .mv true (.t 175)⟩])
                     .ret)
                    .skip))
                  (.seq
                   (.region [
                     ⟨some 176, none, .mv false (.t 15)⟩,
                     ⟨some 177, none, .bin .add (.t 176) (.c (.int .i64 1))⟩,
                     ⟨some 15, none, .mv true (.t 177)⟩])
                   (.seq
                    (.region [
                      ⟨some 178, none, .mv false (.t 16)⟩,
                      ⟨some 179, none, .bin .add (.t 178) (.c (.int .i64 1))⟩,
                      ⟨some 16, none, .mv true (.t 179)⟩])
                    (.seq
                     (.region [
                       ⟨some 180, none, .mv false (.t 16)⟩,
                       ⟨some 181, none, .mv false (.t 15)⟩,
                       ⟨some 182, none, .bin .shr (.t 181) (.c (.int .u64 4))⟩,
                       ⟨some 183, none, .bin .add (.c (.int .i64 4)) (.t 182)⟩,
                       ⟨some 184, none, .bin .geq (.t 180) (.t 183)⟩,
                       ⟨some 185, none, .mv false (.t 184)⟩,
                       ⟨some 186, some (185, true), .mv false (.t 15)⟩,
                       ⟨some 187, some (185, true), .mv false (.t 17)⟩,
                       ⟨some 188, some (185, true), .bin .lss (.t 186) (.t 187)⟩,
                       ⟨some 189, none, .pick (.t 185) (.t 188) (.c (.bool false))⟩])
                     (.cond (.t 189)
                      (.seq
                       (.region [
                         ⟨some 190, none, .mv false (.t 0)⟩,
                         ⟨some 191, none, .mv false (.t 15)⟩,
                         ⟨some 192, none, .sli 1 (.t 190) (some (.t 191)) none none⟩,
                         ⟨some 193, none, .mv false (.t 1)⟩,
                         ⟨some 194, none, .callF 37 [.t 192, .t 193] []⟩,
                         ⟨some 19, none, .mv true (.t 194)⟩])
                       (.seq
                        (.seq
                         (.region [
                           ⟨some 195, none, .mv false (.t 19)⟩,
                           ⟨some 196, none, .bin .lss (.t 195) (.c (.int .i64 0))⟩])
                         (.cond (.t 196)
                          (.seq
                           (.region [
                             ⟨some 4, none, .mv true (.c (.int .i64 (-1)))⟩])
                           .ret)
                          .skip))
                        (.seq
                         (.region [
                           ⟨some 197, none, .mv false (.t 15)⟩,
                           ⟨some 198, none, .mv false (.t 19)⟩,
                           ⟨some 199, none, .bin .add (.t 197) (.t 198)⟩,
                           ⟨some 4, none, .mv true (.t 199)⟩])
                         .ret)))
                      .skip))))))))))
            (.seq
             (.region [
               ⟨some 4, none, .mv true (.c (.int .i64 (-1)))⟩])
             .ret)))))))))⟩
theorem t29 : compF Try.prog {} 29 = some p29 := by kernel_rfl
def p30 : PFn :=
  ⟨14, [.t 4], .seq
    (.region [
      ⟨some 4, none, .mv true (.c .nilf)⟩])
    (.seq
     (.seq
      (.region [
        ⟨some 5, none, .mv false (.t 1)⟩,
        ⟨some 6, none, .bin .eql (.t 5) (.c (.int .u8 34))⟩])
      (.cond (.t 6)
       (.seq
        (.region [
          ⟨some 7, none, .mv false (.t 0)⟩,
          ⟨some 8, none, .mkf (.func 38) [.t 7] []⟩,
          ⟨some 4, none, .mv true (.t 8)⟩])
        .ret)
       .skip))
     (.seq
      (.region [
        ⟨some 9, none, .mv false (.t 0)⟩,
        ⟨some 10, none, .mv false (.t 1)⟩,
        ⟨some 11, none, .callF 39 [.t 9, .t 10] []⟩])
      (.seq
       (.region [
         ⟨some 12, none, .mv false (.t 0)⟩,
         ⟨some 13, none, .mkf (.func 30) [.t 12] []⟩,
         ⟨some 4, none, .mv true (.t 13)⟩])
       .ret)))⟩
theorem t30 : compF Try.prog {} 30 = some p30 := by kernel_rfl
def p31 : PFn :=
  ⟨23, [.t 4], .seq
    (.region [
      ⟨some 4, none, .mv true (.c .nilf)⟩])
    (.seq
     (.seq
      (.region [
        ⟨some 5, none, .mv false (.t 1)⟩])
      (.block 0
       (.seq
        (.seq
         (.region [
           ⟨some 7, none, .bin .eql (.t 5) (.c (.int .u8 44))⟩,
           ⟨some 6, none, .mv true (.t 7)⟩])
         (.cond (.t 6)
          .skip
          (.seq
           (.region [
             ⟨some 8, none, .bin .eql (.t 5) (.c (.int .u8 10))⟩,
             ⟨some 6, none, .mv true (.t 8)⟩])
           (.cond (.t 6)
            .skip
            (.region [
              ⟨some 9, none, .bin .eql (.t 5) (.c (.int .u8 13))⟩,
              ⟨some 6, none, .mv true (.t 9)⟩])))))
        (.cond (.t 6)
         (.seq
          (.region [
            ⟨some 10, none, .mv false (.t 0)⟩,
            ⟨some 11, none, .mv false (.t 1)⟩,
            ⟨some 12, none, .callF 40 [.t 10, .t 11] []⟩,
            ⟨some 4, none, .mv true (.t 12)⟩])
          .ret)
         (.seq
          (.region [
            ⟨some 14, none, .bin .eql (.t 5) (.c (.int .u8 34))⟩,
            ⟨some 13, none, .mv true (.t 14)⟩])
          (.cond (.t 13)
           (.seq
            (.region [
              ⟨some 15, none, .mv false (.t 0)⟩,
              ⟨some 16, none, .mv false (.t 1)⟩,
              ⟨some 17, none, .callF 41 [.t 15, .t 16] []⟩,
              ⟨some 4, none, .mv true (.t 17)⟩])
            .ret)
           .skip))))))
     (.seq
      (.region [
        ⟨some 18, none, .mv false (.t 0)⟩,
        ⟨some 19, none, .mv false (.t 1)⟩,
        ⟨some 20, none, .callF 39 [.t 18, .t 19] []⟩])
      (.seq
       (.region [
         ⟨some 21, none, .mv false (.t 0)⟩,
         ⟨some 22, none, .mkf (.func 31) [.t 21] []⟩,
         ⟨some 4, none, .mv true (.t 22)⟩])
       .ret)))⟩
theorem t31 : compF Try.prog {} 31 = some p31 := by kernel_rfl
def p32 : PFn :=
  ⟨10, [.t 2], .seq
    (.region [
      ⟨some 2, none, .mv true (.c (.int .i64 0))⟩])
    (.seq
     (.seq
      (.region [
        ⟨some 3, none, .mv false (.t 0)⟩,
        ⟨some 4, none, .bad⟩])
      (.block 0
       (.loop
        (.seq
         (.region [
           ⟨some 5, none, .bad⟩,
           ⟨some 6, none, .ext false (.t 5) 0⟩])
         (.seq
          (.cond (.t 6)
           .skip
           (.exit 0))
          (.block 1
           (.region [
             ⟨some 7, none, .mv false (.t 2)⟩,
             ⟨some 8, none, .bin .add (.t 7) (.c (.int .i64 1))⟩,
             ⟨some 2, none, .mv true (.t 8)⟩])))))))
     (.seq
      (.region [
        ⟨some 9, none, .mv true (.t 2)⟩,
        ⟨some 2, none, .mv true (.t 9)⟩])
      .ret))⟩
theorem t32 : compF Try.prog {} 32 = some p32 := by kernel_rfl
def p33 : PFn :=
  ⟨8, [.t 4], .seq
    (.region [
      ⟨some 4, none, .mv true (.c (.int .i64 0))⟩])
    (.seq
     (.region [
       ⟨some 5, none, .mv false (.t 0)⟩,
       ⟨some 6, none, .mv false (.t 1)⟩,
       ⟨some 7, none, .callF 42 [.t 5, .t 6] []⟩,
       ⟨some 4, none, .mv true (.t 7)⟩])
     .ret)⟩
theorem t33 : compF Try.prog {} 33 = some p33 := by kernel_rfl
def p34 : PFn :=
  ⟨10, [.t 4], .seq
    (.region [
      ⟨some 4, none, .mv true (.c (.bool false))⟩])
    (.seq
     (.region [
       ⟨some 5, none, .mv false (.t 0)⟩,
       ⟨some 6, none, .cvS (.t 5)⟩,
       ⟨some 7, none, .mv false (.t 1)⟩,
       ⟨some 8, none, .cvS (.t 7)⟩,
       ⟨some 9, none, .bin .eql (.t 6) (.t 8)⟩,
       ⟨some 4, none, .mv true (.t 9)⟩])
     .ret)⟩
theorem t34 : compF Try.prog {} 34 = some p34 := by kernel_rfl
def p36 : PFn :=
  ⟨6, [.t 2], .seq
    (.region [
      ⟨some 2, none, .mv true (.c (.int .i64 0))⟩])
    (.seq
     (.region [
       ⟨some 3, none, .mv false (.t 0)⟩,
       ⟨some 4, none, .bin .add (.t 3) (.c (.int .i64 16))⟩,
       ⟨some 5, none, .bin .quo (.t 4) (.c (.int .i64 8))⟩,
       ⟨some 2, none, .mv true (.t 5)⟩])
     .ret)⟩
theorem t36 : compF Try.prog {} 36 = some p36 := by kernel_rfl
def p37 : PFn :=
  ⟨88, [.t 4], .seq
    (.region [
      ⟨some 4, none, .mv true (.c (.int .i64 0))⟩])
    (.seq
     (.region [
       ⟨some 12, none, .mv false (.t 1)⟩,
       ⟨some 13, none, .callF 43 [.t 12] []⟩,
       ⟨some 11, none, .mv true (.t 13)⟩,
       ⟨some 14, none, .ext false (.t 11) 0⟩,
       ⟨some 15, none, .ext false (.t 11) 1⟩,
       ⟨some 5, none, .mv true (.t 14)⟩,
       ⟨some 6, none, .mv true (.t 15)⟩])
     (.seq
      (.region [
        ⟨some 16, none, .mv false (.t 1)⟩,
        ⟨some 17, none, .len false (.t 16)⟩,
        ⟨some 7, none, .mv true (.t 17)⟩])
      (.seq
       (.region [
         ⟨some 8, none, .mv true (.c (.int .u32 0))⟩])
       (.seq
        (.seq
         (.region [
           ⟨some 9, none, .mv true (.c (.int .i64 0))⟩])
         (.block 0
          (.loop
           (.seq
            (.seq
             (.region [
               ⟨some 18, none, .mv false (.t 9)⟩,
               ⟨some 19, none, .mv false (.t 7)⟩,
               ⟨some 20, none, .bin .lss (.t 18) (.t 19)⟩])
             (.cond (.t 20)
              .skip
              (.exit 0)))
            (.seq
             (.block 1
              (.region [
                ⟨some 23, none, .mv false (.t 8)⟩,
                ⟨some 24, none, .bin .mul (.t 23) (.c (.int .u32 16777619))⟩,
                ⟨some 25, none, .mv false (.t 0)⟩,
                ⟨some 26, none, .mv false (.t 9)⟩,
                ⟨some 27, none, .iad 1 (.t 25) (.t 26)⟩,
                ⟨some 28, none, .ld 1 false false (.t 27)⟩,
                ⟨some 29, none, .cvI .u32 (.t 28)⟩,
                ⟨some 30, none, .bin .add (.t 24) (.t 29)⟩,
                ⟨some 8, none, .mv true (.t 30)⟩]))
             (.region [
               ⟨some 21, none, .mv false (.t 9)⟩,
               ⟨some 22, none, .bin .add (.t 21) (.c (.int .i64 1))⟩,
               ⟨some 9, none, .mv true (.t 22)⟩]))))))
        (.seq
         (.seq
          (.draw [
            ⟨some 31, none, .mv false (.t 8)⟩,
            ⟨some 32, none, .mv false (.t 5)⟩,
            ⟨some 33, none, .bin .eql (.t 31) (.t 32)⟩,
            ⟨some 34, none, .mv false (.t 33)⟩,
            ⟨some 35, some (34, true), .mv false (.t 0)⟩,
            ⟨some 36, some (34, true), .mv false (.t 7)⟩,
            ⟨some 37, some (34, true), .sli 1 (.t 35) none (some (.t 36)) none⟩,
            ⟨some 38, some (34, true), .cvS (.t 37)⟩,
            ⟨some 39, some (34, true), .mv false (.t 1)⟩,
            ⟨some 40, some (34, true), .cvS (.t 39)⟩,
            ⟨some 41, some (34, true), .bin .eql (.t 38) (.t 40)⟩,
            ⟨some 42, none, .pick (.t 34) (.t 41) (.c (.bool false))⟩] [])
          (.cond (.t 42)
           (.seq
            (.region [
              ⟨some 4, none, .mv true (.c (.int .i64 0))⟩])
            .ret)
           .skip))
         (.seq
          (.seq
           (.region [
             ⟨some 43, none, .mv true (.t 7)⟩,
             ⟨some 10, none, .mv true (.t 43)⟩])
           (.block 2
            (.loop
             (.seq
              (.seq
               (.region [
                 ⟨some 44, none, .mv false (.t 10)⟩,
                 ⟨some 45, none, .mv false (.t 0)⟩,
                 ⟨some 46, none, .len false (.t 45)⟩,
                 ⟨some 47, none, .bin .lss (.t 44) (.t 46)⟩])
               (.cond (.t 47)
                .skip
                (.exit 2)))
              (.block 3
               (.seq
                (.region [
                  ⟨some 48, none, .mv false (.t 8)⟩,
                  ⟨some 49, none, .bin .mul (.t 48) (.c (.int .u32 16777619))⟩,
                  ⟨some 8, none, .mv true (.t 49)⟩])
                (.seq
                 (.region [
                   ⟨some 50, none, .mv false (.t 8)⟩,
                   ⟨some 51, none, .mv false (.t 0)⟩,
                   ⟨some 52, none, .mv false (.t 10)⟩,
                   ⟨some 53, none, .iad 1 (.t 51) (.t 52)⟩,
                   ⟨some 54, none, .ld 1 false false (.t 53)⟩,
                   ⟨some 55, none, .cvI .u32 (.t 54)⟩,
                   ⟨some 56, none, .bin .add (.t 50) (.t 55)⟩,
                   ⟨some 8, none, .mv true (.t 56)⟩])
                 (.seq
                  (.region [
                    ⟨some 57, none, .mv false (.t 8)⟩,
                    ⟨some 58, none, .mv false (.t 6)⟩,
                    ⟨some 59, none, .mv false (.t 0)⟩,
                    ⟨some 60, none, .mv false (.t 10)⟩,
                    ⟨some 61, none, .mv false (.t 7)⟩,
                    ⟨some 62, none, .bin .sub (.t 60) (.t 61)⟩,
                    ⟨some 63, none, .iad 1 (.t 59) (.t 62)⟩,
                    ⟨some 64, none, .ld 1 false false (.t 63)⟩,
                    ⟨some 65, none, .cvI .u32 (.t 64)⟩,
                    ⟨some 66, none, .bin .mul (.t 58) (.t 65)⟩,
                    ⟨some 67, none, .bin .sub (.t 57) (.t 66)⟩,
                    ⟨some 8, none, .mv true (.t 67)⟩])
                  (.seq
                   (.region [
                     ⟨some 68, none, .mv false (.t 10)⟩,
                     ⟨some 69, none, .bin .add (.t 68) (.c (.int .i64 1))⟩,
                     ⟨some 10, none, .mv true (.t 69)⟩])
                   (.seq
                    (.draw [
                      ⟨some 70, none, .mv false (.t 8)⟩,
                      ⟨some 71, none, .mv false (.t 5)⟩,
                      ⟨some 72, none, .bin .eql (.t 70) (.t 71)⟩,
                      ⟨some 73, none, .mv false (.t 72)⟩,
                      ⟨some 74, some (73, true), .mv false (.t 0)⟩,
                      ⟨some 75, some (73, true), .mv false (.t 10)⟩,
                      ⟨some 76, some (73, true), .mv false (.t 7)⟩,
                      ⟨some 77, some (73, true), .bin .sub (.t 75) (.t 76)⟩,
                      ⟨some 78, some (73, true), .mv false (.t 10)⟩,
                      ⟨some 79, some (73, true), .sli 1 (.t 74) (some (.t 77)) (some (.t 78)) none⟩,
                      ⟨some 80, some (73, true), .cvS (.t 79)⟩,
                      ⟨some 81, some (73, true), .mv false (.t 1)⟩,
                      ⟨some 82, some (73, true), .cvS (.t 81)⟩,
                      ⟨some 83, some (73, true), .bin .eql (.t 80) (.t 82)⟩,
                      ⟨some 84, none, .pick (.t 73) (.t 83) (.c (.bool false))⟩] [])
                    (.cond (.t 84)
                     (.seq
                      (.region [
                        ⟨some 85, none, .mv false (.t 10)⟩,
                        ⟨some 86, none, .mv false (.t 7)⟩,
                        ⟨some 87, none, .bin .sub (.t 85) (.t 86)⟩,
                        ⟨some 4, none, .mv true (.t 87)⟩])
                      .ret)
                     .skip)))))))))))
          (.seq
           (.region [
             ⟨some 4, none, .mv true (.c (.int .i64 (-1)))⟩])
           .ret)))))))⟩
theorem t37 : compF Try.prog {} 37 = some p37 := by kernel_rfl
def p38 : PFn :=
  ⟨15, [.t 4], .seq
    (.region [
      ⟨some 4, none, .mv true (.c .nilf)⟩])
    (.seq
     (.seq
      (.region [
        ⟨some 5, none, .mv false (.t 1)⟩,
        ⟨some 6, none, .bin .eql (.t 5) (.c (.int .u8 34))⟩])
      (.cond (.t 6)
       (.seq
        (.region [
          ⟨some 7, none, .mv false (.t 0)⟩,
          ⟨some 8, none, .mv false (.t 1)⟩,
          ⟨some 9, none, .callF 39 [.t 7, .t 8] []⟩])
        (.seq
         (.region [
           ⟨some 10, none, .mv false (.t 0)⟩,
           ⟨some 11, none, .mkf (.func 30) [.t 10] []⟩,
           ⟨some 4, none, .mv true (.t 11)⟩])
         .ret))
       .skip))
     (.seq
      (.region [
        ⟨some 12, none, .mv false (.t 0)⟩,
        ⟨some 13, none, .mv false (.t 1)⟩,
        ⟨some 14, none, .callF 40 [.t 12, .t 13] []⟩,
        ⟨some 4, none, .mv true (.t 14)⟩])
      .ret))⟩
theorem t38 : compF Try.prog {} 38 = some p38 := by kernel_rfl
def p39 : PFn :=
  ⟨23, [], .seq
    (.region [
      ⟨some 4, none, .mv false (.t 0)⟩,
      ⟨some 5, none, .mv false (.t 0)⟩,
      ⟨some 6, none, .nck (.t 5)⟩,
      ⟨some 7, none, .fad 1 (.t 6)⟩,
      ⟨some 8, none, .ld 1 false false (.t 7)⟩,
      ⟨some 9, none, .mv false (.t 1)⟩,
      ⟨some 10, none, .bsl 1 1 false [.int .u8 0] [(0, .t 9)] false⟩,
      ⟨some 11, none, .app 1 1 (.t 8) (.t 10)⟩,
      ⟨some 12, none, .nck (.t 4)⟩,
      ⟨some 13, none, .fad 1 (.t 12)⟩,
      ⟨none, none, .sto 1 (.t 13) (.t 11)⟩])
    (.seq
     (.region [
       ⟨some 14, none, .mv false (.t 0)⟩,
       ⟨some 15, none, .nck (.t 14)⟩,
       ⟨some 16, none, .fad 1 (.t 15)⟩,
       ⟨some 17, none, .ld 1 false false (.t 16)⟩,
       ⟨some 18, none, .len false (.t 17)⟩,
       ⟨some 19, none, .bin .gtr (.t 18) (.c (.int .i64 1000))⟩])
     (.cond (.t 19)
      (.region [
        ⟨some 20, none, .mv false (.t 0)⟩,
        ⟨some 21, none, .nck (.t 20)⟩,
        ⟨some 22, none, .fad 3 (.t 21)⟩,
        ⟨none, none, .sto 1 (.t 22) (.c (.int .i64 5))⟩])
      .skip))⟩
theorem t39 : compF Try.prog {} 39 = some p39 := by kernel_rfl
def p40 : PFn :=
  ⟨35, [.t 4], .seq
    (.region [
      ⟨some 4, none, .mv true (.c .nilf)⟩])
    (.seq
     (.seq
      (.region [
        ⟨some 5, none, .mv false (.t 1)⟩])
      (.block 0
       (.seq
        (.region [
          ⟨some 7, none, .bin .eql (.t 5) (.c (.int .u8 44))⟩,
          ⟨some 6, none, .mv true (.t 7)⟩])
        (.cond (.t 6)
         (.seq
          (.region [
            ⟨some 8, none, .mv false (.t 0)⟩,
            ⟨some 9, none, .callF 26 [.t 8] []⟩])
          (.seq
           (.seq
            (.region [
              ⟨some 10, none, .mv false (.t 0)⟩,
              ⟨some 11, none, .nck (.t 10)⟩,
              ⟨some 12, none, .fad 0 (.t 11)⟩,
              ⟨some 13, none, .ld 1 false false (.t 12)⟩,
              ⟨some 14, none, .len false (.t 13)⟩,
              ⟨some 15, none, .bin .eql (.t 14) (.c (.int .i64 50))⟩])
            (.cond (.t 15)
             (.region [
               ⟨some 16, none, .mv false (.t 0)⟩,
               ⟨some 17, none, .nck (.t 16)⟩,
               ⟨some 18, none, .fad 3 (.t 17)⟩,
               ⟨none, none, .sto 1 (.t 18) (.c (.int .i64 5))⟩])
             .skip))
           (.seq
            (.region [
              ⟨some 19, none, .mv false (.t 0)⟩,
              ⟨some 20, none, .mkf (.func 24) [.t 19] []⟩,
              ⟨some 4, none, .mv true (.t 20)⟩])
            .ret)))
         (.seq
          (.region [
            ⟨some 22, none, .bin .eql (.t 5) (.c (.int .u8 10))⟩,
            ⟨some 21, none, .mv true (.t 22)⟩])
          (.cond (.t 21)
           (.seq
            (.region [
              ⟨some 23, none, .mv false (.t 0)⟩,
              ⟨some 24, none, .callF 26 [.t 23] []⟩])
            (.seq
             (.region [
               ⟨some 25, none, .mv false (.t 0)⟩,
               ⟨some 26, none, .nck (.t 25)⟩,
               ⟨some 27, none, .fad 2 (.t 26)⟩,
               ⟨none, none, .sto 1 (.t 27) (.c (.bool true))⟩])
             (.seq
              (.region [
                ⟨some 4, none, .mv true (.c .nilf)⟩])
              .ret)))
           (.seq
            (.region [
              ⟨some 29, none, .bin .eql (.t 5) (.c (.int .u8 13))⟩,
              ⟨some 28, none, .mv true (.t 29)⟩])
            (.cond (.t 28)
             (.seq
              (.region [
                ⟨some 30, none, .mv false (.t 0)⟩,
                ⟨some 31, none, .mkf (.func 44) [.t 30] []⟩,
                ⟨some 4, none, .mv true (.t 31)⟩])
              .ret)
             .skip))))))))
     (.seq
      (.region [
        ⟨some 32, none, .mv false (.t 0)⟩,
        ⟨some 33, none, .mv false (.t 1)⟩,
        ⟨some 34, none, .callF 41 [.t 32, .t 33] []⟩,
        ⟨some 4, none, .mv true (.t 34)⟩])
      .ret))⟩
theorem t40 : compF Try.prog {} 40 = some p40 := by kernel_rfl
def p41 : PFn :=
  ⟨10, [.t 4], .seq
    (.region [
      ⟨some 4, none, .mv true (.c .nilf)⟩])
    (.seq
     (.region [
       ⟨some 5, none, .mv false (.t 0)⟩,
       ⟨some 6, none, .nck (.t 5)⟩,
       ⟨some 7, none, .fad 3 (.t 6)⟩,
       ⟨none, none, .sto 1 (.t 7) (.c (.int .i64 3))⟩])
     (.seq
      (.region [
        ⟨some 8, none, .mv false (.t 0)⟩,
        ⟨some 9, none, .mkf (.func 41) [.t 8] []⟩,
        ⟨some 4, none, .mv true (.t 9)⟩])
      .ret))⟩
theorem t41 : compF Try.prog {} 41 = some p41 := by kernel_rfl
def p43 : PFn :=
  ⟨40, [.t 2, .t 3], .seq
    (.region [
      ⟨some 2, none, .mv true (.c (.int .u32 0))⟩,
      ⟨some 3, none, .mv true (.c (.int .u32 0))⟩])
    (.seq
     (.region [
       ⟨some 4, none, .mv true (.c (.int .u32 0))⟩])
     (.seq
      (.seq
       (.region [
         ⟨some 5, none, .mv true (.c (.int .i64 0))⟩])
       (.block 0
        (.loop
         (.seq
          (.seq
           (.region [
             ⟨some 9, none, .mv false (.t 5)⟩,
             ⟨some 10, none, .mv false (.t 0)⟩,
             ⟨some 11, none, .len false (.t 10)⟩,
             ⟨some 12, none, .bin .lss (.t 9) (.t 11)⟩])
           (.cond (.t 12)
            .skip
            (.exit 0)))
          (.seq
           (.block 1
            (.region [
              ⟨some 15, none, .mv false (.t 4)⟩,
              ⟨some 16, none, .bin .mul (.t 15) (.c (.int .u32 16777619))⟩,
              ⟨some 17, none, .mv false (.t 0)⟩,
              ⟨some 18, none, .mv false (.t 5)⟩,
              ⟨some 19, none, .iad 1 (.t 17) (.t 18)⟩,
              ⟨some 20, none, .ld 1 false false (.t 19)⟩,
              ⟨some 21, none, .cvI .u32 (.t 20)⟩,
              ⟨some 22, none, .bin .add (.t 16) (.t 21)⟩,
              ⟨some 4, none, .mv true (.t 22)⟩]))
           (.region [
             ⟨some 13, none, .mv false (.t 5)⟩,
             ⟨some 14, none, .bin .add (.t 13) (.c (.int .i64 1))⟩,
             ⟨some 5, none, .mv true (.t 14)⟩]))))))
      (.seq
       (.region [
         ⟨some 6, none, .mv true (.c (.int .u32 1))⟩,
         ⟨some 7, none, .mv true (.c (.int .u32 16777619))⟩])
       (.seq
        (.seq
         (.region [
           ⟨some 23, none, .mv false (.t 0)⟩,
           ⟨some 24, none, .len false (.t 23)⟩,
           ⟨some 8, none, .mv true (.t 24)⟩])
         (.block 2
          (.loop
           (.seq
            (.seq
             (.region [
               ⟨some 25, none, .mv false (.t 8)⟩,
               ⟨some 26, none, .bin .gtr (.t 25) (.c (.int .i64 0))⟩])
             (.cond (.t 26)
              .skip
              (.exit 2)))
            (.seq
             (.block 3
              (.seq
               (.seq
                (.region [
                  ⟨some 29, none, .mv false (.t 8)⟩,
                  ⟨some 30, none, .bin .and (.t 29) (.c (.int .i64 1))⟩,
                  ⟨some 31, none, .bin .neq (.t 30) (.c (.int .i64 0))⟩])
                (.cond (.t 31)
                 (.region [
                   ⟨some 32, none, .mv false (.t 6)⟩,
                   ⟨some 33, none, .mv false (.t 7)⟩,
                   ⟨some 34, none, .bin .mul (.t 32) (.t 33)⟩,
                   ⟨some 6, none, .mv true (.t 34)⟩])
                 .skip))
               (.region [
                 ⟨some 35, none, .mv false (.t 7)⟩,
                 ⟨some 36, none, .mv false (.t 7)⟩,
                 ⟨some 37, none, .bin .mul (.t 35) (.t 36)⟩,
                 ⟨some 7, none, .mv true (.t 37)⟩])))
             (.region [
               ⟨some 27, none, .mv false (.t 8)⟩,
               ⟨some 28, none, .bin .shr (.t 27) (.c (.int .u64 1))⟩,
               ⟨some 8, none, .mv true (.t 28)⟩]))))))
        (.seq
         (.region [
           ⟨some 38, none, .mv true (.t 4)⟩,
           ⟨some 39, none, .mv true (.t 6)⟩,
           ⟨some 2, none, .mv true (.t 38)⟩,
           ⟨some 3, none, .mv true (.t 39)⟩])
         .ret)))))⟩
theorem t43 : compF Try.prog {} 43 = some p43 := by kernel_rfl
def p44 : PFn :=
  ⟨13, [.t 4], .seq
    (.region [
      ⟨some 4, none, .mv true (.c .nilf)⟩])
    (.seq
     (.seq
      (.region [
        ⟨some 5, none, .mv false (.t 1)⟩,
        ⟨some 6, none, .bin .neq (.t 5) (.c (.int .u8 10))⟩])
      (.cond (.t 6)
       (.seq
        (.region [
          ⟨some 7, none, .mv false (.t 0)⟩,
          ⟨some 8, none, .mv false (.t 1)⟩,
          ⟨some 9, none, .callF 41 [.t 7, .t 8] []⟩,
          ⟨some 4, none, .mv true (.t 9)⟩])
        .ret)
       .skip))
     (.seq
      (.region [
        ⟨some 10, none, .mv false (.t 0)⟩,
        ⟨some 11, none, .mv false (.t 1)⟩,
        ⟨some 12, none, .callF 40 [.t 10, .t 11] []⟩,
        ⟨some 4, none, .mv true (.t 12)⟩])
      .ret))⟩
theorem t44 : compF Try.prog {} 44 = some p44 := by kernel_rfl
def p39l : PFn :=
  ⟨23, [], .seq
    (.region [
      ⟨some 4, none, .mv false (.t 0)⟩,
      ⟨some 5, none, .mv false (.t 0)⟩,
      ⟨some 6, none, .nck (.t 5)⟩,
      ⟨some 7, none, .fad 1 (.t 6)⟩,
      ⟨some 8, none, .ld 1 false true (.t 7)⟩,
      ⟨some 9, none, .mv false (.t 1)⟩,
      ⟨some 10, none, .bsl 1 1 false [.int .u8 0] [(0, .t 9)] false⟩,
      ⟨some 11, none, .app 1 1 (.t 8) (.t 10)⟩,
      ⟨some 12, none, .nck (.t 4)⟩,
      ⟨some 13, none, .fad 1 (.t 12)⟩,
      ⟨none, none, .sto 1 (.t 13) (.t 11)⟩])
    (.seq
     (.region [
       ⟨some 14, none, .mv false (.t 0)⟩,
       ⟨some 15, none, .nck (.t 14)⟩,
       ⟨some 16, none, .fad 1 (.t 15)⟩,
       ⟨some 17, none, .ld 1 false false (.t 16)⟩,
       ⟨some 18, none, .len false (.t 17)⟩,
       ⟨some 19, none, .bin .gtr (.t 18) (.c (.int .i64 1000))⟩])
     (.cond (.t 19)
      (.region [
        ⟨some 20, none, .mv false (.t 0)⟩,
        ⟨some 21, none, .nck (.t 20)⟩,
        ⟨some 22, none, .fad 3 (.t 21)⟩,
        ⟨none, none, .sto 1 (.t 22) (.c (.int .i64 5))⟩])
      .skip))⟩
theorem t39l : compF Try.prog { loads := [8] } 39 = some p39l := by kernel_rfl
def p26l : PFn :=
  ⟨19, [], .draw [
     ⟨some 2, none, .mv false (.t 0)⟩,
     ⟨some 3, none, .mv false (.t 0)⟩,
     ⟨some 4, none, .mv false (.t 0)⟩,
     ⟨some 5, none, .nck (.t 4)⟩,
     ⟨some 6, none, .fad 0 (.t 5)⟩,
     ⟨some 7, none, .ld 1 false true (.t 6)⟩,
     ⟨some 8, none, .mv false (.t 0)⟩,
     ⟨some 9, none, .nck (.t 8)⟩,
     ⟨some 10, none, .fad 1 (.t 9)⟩,
     ⟨some 11, none, .ld 1 false false (.t 10)⟩,
     ⟨some 12, none, .cvS (.t 11)⟩,
     ⟨some 13, none, .bsl 1 1 false [.str []] [(0, .t 12)] false⟩,
     ⟨some 14, none, .app 1 16 (.t 7) (.t 13)⟩,
     ⟨some 15, none, .nck (.t 2)⟩,
     ⟨some 16, none, .fad 0 (.t 15)⟩,
     ⟨none, none, .sto 1 (.t 16) (.t 14)⟩,
     ⟨some 17, none, .nck (.t 3)⟩,
     ⟨some 18, none, .fad 1 (.t 17)⟩,
     ⟨none, none, .sto 1 (.t 18) (.c (.lst 0 [] true))⟩] [(9, 5)]⟩
theorem t26l : compF Try.prog { loads := [7] } 26 = some p26l := by kernel_rfl
def tab : List (Nat × PFn) := [(2, p2), (3, p3), (4, p4), (5, p5), (6, p6), (7, p7), (8, p8), (9, p9), (10, p10), (11, p11), (12, p12), (13, p13), (14, p14), (15, p15), (16, p16), (17, p17), (18, p18), (19, p19), (20, p20), (21, p21), (22, p22), (23, p23), (24, p24), (25, p25), (26, p26), (27, p27), (29, p29), (30, p30), (31, p31), (32, p32), (33, p33), (34, p34), (36, p36), (37, p37), (38, p38), (39, p39), (40, p40), (41, p41), (43, p43), (44, p44)]
theorem tabOk : TabOk Try.prog tab := .cons t2 <| .cons t3 <| .cons t4 <| .cons t5 <| .cons t6 <| .cons t7 <| .cons t8 <| .cons t9 <| .cons t10 <| .cons t11 <| .cons t12 <| .cons t13 <| .cons t14 <| .cons t15 <| .cons t16 <| .cons t17 <| .cons t18 <| .cons t19 <| .cons t20 <| .cons t21 <| .cons t22 <| .cons t23 <| .cons t24 <| .cons t25 <| .cons t26 <| .cons t27 <| .cons t29 <| .cons t30 <| .cons t31 <| .cons t32 <| .cons t33 <| .cons t34 <| .cons t36 <| .cons t37 <| .cons t38 <| .cons t39 <| .cons t40 <| .cons t41 <| .cons t43 <| .cons t44 <| .nil
theorem hmix : Try.prog.follows .mixedOrders = true := by kernel_rfl
theorem good (n d : Nat) : Good Try.prog (evF (tabOf tab) noPrim n d) := evF_sound hmix tabOk noPrim_good d
end Go.Proofs.Ytdphjapaoaokmaa.E
/- Bytes as data: turned into strings, and cloned. -/
namespace Go.Proofs.Ytdphjapaoaokmaa.E
open Go Go.RowKit Go.Proofs
set_option linter.unusedVariables false
set_option linter.unusedSimpArgs false
theorem ci_u8 (l : List Nat) : (ci l).map (PV.int .u8) = l.map u8 := by simp [ci, Function.comp_def, u8]
theorem ci_len (l : List Nat) : (ci l).length = l.length := List.length_map ..
attribute [simp] ci_u8 ci_len
theorem toInts_u8 : ∀ l : List Nat, toInts (l.map u8) = some (ci l)
  | [] => rfl
  | x :: l => by simp [toInts, toInts_u8 l, ci]
theorem norm_ci {l : List Nat} (hw : ∀ x ∈ l, x < 256) : (ci l).map norm8 = ci l := by
  simp only [ci, List.map_map]
  refine List.map_congr_left fun x hx => ?_
  have := hw x hx
  simp only [Function.comp_apply]
  exact norm8_of (by omega)
theorem cvS_u8 {s : Nat} {xs : List PV} {o : Bool} {l : List Nat} (hx : xs = l.map u8) (hs : s = 1 ∨ l.length = 0) (hw : ∀ x ∈ l, x < 256) : cvSP (.lst s xs o) = some (.str (ci l)) := by
  subst hx
  have h1 : s = 1 ∨ (l.map u8).isEmpty = true := hs.imp id fun h => by rw [List.length_eq_zero_iff.1 h]; rfl
  simp only [cvSP, if_pos h1, toInts_u8, Option.map_some, norm_ci hw]
theorem ci_iff {a b : List Nat} : ci a = ci b ↔ a = b := ⟨ci_inj, fun h => by rw [h]⟩
attribute [simp] ci_iff ci_nil
end Go.Proofs.Ytdphjapaoaokmaa.E
/- A reader of fields between commas, byte by byte. -/
namespace Go.Proofs.Ytdphjapaoaokmaa.E
open Go Go.RowKit Go.Proofs
set_option linter.unusedVariables false
set_option linter.unusedSimpArgs false
theorem mix06 : Try.prog.follows .mixedOrders = true := by kernel_rfl
inductive Md where
  | begin | plain | quoted | closed | ended | wrong | none
  deriving DecidableEq
structure Rs where
  m : Md
  out : List (List Nat)
  cur : List Nat
  done : Bool
  e : Nat
def behindM (out : List (List Nat)) (cur : List Nat) (c : Nat) : Rs :=
  if c = 44 then ⟨.begin, out ++ [cur], [], false, if out.length + 1 = 50 then 5 else 0⟩
  else if c = 10 then ⟨.none, out ++ [cur], [], true, 0⟩
  else if c = 13 then ⟨.ended, out, cur, false, 0⟩
  else ⟨.wrong, out, cur, false, 3⟩
def addM (m : Md) (out : List (List Nat)) (cur : List Nat) (c : Nat) : Rs := ⟨m, out, cur ++ [c], false, if 1000 < cur.length + 1 then 5 else 0⟩
def plainM (out : List (List Nat)) (cur : List Nat) (c : Nat) : Rs :=
  if c = 44 ∨ c = 10 ∨ c = 13 then behindM out cur c else if c = 34 then ⟨.wrong, out, cur, false, 3⟩ else addM .plain out cur c
def stpM (m : Md) (out : List (List Nat)) (cur : List Nat) (c : Nat) : Rs :=
  match m with
  | .begin => if c = 34 then ⟨.quoted, out, cur, false, 0⟩ else plainM out cur c
  | .plain => plainM out cur c
  | .quoted => if c = 34 then ⟨.closed, out, cur, false, 0⟩ else addM .quoted out cur c
  | .closed => if c = 34 then addM .quoted out cur c else behindM out cur c
  | .ended => if c = 10 then behindM out cur c else ⟨.wrong, out, cur, false, 3⟩
  | _ => ⟨.wrong, out, cur, false, 3⟩
def sV (t : List Nat) : PV := .str (ci t)
def mdV (r : Nat) : Md → PV
  | .begin => .fn (.func 24) [.ptr (some (r, 0))] []
  | .plain => .fn (.func 31) [.ptr (some (r, 0))] []
  | .quoted => .fn (.func 30) [.ptr (some (r, 0))] []
  | .closed => .fn (.func 38) [.ptr (some (r, 0))] []
  | .ended => .fn (.func 44) [.ptr (some (r, 0))] []
  | .wrong => .fn (.func 41) [.ptr (some (r, 0))] []
  | .none => .nilf
def rdV (so sc : Nat) (out : List (List Nat)) (cur : List Nat) (done : Bool) (e : Nat) : List PV := [.lst so (out.map sV) true, .lst sc (cur.map u8) true, .bool done, .int .i64 e]
/-- What a step answers. -/
def AnsM (r : Nat) (H : Heap) (x : Rs) (v : PV) (H' : Heap) : Prop :=
  v = mdV r x.m ∧ ∃ so sc, (so = 1 ∨ so = 0 ∧ x.out.length = 0) ∧ (sc = 1 ∨ sc = 0 ∧ x.cur.length = 0) ∧ H' = (r, rdV so sc x.out x.cur x.done x.e) :: H
section
variable {r so sc : Nat} {out : List (List Nat)} {cur : List Nat} {c : Nat} {H : Heap}
theorem field_ok (ho : so = 1 ∨ so = 0 ∧ out.length = 0) (hc : sc = 1 ∨ sc = 0 ∧ cur.length = 0) (hw : ∀ x ∈ cur, x < 256) (hol : out.length ≤ 1000) (hcl : cur.length ≤ 2000) {d : Bool} {e : Nat} :
    SpecH Try.prog 26 ((r, rdV so sc out cur d e) :: H) [.ptr (some (r, 0))] (fun v H' => v = .tup [] ∧ H' = (r, rdV 1 0 (out ++ [cur]) [] d e) :: H) := by
  have hmix := mix06
  have v1 : ∀ o, cvSP (.lst sc (cur.map u8) o) = some (.str (ci cur)) := fun o => cvS_u8 rfl (hc.imp id (·.2)) hw
  refine spec_of t26l (by simp [p26l]) ?_
  simp only [p26l, rdV]
  first | refine pwp_ss hmix ?_ | refine pwp_drawS hmix ?_
  intro K hK
  simp (disch := first | (refine Ok.mk ?_; (try simp only [Lm, La, Lc, Ln, Lt, Ld, Lr, Li, true_or, or_true, true_and, and_true]); omega) | (simp <;> fail) | skip) [runM_nil, planS_nil, v1]
  refine hK _ _ ?_
  clear hK K
  exact ⟨.inl rfl, _, _, rfl, .refl _, by simp [rdV, sV, resV]⟩
theorem add_ok (ho : so = 1 ∨ so = 0 ∧ out.length = 0) (hc : sc = 1 ∨ sc = 0 ∧ cur.length = 0) (hcl : cur.length ≤ 1000) :
    SpecH Try.prog 39 ((r, rdV so sc out cur false 0) :: H) [.ptr (some (r, 0)), .int .u8 c] (fun v H' => v = .tup [] ∧ H' = (r, rdV so 1 out (cur ++ [c]) false (if 1000 < cur.length + 1 then 5 else 0)) :: H) := by
  refine spec_of t39l (by simp [p39l]) ?_
  simp only [p39l, rdV]
  first | refine pwp_sr ?_ | refine pwp_regionM ?_
  intro K hK
  simp (disch := first | (refine Ok.mk ?_; (try simp only [Lm, La, Lc, Ln, Lt, Ld, Lr, Li, true_or, or_true, true_and, and_true]); omega) | (simp <;> fail) | skip) [runM_nil]
  refine hK _ _ ?_
  clear hK K
  by_cases h : 1000 < cur.length + 1
  · have h2 : (1000 : Int) < cur.length + 1 := by omega
    first | refine pwp_rif ?_ | refine pwp_rifE ?_
    intro K hK
    simp (disch := first | (refine Ok.mk ?_; (try simp only [Lm, La, Lc, Ln, Lt, Ld, Lr, Li, true_or, or_true, true_and, and_true]); omega) | (simp <;> fail) | skip) [runM_nil, h2]
    refine hK _ _ ?_
    clear hK K
    refine ifT (by simp (disch := first | (refine Ok.mk ?_; (try simp only [Lm, La, Lc, Ln, Lt, Ld, Lr, Li, true_or, or_true, true_and, and_true]); omega) | (simp <;> fail) | skip) [runM_nil]) ?_
    first | refine pwp_sr ?_ | refine pwp_regionM ?_
    intro K hK
    simp (disch := first | (refine Ok.mk ?_; (try simp only [Lm, La, Lc, Ln, Lt, Ld, Lr, Li, true_or, or_true, true_and, and_true]); omega) | (simp <;> fail) | skip) [runM_nil]
    refine hK _ _ ?_
    clear hK K
    exact ⟨.inl rfl, _, _, rfl, .refl _, by simp [rdV, h, resV]⟩
  · have h2 : ¬ (1000 : Int) < cur.length + 1 := by omega
    first | refine pwp_rif ?_ | refine pwp_rifE ?_
    intro K hK
    simp (disch := first | (refine Ok.mk ?_; (try simp only [Lm, La, Lc, Ln, Lt, Ld, Lr, Li, true_or, or_true, true_and, and_true]); omega) | (simp <;> fail) | skip) [runM_nil, h2]
    refine hK _ _ ?_
    clear hK K
    refine ifF (by simp [runM_nil, h2]) (pwp_skip ?_)
    exact ⟨.inl rfl, _, _, rfl, .refl _, by simp [rdV, h, resV]⟩
theorem wrong_ok : SpecH Try.prog 41 ((r, rdV so sc out cur false 0) :: H) [.ptr (some (r, 0)), .int .u8 c] (fun v H' => v = mdV r .wrong ∧ H' = (r, rdV so sc out cur false 3) :: H) := by
  refine spec_of t41 (by simp [p41]) ?_
  simp only [p41, rdV]
  first | refine pwp_sr ?_ | refine pwp_regionM ?_
  intro K hK
  simp (disch := first | (refine Ok.mk ?_; (try simp only [Lm, La, Lc, Ln, Lt, Ld, Lr, Li, true_or, or_true, true_and, and_true]); omega) | (simp <;> fail) | skip) [runM_nil]
  refine hK _ _ ?_
  clear hK K
  first | refine pwp_sr ?_ | refine pwp_regionM ?_
  intro K hK
  simp (disch := first | (refine Ok.mk ?_; (try simp only [Lm, La, Lc, Ln, Lt, Ld, Lr, Li, true_or, or_true, true_and, and_true]); omega) | (simp <;> fail) | skip) [runM_nil]
  refine hK _ _ ?_
  clear hK K
  first | refine pwp_sr ?_ | refine pwp_regionM ?_
  intro K hK
  simp (disch := first | (refine Ok.mk ?_; (try simp only [Lm, La, Lc, Ln, Lt, Ld, Lr, Li, true_or, or_true, true_and, and_true]); omega) | (simp <;> fail) | skip) [runM_nil]
  refine hK _ _ ?_
  clear hK K
  refine pwp_ret ⟨.inr rfl, _, _, (by simp [runM_nil, resL]; rfl), .refl _, by simp [resV, mdV], by simp [rdV]⟩
theorem behind_ok (ho : so = 1 ∨ so = 0 ∧ out.length = 0) (hc : sc = 1 ∨ sc = 0 ∧ cur.length = 0) (hw : ∀ x ∈ cur, x < 256) (hol : out.length ≤ 60) (hcl : cur.length ≤ 1000) :
    SpecH Try.prog 40 ((r, rdV so sc out cur false 0) :: H) [.ptr (some (r, 0)), .int .u8 c] (AnsM r H (behindM out cur c)) := by
  have cf := field_ok (r := r) (H := H) (d := false) (e := 0) ho hc hw (by omega) (by omega)
  have cw := wrong_ok (r := r) (H := H) (so := so) (sc := sc) (out := out) (cur := cur) (c := c)
  unfold behindM
  refine spec_of t40 (by simp [p40]) ?_
  simp only [p40]
  simp only [rdV] at cf cw ⊢
  first | refine pwp_sr ?_ | refine pwp_regionM ?_
  intro K hK
  simp (disch := first | (refine Ok.mk ?_; (try simp only [Lm, La, Lc, Ln, Lt, Ld, Lr, Li, true_or, or_true, true_and, and_true]); omega) | (simp <;> fail) | skip) [runM_nil]
  refine hK _ _ ?_
  clear hK K
  refine pwp_seq ?_
  first | refine pwp_sr ?_ | refine pwp_regionM ?_
  intro K hK
  simp (disch := first | (refine Ok.mk ?_; (try simp only [Lm, La, Lc, Ln, Lt, Ld, Lr, Li, true_or, or_true, true_and, and_true]); omega) | (simp <;> fail) | skip) [runM_nil]
  refine hK _ _ ?_
  clear hK K
  refine pwp_block ?_
  by_cases h1 : c = 44
  · subst h1
    first | refine pwp_rif ?_ | refine pwp_rifE ?_
    intro K hK
    simp (disch := first | (refine Ok.mk ?_; (try simp only [Lm, La, Lc, Ln, Lt, Ld, Lr, Li, true_or, or_true, true_and, and_true]); omega) | (simp <;> fail) | skip) [runM_nil]
    refine hK _ _ ?_
    clear hK K
    refine ifT (by simp (disch := first | (refine Ok.mk ?_; (try simp only [Lm, La, Lc, Ln, Lt, Ld, Lr, Li, true_or, or_true, true_and, and_true]); omega) | (simp <;> fail) | skip) [runM_nil]) ?_
    first | refine pwp_sr ?_ | refine pwp_regionM ?_
    intro K hK
    simp (disch := first | (refine Ok.mk ?_; (try simp only [Lm, La, Lc, Ln, Lt, Ld, Lr, Li, true_or, or_true, true_and, and_true]); omega) | (simp <;> fail) | skip) [runM_nil]
    refine useH cf ?_
    try simp (disch := first | (refine Ok.mk ?_; (try simp only [Lm, La, Lc, Ln, Lt, Ld, Lr, Li, true_or, or_true, true_and, and_true]); omega) | (simp <;> fail) | skip) [runM_nil]
    refine hK _ _ ?_
    clear hK K
    refine pwp_seq ?_
    by_cases h5 : out.length + 1 = 50
    · have h6 : (out.length : Int) + 1 = 50 := by omega
      first | refine pwp_sr ?_ | refine pwp_regionM ?_
      intro K hK
      simp (disch := first | (refine Ok.mk ?_; (try simp only [Lm, La, Lc, Ln, Lt, Ld, Lr, Li, true_or, or_true, true_and, and_true]); omega) | (simp <;> fail) | skip) [runM_nil, h6]
      refine hK _ _ ?_
      clear hK K
      refine pwp_cT (by simp) ?_
      first | refine pwp_sr ?_ | refine pwp_regionM ?_
      intro K hK
      simp (disch := first | (refine Ok.mk ?_; (try simp only [Lm, La, Lc, Ln, Lt, Ld, Lr, Li, true_or, or_true, true_and, and_true]); omega) | (simp <;> fail) | skip) [runM_nil]
      refine hK _ _ ?_
      clear hK K
      first | refine pwp_sr ?_ | refine pwp_regionM ?_
      intro K hK
      simp (disch := first | (refine Ok.mk ?_; (try simp only [Lm, La, Lc, Ln, Lt, Ld, Lr, Li, true_or, or_true, true_and, and_true]); omega) | (simp <;> fail) | skip) [runM_nil]
      refine hK _ _ ?_
      clear hK K
      refine pwp_ret ⟨.inr rfl, _, _, (by simp [runM_nil, resL]; rfl), .refl _, by simp [resV, mdV], 1, 0, .inl rfl, .inr ⟨rfl, rfl⟩, by simp [rdV, h5]⟩
    · have h6 : ¬ (out.length : Int) + 1 = 50 := by omega
      first | refine pwp_sr ?_ | refine pwp_regionM ?_
      intro K hK
      simp (disch := first | (refine Ok.mk ?_; (try simp only [Lm, La, Lc, Ln, Lt, Ld, Lr, Li, true_or, or_true, true_and, and_true]); omega) | (simp <;> fail) | skip) [runM_nil, h6]
      refine hK _ _ ?_
      clear hK K
      refine pwp_cF (by simp) (pwp_skip ?_)
      first | refine pwp_sr ?_ | refine pwp_regionM ?_
      intro K hK
      simp (disch := first | (refine Ok.mk ?_; (try simp only [Lm, La, Lc, Ln, Lt, Ld, Lr, Li, true_or, or_true, true_and, and_true]); omega) | (simp <;> fail) | skip) [runM_nil]
      refine hK _ _ ?_
      clear hK K
      refine pwp_ret ⟨.inr rfl, _, _, (by simp [runM_nil, resL]; rfl), .refl _, by simp [resV, mdV], 1, 0, .inl rfl, .inr ⟨rfl, rfl⟩, by simp [rdV, h5]⟩
  · have g1 : ¬ (c : Int) = 44 := by omega
    first | refine pwp_rif ?_ | refine pwp_rifE ?_
    intro K hK
    simp (disch := first | (refine Ok.mk ?_; (try simp only [Lm, La, Lc, Ln, Lt, Ld, Lr, Li, true_or, or_true, true_and, and_true]); omega) | (simp <;> fail) | skip) [runM_nil, g1]
    refine hK _ _ ?_
    clear hK K
    refine ifF (by simp [runM_nil, g1]) ?_
    by_cases h2 : c = 10
    · subst h2
      first | refine pwp_rif ?_ | refine pwp_rifE ?_
      intro K hK
      simp (disch := first | (refine Ok.mk ?_; (try simp only [Lm, La, Lc, Ln, Lt, Ld, Lr, Li, true_or, or_true, true_and, and_true]); omega) | (simp <;> fail) | skip) [runM_nil]
      refine hK _ _ ?_
      clear hK K
      refine ifT (by simp (disch := first | (refine Ok.mk ?_; (try simp only [Lm, La, Lc, Ln, Lt, Ld, Lr, Li, true_or, or_true, true_and, and_true]); omega) | (simp <;> fail) | skip) [runM_nil]) ?_
      first | refine pwp_sr ?_ | refine pwp_regionM ?_
      intro K hK
      simp (disch := first | (refine Ok.mk ?_; (try simp only [Lm, La, Lc, Ln, Lt, Ld, Lr, Li, true_or, or_true, true_and, and_true]); omega) | (simp <;> fail) | skip) [runM_nil]
      refine useH cf ?_
      try simp (disch := first | (refine Ok.mk ?_; (try simp only [Lm, La, Lc, Ln, Lt, Ld, Lr, Li, true_or, or_true, true_and, and_true]); omega) | (simp <;> fail) | skip) [runM_nil]
      refine hK _ _ ?_
      clear hK K
      first | refine pwp_sr ?_ | refine pwp_regionM ?_
      intro K hK
      simp (disch := first | (refine Ok.mk ?_; (try simp only [Lm, La, Lc, Ln, Lt, Ld, Lr, Li, true_or, or_true, true_and, and_true]); omega) | (simp <;> fail) | skip) [runM_nil]
      refine hK _ _ ?_
      clear hK K
      first | refine pwp_sr ?_ | refine pwp_regionM ?_
      intro K hK
      simp (disch := first | (refine Ok.mk ?_; (try simp only [Lm, La, Lc, Ln, Lt, Ld, Lr, Li, true_or, or_true, true_and, and_true]); omega) | (simp <;> fail) | skip) [runM_nil]
      refine hK _ _ ?_
      clear hK K
      refine pwp_ret ⟨.inr rfl, _, _, (by simp [runM_nil, resL]; rfl), .refl _, by simp [resV, mdV], 1, 0, .inl rfl, .inr ⟨rfl, rfl⟩, by simp [rdV]⟩
    · have g2 : ¬ (c : Int) = 10 := by omega
      first | refine pwp_rif ?_ | refine pwp_rifE ?_
      intro K hK
      simp (disch := first | (refine Ok.mk ?_; (try simp only [Lm, La, Lc, Ln, Lt, Ld, Lr, Li, true_or, or_true, true_and, and_true]); omega) | (simp <;> fail) | skip) [runM_nil, g2]
      refine hK _ _ ?_
      clear hK K
      refine ifF (by simp [runM_nil, g2]) ?_
      by_cases h3 : c = 13
      · subst h3
        first | refine pwp_rif ?_ | refine pwp_rifE ?_
        intro K hK
        simp (disch := first | (refine Ok.mk ?_; (try simp only [Lm, La, Lc, Ln, Lt, Ld, Lr, Li, true_or, or_true, true_and, and_true]); omega) | (simp <;> fail) | skip) [runM_nil]
        refine hK _ _ ?_
        clear hK K
        refine ifT (by simp (disch := first | (refine Ok.mk ?_; (try simp only [Lm, La, Lc, Ln, Lt, Ld, Lr, Li, true_or, or_true, true_and, and_true]); omega) | (simp <;> fail) | skip) [runM_nil]) ?_
        first | refine pwp_sr ?_ | refine pwp_regionM ?_
        intro K hK
        simp (disch := first | (refine Ok.mk ?_; (try simp only [Lm, La, Lc, Ln, Lt, Ld, Lr, Li, true_or, or_true, true_and, and_true]); omega) | (simp <;> fail) | skip) [runM_nil]
        refine hK _ _ ?_
        clear hK K
        refine pwp_ret ⟨.inr rfl, _, _, (by simp [runM_nil, resL]; rfl), .refl _, by simp [resV, mdV], so, sc, ho, hc, by simp [rdV]⟩
      · have g3 : ¬ (c : Int) = 13 := by omega
        first | refine pwp_rif ?_ | refine pwp_rifE ?_
        intro K hK
        simp (disch := first | (refine Ok.mk ?_; (try simp only [Lm, La, Lc, Ln, Lt, Ld, Lr, Li, true_or, or_true, true_and, and_true]); omega) | (simp <;> fail) | skip) [runM_nil, g3]
        refine hK _ _ ?_
        clear hK K
        refine ifF (by simp [runM_nil, g3]) (pwp_skip ?_)
        rw [if_neg h1, if_neg h2, if_neg h3]
        first | refine pwp_sr ?_ | refine pwp_regionM ?_
        intro K hK
        simp (disch := first | (refine Ok.mk ?_; (try simp only [Lm, La, Lc, Ln, Lt, Ld, Lr, Li, true_or, or_true, true_and, and_true]); omega) | (simp <;> fail) | skip) [runM_nil]
        refine useH cw ?_
        try simp (disch := first | (refine Ok.mk ?_; (try simp only [Lm, La, Lc, Ln, Lt, Ld, Lr, Li, true_or, or_true, true_and, and_true]); omega) | (simp <;> fail) | skip) [runM_nil]
        refine hK _ _ ?_
        clear hK K
        refine pwp_ret ⟨.inr rfl, _, _, (by simp [runM_nil, resL]; rfl), .refl _, by simp [resV, mdV], so, sc, ho, hc, by simp [rdV]⟩
end
end Go.Proofs.Ytdphjapaoaokmaa.E
/- A reader's other steps. -/
namespace Go.Proofs.Ytdphjapaoaokmaa.E
open Go Go.RowKit Go.Proofs
set_option linter.unusedVariables false
set_option linter.unusedSimpArgs false
section
variable {r so sc : Nat} {out : List (List Nat)} {cur : List Nat} {c : Nat} {H : Heap}
theorem plain_ok (ho : so = 1 ∨ so = 0 ∧ out.length = 0) (hc : sc = 1 ∨ sc = 0 ∧ cur.length = 0) (hw : ∀ x ∈ cur, x < 256) (hol : out.length ≤ 60) (hcl : cur.length ≤ 1000) :
    SpecH Try.prog 31 ((r, rdV so sc out cur false 0) :: H) [.ptr (some (r, 0)), .int .u8 c] (AnsM r H (plainM out cur c)) := by
  have cb := behind_ok (r := r) (H := H) (c := c) ho hc hw hol hcl
  have cw := wrong_ok (r := r) (H := H) (so := so) (sc := sc) (out := out) (cur := cur) (c := c)
  have ca := add_ok (r := r) (H := H) (c := c) ho hc hcl
  unfold plainM
  refine spec_of t31 (by simp [p31]) ?_
  simp only [p31]
  simp only [rdV] at cb cw ca ⊢
  first | refine pwp_sr ?_ | refine pwp_regionM ?_
  intro K hK
  simp (disch := first | (refine Ok.mk ?_; (try simp only [Lm, La, Lc, Ln, Lt, Ld, Lr, Li, true_or, or_true, true_and, and_true]); omega) | (simp <;> fail) | skip) [runM_nil]
  refine hK _ _ ?_
  clear hK K
  refine pwp_seq ?_
  first | refine pwp_sr ?_ | refine pwp_regionM ?_
  intro K hK
  simp (disch := first | (refine Ok.mk ?_; (try simp only [Lm, La, Lc, Ln, Lt, Ld, Lr, Li, true_or, or_true, true_and, and_true]); omega) | (simp <;> fail) | skip) [runM_nil]
  refine hK _ _ ?_
  clear hK K
  refine pwp_block ?_
  by_cases h : c = 44 ∨ c = 10 ∨ c = 13
  · rw [if_pos h]
    refine pwp_cut [0, 1, 6] (fun st' H' => H' = (r, [.lst so (out.map sV) true, .lst sc (cur.map u8) true, .bool false, .int .i64 0]) :: H ∧ st' = MS 23 [(0, .ptr (some (r, 0))), (1, .int .u8 c), (6, .bool true)]) ?_ ?_
    · by_cases h1 : c = 44
      · subst h1
        first | refine pwp_rif ?_ | refine pwp_rifE ?_
        intro K hK
        simp (disch := first | (refine Ok.mk ?_; (try simp only [Lm, La, Lc, Ln, Lt, Ld, Lr, Li, true_or, or_true, true_and, and_true]); omega) | (simp <;> fail) | skip) [runM_nil]
        refine hK _ _ ?_
        clear hK K
        refine ifT (by simp [runM_nil]) (pwp_skip ?_)
        exact cut_to (by simp [keepA, getS]) (.refl _) ⟨rfl, rfl⟩
      · have g1 : ¬ (c : Int) = 44 := by omega
        first | refine pwp_rif ?_ | refine pwp_rifE ?_
        intro K hK
        simp (disch := first | (refine Ok.mk ?_; (try simp only [Lm, La, Lc, Ln, Lt, Ld, Lr, Li, true_or, or_true, true_and, and_true]); omega) | (simp <;> fail) | skip) [runM_nil, g1]
        refine hK _ _ ?_
        clear hK K
        refine ifF (by simp [runM_nil, g1]) ?_
        by_cases h2 : c = 10
        · subst h2
          first | refine pwp_rif ?_ | refine pwp_rifE ?_
          intro K hK
          simp (disch := first | (refine Ok.mk ?_; (try simp only [Lm, La, Lc, Ln, Lt, Ld, Lr, Li, true_or, or_true, true_and, and_true]); omega) | (simp <;> fail) | skip) [runM_nil]
          refine hK _ _ ?_
          clear hK K
          refine ifT (by simp [runM_nil]) (pwp_skip ?_)
          exact cut_to (by simp [keepA, getS]) (.refl _) ⟨rfl, rfl⟩
        · have g2 : ¬ (c : Int) = 10 := by omega
          obtain rfl : c = 13 := by omega
          first | refine pwp_rif ?_ | refine pwp_rifE ?_
          intro K hK
          simp (disch := first | (refine Ok.mk ?_; (try simp only [Lm, La, Lc, Ln, Lt, Ld, Lr, Li, true_or, or_true, true_and, and_true]); omega) | (simp <;> fail) | skip) [runM_nil, g2]
          refine hK _ _ ?_
          clear hK K
          refine ifF (by simp [runM_nil, g2]) ?_
          first | refine pwp_sr ?_ | refine pwp_regionM ?_
          intro K hK
          simp (disch := first | (refine Ok.mk ?_; (try simp only [Lm, La, Lc, Ln, Lt, Ld, Lr, Li, true_or, or_true, true_and, and_true]); omega) | (simp <;> fail) | skip) [runM_nil]
          refine hK _ _ ?_
          clear hK K
          exact cut_to (by simp [keepA, getS]) (.refl _) ⟨rfl, rfl⟩
    · rintro _ _ ⟨rfl, rfl⟩
      refine pwp_cT (by simp) ?_
      first | refine pwp_sr ?_ | refine pwp_regionM ?_
      intro K hK
      simp (disch := first | (refine Ok.mk ?_; (try simp only [Lm, La, Lc, Ln, Lt, Ld, Lr, Li, true_or, or_true, true_and, and_true]); omega) | (simp <;> fail) | skip) [runM_nil]
      refine useH cb ?_
      try simp (disch := first | (refine Ok.mk ?_; (try simp only [Lm, La, Lc, Ln, Lt, Ld, Lr, Li, true_or, or_true, true_and, and_true]); omega) | (simp <;> fail) | skip) [runM_nil]
      intro v H' hv
      try simp (disch := first | (refine Ok.mk ?_; (try simp only [Lm, La, Lc, Ln, Lt, Ld, Lr, Li, true_or, or_true, true_and, and_true]); omega) | (simp <;> fail) | skip) [runM_nil]
      refine hK _ _ ?_
      clear hK K
      refine pwp_ret ⟨.inr rfl, _, _, (by simp [runM_nil, resL]; rfl), .refl _, by simpa [resV] using hv⟩
  · obtain ⟨h1, h2, h3⟩ : ¬ c = 44 ∧ ¬ c = 10 ∧ ¬ c = 13 := by omega
    have g1 : ¬ (c : Int) = 44 := by omega
    have g2 : ¬ (c : Int) = 10 := by omega
    have g3 : ¬ (c : Int) = 13 := by omega
    rw [if_neg h]
    refine pwp_seq ?_
    first | refine pwp_rif ?_ | refine pwp_rifE ?_
    intro K hK
    simp (disch := first | (refine Ok.mk ?_; (try simp only [Lm, La, Lc, Ln, Lt, Ld, Lr, Li, true_or, or_true, true_and, and_true]); omega) | (simp <;> fail) | skip) [runM_nil, g1]
    refine hK _ _ ?_
    clear hK K
    refine ifF (by simp [runM_nil, g1]) ?_
    first | refine pwp_rif ?_ | refine pwp_rifE ?_
    intro K hK
    simp (disch := first | (refine Ok.mk ?_; (try simp only [Lm, La, Lc, Ln, Lt, Ld, Lr, Li, true_or, or_true, true_and, and_true]); omega) | (simp <;> fail) | skip) [runM_nil, g2]
    refine hK _ _ ?_
    clear hK K
    refine ifF (by simp [runM_nil, g2]) ?_
    first | refine pwp_sr ?_ | refine pwp_regionM ?_
    intro K hK
    simp (disch := first | (refine Ok.mk ?_; (try simp only [Lm, La, Lc, Ln, Lt, Ld, Lr, Li, true_or, or_true, true_and, and_true]); omega) | (simp <;> fail) | skip) [runM_nil, g3]
    refine hK _ _ ?_
    clear hK K
    refine pwp_cF (by simp) ?_
    by_cases h4 : c = 34
    · subst h4
      first | refine pwp_rif ?_ | refine pwp_rifE ?_
      intro K hK
      simp (disch := first | (refine Ok.mk ?_; (try simp only [Lm, La, Lc, Ln, Lt, Ld, Lr, Li, true_or, or_true, true_and, and_true]); omega) | (simp <;> fail) | skip) [runM_nil]
      refine hK _ _ ?_
      clear hK K
      refine ifT (by simp (disch := first | (refine Ok.mk ?_; (try simp only [Lm, La, Lc, Ln, Lt, Ld, Lr, Li, true_or, or_true, true_and, and_true]); omega) | (simp <;> fail) | skip) [runM_nil]) ?_
      first | refine pwp_sr ?_ | refine pwp_regionM ?_
      intro K hK
      simp (disch := first | (refine Ok.mk ?_; (try simp only [Lm, La, Lc, Ln, Lt, Ld, Lr, Li, true_or, or_true, true_and, and_true]); omega) | (simp <;> fail) | skip) [runM_nil]
      refine useH cw ?_
      try simp (disch := first | (refine Ok.mk ?_; (try simp only [Lm, La, Lc, Ln, Lt, Ld, Lr, Li, true_or, or_true, true_and, and_true]); omega) | (simp <;> fail) | skip) [runM_nil]
      refine hK _ _ ?_
      clear hK K
      refine pwp_ret ⟨.inr rfl, _, _, (by simp [runM_nil, resL]; rfl), .refl _, by simp [resV, mdV], so, sc, ho, hc, by simp [rdV]⟩
    · have g4 : ¬ (c : Int) = 34 := by omega
      rw [if_neg h4]
      first | refine pwp_rif ?_ | refine pwp_rifE ?_
      intro K hK
      simp (disch := first | (refine Ok.mk ?_; (try simp only [Lm, La, Lc, Ln, Lt, Ld, Lr, Li, true_or, or_true, true_and, and_true]); omega) | (simp <;> fail) | skip) [runM_nil, g4]
      refine hK _ _ ?_
      clear hK K
      refine ifF (by simp [runM_nil, g4]) (pwp_skip ?_)
      first | refine pwp_sr ?_ | refine pwp_regionM ?_
      intro K hK
      simp (disch := first | (refine Ok.mk ?_; (try simp only [Lm, La, Lc, Ln, Lt, Ld, Lr, Li, true_or, or_true, true_and, and_true]); omega) | (simp <;> fail) | skip) [runM_nil]
      refine useH ca ?_
      try simp (disch := first | (refine Ok.mk ?_; (try simp only [Lm, La, Lc, Ln, Lt, Ld, Lr, Li, true_or, or_true, true_and, and_true]); omega) | (simp <;> fail) | skip) [runM_nil]
      refine hK _ _ ?_
      clear hK K
      first | refine pwp_sr ?_ | refine pwp_regionM ?_
      intro K hK
      simp (disch := first | (refine Ok.mk ?_; (try simp only [Lm, La, Lc, Ln, Lt, Ld, Lr, Li, true_or, or_true, true_and, and_true]); omega) | (simp <;> fail) | skip) [runM_nil]
      refine hK _ _ ?_
      clear hK K
      refine pwp_ret ⟨.inr rfl, _, _, (by simp [runM_nil, resL]; rfl), .refl _, by simp [resV, mdV, addM], so, 1, ho, .inl rfl, by simp [rdV, addM]⟩
theorem begin_ok (ho : so = 1 ∨ so = 0 ∧ out.length = 0) (hc : sc = 1 ∨ sc = 0 ∧ cur.length = 0) (hw : ∀ x ∈ cur, x < 256) (hol : out.length ≤ 60) (hcl : cur.length ≤ 1000) :
    SpecH Try.prog 24 ((r, rdV so sc out cur false 0) :: H) [.ptr (some (r, 0)), .int .u8 c] (AnsM r H (stpM .begin out cur c)) := by
  have cp := plain_ok (r := r) (H := H) (c := c) ho hc hw hol hcl
  simp only [stpM]
  refine spec_of t24 (by simp [p24]) ?_
  simp only [p24]
  simp only [rdV] at cp ⊢
  first | refine pwp_sr ?_ | refine pwp_regionM ?_
  intro K hK
  simp (disch := first | (refine Ok.mk ?_; (try simp only [Lm, La, Lc, Ln, Lt, Ld, Lr, Li, true_or, or_true, true_and, and_true]); omega) | (simp <;> fail) | skip) [runM_nil]
  refine hK _ _ ?_
  clear hK K
  by_cases h : c = 34
  · subst h
    first | refine pwp_rif ?_ | refine pwp_rifE ?_
    intro K hK
    simp (disch := first | (refine Ok.mk ?_; (try simp only [Lm, La, Lc, Ln, Lt, Ld, Lr, Li, true_or, or_true, true_and, and_true]); omega) | (simp <;> fail) | skip) [runM_nil]
    refine hK _ _ ?_
    clear hK K
    refine ifT (by simp (disch := first | (refine Ok.mk ?_; (try simp only [Lm, La, Lc, Ln, Lt, Ld, Lr, Li, true_or, or_true, true_and, and_true]); omega) | (simp <;> fail) | skip) [runM_nil]) ?_
    first | refine pwp_sr ?_ | refine pwp_regionM ?_
    intro K hK
    simp (disch := first | (refine Ok.mk ?_; (try simp only [Lm, La, Lc, Ln, Lt, Ld, Lr, Li, true_or, or_true, true_and, and_true]); omega) | (simp <;> fail) | skip) [runM_nil]
    refine hK _ _ ?_
    clear hK K
    refine pwp_retT ⟨.inr rfl, _, _, (by simp [runM_nil, resL]; rfl), .refl _, by simp [resV, mdV], so, sc, ho, hc, by simp [rdV]⟩
  · have g : ¬ (c : Int) = 34 := by omega
    rw [if_neg h]
    first | refine pwp_rif ?_ | refine pwp_rifE ?_
    intro K hK
    simp (disch := first | (refine Ok.mk ?_; (try simp only [Lm, La, Lc, Ln, Lt, Ld, Lr, Li, true_or, or_true, true_and, and_true]); omega) | (simp <;> fail) | skip) [runM_nil, g]
    refine hK _ _ ?_
    clear hK K
    refine ifF (by simp [runM_nil, g]) (pwp_skip ?_)
    first | refine pwp_sr ?_ | refine pwp_regionM ?_
    intro K hK
    simp (disch := first | (refine Ok.mk ?_; (try simp only [Lm, La, Lc, Ln, Lt, Ld, Lr, Li, true_or, or_true, true_and, and_true]); omega) | (simp <;> fail) | skip) [runM_nil]
    refine useH cp ?_
    try simp (disch := first | (refine Ok.mk ?_; (try simp only [Lm, La, Lc, Ln, Lt, Ld, Lr, Li, true_or, or_true, true_and, and_true]); omega) | (simp <;> fail) | skip) [runM_nil]
    intro v H' hv
    try simp (disch := first | (refine Ok.mk ?_; (try simp only [Lm, La, Lc, Ln, Lt, Ld, Lr, Li, true_or, or_true, true_and, and_true]); omega) | (simp <;> fail) | skip) [runM_nil]
    refine hK _ _ ?_
    clear hK K
    refine pwp_ret ⟨.inr rfl, _, _, (by simp [runM_nil, resL]; rfl), .refl _, by simpa [resV] using hv⟩
theorem quoted_ok (ho : so = 1 ∨ so = 0 ∧ out.length = 0) (hc : sc = 1 ∨ sc = 0 ∧ cur.length = 0) (hcl : cur.length ≤ 1000) :
    SpecH Try.prog 30 ((r, rdV so sc out cur false 0) :: H) [.ptr (some (r, 0)), .int .u8 c] (AnsM r H (stpM .quoted out cur c)) := by
  have ca := add_ok (r := r) (H := H) (c := c) ho hc hcl
  simp only [stpM]
  refine spec_of t30 (by simp [p30]) ?_
  simp only [p30]
  simp only [rdV] at ca ⊢
  first | refine pwp_sr ?_ | refine pwp_regionM ?_
  intro K hK
  simp (disch := first | (refine Ok.mk ?_; (try simp only [Lm, La, Lc, Ln, Lt, Ld, Lr, Li, true_or, or_true, true_and, and_true]); omega) | (simp <;> fail) | skip) [runM_nil]
  refine hK _ _ ?_
  clear hK K
  by_cases h : c = 34
  · subst h
    first | refine pwp_rif ?_ | refine pwp_rifE ?_
    intro K hK
    simp (disch := first | (refine Ok.mk ?_; (try simp only [Lm, La, Lc, Ln, Lt, Ld, Lr, Li, true_or, or_true, true_and, and_true]); omega) | (simp <;> fail) | skip) [runM_nil]
    refine hK _ _ ?_
    clear hK K
    refine ifT (by simp (disch := first | (refine Ok.mk ?_; (try simp only [Lm, La, Lc, Ln, Lt, Ld, Lr, Li, true_or, or_true, true_and, and_true]); omega) | (simp <;> fail) | skip) [runM_nil]) ?_
    first | refine pwp_sr ?_ | refine pwp_regionM ?_
    intro K hK
    simp (disch := first | (refine Ok.mk ?_; (try simp only [Lm, La, Lc, Ln, Lt, Ld, Lr, Li, true_or, or_true, true_and, and_true]); omega) | (simp <;> fail) | skip) [runM_nil]
    refine hK _ _ ?_
    clear hK K
    refine pwp_retT ⟨.inr rfl, _, _, (by simp [runM_nil, resL]; rfl), .refl _, by simp [resV, mdV], so, sc, ho, hc, by simp [rdV]⟩
  · have g : ¬ (c : Int) = 34 := by omega
    rw [if_neg h]
    first | refine pwp_rif ?_ | refine pwp_rifE ?_
    intro K hK
    simp (disch := first | (refine Ok.mk ?_; (try simp only [Lm, La, Lc, Ln, Lt, Ld, Lr, Li, true_or, or_true, true_and, and_true]); omega) | (simp <;> fail) | skip) [runM_nil, g]
    refine hK _ _ ?_
    clear hK K
    refine ifF (by simp [runM_nil, g]) (pwp_skip ?_)
    first | refine pwp_sr ?_ | refine pwp_regionM ?_
    intro K hK
    simp (disch := first | (refine Ok.mk ?_; (try simp only [Lm, La, Lc, Ln, Lt, Ld, Lr, Li, true_or, or_true, true_and, and_true]); omega) | (simp <;> fail) | skip) [runM_nil]
    refine useH ca ?_
    try simp (disch := first | (refine Ok.mk ?_; (try simp only [Lm, La, Lc, Ln, Lt, Ld, Lr, Li, true_or, or_true, true_and, and_true]); omega) | (simp <;> fail) | skip) [runM_nil]
    refine hK _ _ ?_
    clear hK K
    first | refine pwp_sr ?_ | refine pwp_regionM ?_
    intro K hK
    simp (disch := first | (refine Ok.mk ?_; (try simp only [Lm, La, Lc, Ln, Lt, Ld, Lr, Li, true_or, or_true, true_and, and_true]); omega) | (simp <;> fail) | skip) [runM_nil]
    refine hK _ _ ?_
    clear hK K
    refine pwp_ret ⟨.inr rfl, _, _, (by simp [runM_nil, resL]; rfl), .refl _, by simp [resV, mdV, addM], so, 1, ho, .inl rfl, by simp [rdV, addM]⟩
theorem closed_ok (ho : so = 1 ∨ so = 0 ∧ out.length = 0) (hc : sc = 1 ∨ sc = 0 ∧ cur.length = 0) (hw : ∀ x ∈ cur, x < 256) (hol : out.length ≤ 60) (hcl : cur.length ≤ 1000) :
    SpecH Try.prog 38 ((r, rdV so sc out cur false 0) :: H) [.ptr (some (r, 0)), .int .u8 c] (AnsM r H (stpM .closed out cur c)) := by
  have cb := behind_ok (r := r) (H := H) (c := c) ho hc hw hol hcl
  have ca := add_ok (r := r) (H := H) (c := c) ho hc hcl
  simp only [stpM]
  refine spec_of t38 (by simp [p38]) ?_
  simp only [p38]
  simp only [rdV] at cb ca ⊢
  first | refine pwp_sr ?_ | refine pwp_regionM ?_
  intro K hK
  simp (disch := first | (refine Ok.mk ?_; (try simp only [Lm, La, Lc, Ln, Lt, Ld, Lr, Li, true_or, or_true, true_and, and_true]); omega) | (simp <;> fail) | skip) [runM_nil]
  refine hK _ _ ?_
  clear hK K
  by_cases h : c = 34
  · subst h
    first | refine pwp_rif ?_ | refine pwp_rifE ?_
    intro K hK
    simp (disch := first | (refine Ok.mk ?_; (try simp only [Lm, La, Lc, Ln, Lt, Ld, Lr, Li, true_or, or_true, true_and, and_true]); omega) | (simp <;> fail) | skip) [runM_nil]
    refine hK _ _ ?_
    clear hK K
    refine ifT (by simp (disch := first | (refine Ok.mk ?_; (try simp only [Lm, La, Lc, Ln, Lt, Ld, Lr, Li, true_or, or_true, true_and, and_true]); omega) | (simp <;> fail) | skip) [runM_nil]) ?_
    first | refine pwp_sr ?_ | refine pwp_regionM ?_
    intro K hK
    simp (disch := first | (refine Ok.mk ?_; (try simp only [Lm, La, Lc, Ln, Lt, Ld, Lr, Li, true_or, or_true, true_and, and_true]); omega) | (simp <;> fail) | skip) [runM_nil]
    refine useH ca ?_
    try simp (disch := first | (refine Ok.mk ?_; (try simp only [Lm, La, Lc, Ln, Lt, Ld, Lr, Li, true_or, or_true, true_and, and_true]); omega) | (simp <;> fail) | skip) [runM_nil]
    refine hK _ _ ?_
    clear hK K
    first | refine pwp_sr ?_ | refine pwp_regionM ?_
    intro K hK
    simp (disch := first | (refine Ok.mk ?_; (try simp only [Lm, La, Lc, Ln, Lt, Ld, Lr, Li, true_or, or_true, true_and, and_true]); omega) | (simp <;> fail) | skip) [runM_nil]
    refine hK _ _ ?_
    clear hK K
    refine pwp_retT ⟨.inr rfl, _, _, (by simp [runM_nil, resL]; rfl), .refl _, by simp [resV, mdV, addM], so, 1, ho, .inl rfl, by simp [rdV, addM]⟩
  · have g : ¬ (c : Int) = 34 := by omega
    rw [if_neg h]
    first | refine pwp_rif ?_ | refine pwp_rifE ?_
    intro K hK
    simp (disch := first | (refine Ok.mk ?_; (try simp only [Lm, La, Lc, Ln, Lt, Ld, Lr, Li, true_or, or_true, true_and, and_true]); omega) | (simp <;> fail) | skip) [runM_nil, g]
    refine hK _ _ ?_
    clear hK K
    refine ifF (by simp [runM_nil, g]) (pwp_skip ?_)
    first | refine pwp_sr ?_ | refine pwp_regionM ?_
    intro K hK
    simp (disch := first | (refine Ok.mk ?_; (try simp only [Lm, La, Lc, Ln, Lt, Ld, Lr, Li, true_or, or_true, true_and, and_true]); omega) | (simp <;> fail) | skip) [runM_nil]
    refine useH cb ?_
    try simp (disch := first | (refine Ok.mk ?_; (try simp only [Lm, La, Lc, Ln, Lt, Ld, Lr, Li, true_or, or_true, true_and, and_true]); omega) | (simp <;> fail) | skip) [runM_nil]
    intro v H' hv
    try simp (disch := first | (refine Ok.mk ?_; (try simp only [Lm, La, Lc, Ln, Lt, Ld, Lr, Li, true_or, or_true, true_and, and_true]); omega) | (simp <;> fail) | skip) [runM_nil]
    refine hK _ _ ?_
    clear hK K
    refine pwp_ret ⟨.inr rfl, _, _, (by simp [runM_nil, resL]; rfl), .refl _, by simpa [resV] using hv⟩
theorem ended_ok (ho : so = 1 ∨ so = 0 ∧ out.length = 0) (hc : sc = 1 ∨ sc = 0 ∧ cur.length = 0) (hw : ∀ x ∈ cur, x < 256) (hol : out.length ≤ 60) (hcl : cur.length ≤ 1000) :
    SpecH Try.prog 44 ((r, rdV so sc out cur false 0) :: H) [.ptr (some (r, 0)), .int .u8 c] (AnsM r H (stpM .ended out cur c)) := by
  have cb := behind_ok (r := r) (H := H) (c := c) ho hc hw hol hcl
  have cw := wrong_ok (r := r) (H := H) (so := so) (sc := sc) (out := out) (cur := cur) (c := c)
  simp only [stpM]
  refine spec_of t44 (by simp [p44]) ?_
  simp only [p44]
  simp only [rdV] at cb cw ⊢
  first | refine pwp_sr ?_ | refine pwp_regionM ?_
  intro K hK
  simp (disch := first | (refine Ok.mk ?_; (try simp only [Lm, La, Lc, Ln, Lt, Ld, Lr, Li, true_or, or_true, true_and, and_true]); omega) | (simp <;> fail) | skip) [runM_nil]
  refine hK _ _ ?_
  clear hK K
  by_cases h : c = 10
  · subst h
    first | refine pwp_rif ?_ | refine pwp_rifE ?_
    intro K hK
    simp (disch := first | (refine Ok.mk ?_; (try simp only [Lm, La, Lc, Ln, Lt, Ld, Lr, Li, true_or, or_true, true_and, and_true]); omega) | (simp <;> fail) | skip) [runM_nil]
    refine hK _ _ ?_
    clear hK K
    refine ifF (by simp (disch := first | (refine Ok.mk ?_; (try simp only [Lm, La, Lc, Ln, Lt, Ld, Lr, Li, true_or, or_true, true_and, and_true]); omega) | (simp <;> fail) | skip) [runM_nil]) (pwp_skip ?_)
    first | refine pwp_sr ?_ | refine pwp_regionM ?_
    intro K hK
    simp (disch := first | (refine Ok.mk ?_; (try simp only [Lm, La, Lc, Ln, Lt, Ld, Lr, Li, true_or, or_true, true_and, and_true]); omega) | (simp <;> fail) | skip) [runM_nil]
    refine useH cb ?_
    try simp (disch := first | (refine Ok.mk ?_; (try simp only [Lm, La, Lc, Ln, Lt, Ld, Lr, Li, true_or, or_true, true_and, and_true]); omega) | (simp <;> fail) | skip) [runM_nil]
    intro v H' hv
    try simp (disch := first | (refine Ok.mk ?_; (try simp only [Lm, La, Lc, Ln, Lt, Ld, Lr, Li, true_or, or_true, true_and, and_true]); omega) | (simp <;> fail) | skip) [runM_nil]
    refine hK _ _ ?_
    clear hK K
    refine pwp_ret ⟨.inr rfl, _, _, (by simp [runM_nil, resL]; rfl), .refl _, by simpa [resV] using hv⟩
  · have g : ¬ (c : Int) = 10 := by omega
    rw [if_neg h]
    first | refine pwp_rif ?_ | refine pwp_rifE ?_
    intro K hK
    simp (disch := first | (refine Ok.mk ?_; (try simp only [Lm, La, Lc, Ln, Lt, Ld, Lr, Li, true_or, or_true, true_and, and_true]); omega) | (simp <;> fail) | skip) [runM_nil, g]
    refine hK _ _ ?_
    clear hK K
    refine ifT (by simp [runM_nil, g]) ?_
    first | refine pwp_sr ?_ | refine pwp_regionM ?_
    intro K hK
    simp (disch := first | (refine Ok.mk ?_; (try simp only [Lm, La, Lc, Ln, Lt, Ld, Lr, Li, true_or, or_true, true_and, and_true]); omega) | (simp <;> fail) | skip) [runM_nil]
    refine useH cw ?_
    try simp (disch := first | (refine Ok.mk ?_; (try simp only [Lm, La, Lc, Ln, Lt, Ld, Lr, Li, true_or, or_true, true_and, and_true]); omega) | (simp <;> fail) | skip) [runM_nil]
    refine hK _ _ ?_
    clear hK K
    refine pwp_retT ⟨.inr rfl, _, _, (by simp [runM_nil, resL]; rfl), .refl _, by simp [resV, mdV], so, sc, ho, hc, by simp [rdV]⟩
end
end Go.Proofs.Ytdphjapaoaokmaa.E
/- A record, byte by byte. -/
namespace Go.Proofs.Ytdphjapaoaokmaa.E
open Go Go.RowKit Go.Proofs
set_option linter.unusedVariables false
set_option linter.unusedSimpArgs false
def goM : Md → List (List Nat) → List Nat → List Nat → Nat → List (List Nat) × Nat × Nat
  | m, out, cur, [], k => if m = .quoted ∨ m = .ended then ([], 0, 3) else (out ++ [cur], k, 0)
  | m, out, cur, c :: s, k => if (stpM m out cur c).e ≠ 0 then ([], 0, (stpM m out cur c).e) else if (stpM m out cur c).done = true then ((stpM m out cur c).out, k + 1, 0)
    else goM (stpM m out cur c).m (stpM m out cur c).out (stpM m out cur c).cur s (k + 1)
/-- The record from a place on, the place behind it, and what is wrong. -/
def recM (b : List Nat) (k : Nat) : List (List Nat) × Nat × Nat := goM .begin [] [] (b.drop k) k
/-- A state in which a byte is awaited. -/
structure GoodM (m : Md) (out : List (List Nat)) (cur : List Nat) : Prop where
  md : m ≠ .wrong ∧ m ≠ .none
  ol : out.length < 50
  cl : cur.length ≤ 1000
  cw : ∀ x ∈ cur, x < 256
theorem behindM_good {out : List (List Nat)} {cur : List Nat} {c : Nat} (ho : out.length < 50) (hc : cur.length ≤ 1000) (hw : ∀ x ∈ cur, x < 256) (he : (behindM out cur c).e = 0) (hd : (behindM out cur c).done = false) :
    GoodM (behindM out cur c).m (behindM out cur c).out (behindM out cur c).cur ∧ (behindM out cur c).m ≠ .quoted ∧ ((behindM out cur c).m = .ended ↔ c = 13) ∧ c ≠ 34 := by
  unfold behindM at *
  split at he
  · rename_i h
    simp only [if_pos h] at *
    subst h
    refine ⟨⟨by simp, ?_, by simp, by simp⟩, by simp, by simp, by simp⟩
    simp only [List.length_append, List.length_singleton]
    split at he
    · cases he
    · omega
  · rename_i h
    simp only [if_neg h] at *
    split at he
    · rename_i h2
      simp [if_pos h2] at hd
    · rename_i h2
      simp only [if_neg h2] at *
      split at he
      · rename_i h3
        simp only [if_pos h3] at *
        exact ⟨⟨by simp, ho, hc, hw⟩, by simp, by simp [h3], by omega⟩
      · cases he
theorem addM_good {m : Md} {out : List (List Nat)} {cur : List Nat} {c : Nat} (hm : m ≠ .wrong ∧ m ≠ .none) (ho : out.length < 50) (hc : cur.length ≤ 1000) (hw : ∀ x ∈ cur, x < 256) (hcc : c < 256) (he : (addM m out cur c).e = 0) :
    GoodM (addM m out cur c).m (addM m out cur c).out (addM m out cur c).cur := by
  unfold addM at *
  refine ⟨hm, ho, ?_, ?_⟩
  · simp only [List.length_append, List.length_singleton]
    simp only at he
    split at he
    · cases he
    · omega
  · intro x hx
    rcases List.mem_append.1 hx with hx | hx
    · exact hw x hx
    · simp only [List.mem_singleton] at hx
      omega
theorem plainM_good {out : List (List Nat)} {cur : List Nat} {c : Nat} (ho : out.length < 50) (hc : cur.length ≤ 1000) (hw : ∀ x ∈ cur, x < 256) (hcc : c < 256) (he : (plainM out cur c).e = 0) (hd : (plainM out cur c).done = false) :
    GoodM (plainM out cur c).m (plainM out cur c).out (plainM out cur c).cur ∧ (plainM out cur c).m ≠ .quoted ∧ ((plainM out cur c).m = .ended ↔ c = 13) ∧ c ≠ 34 := by
  unfold plainM at *
  split at he
  · rename_i h
    simp only [if_pos h] at *
    exact behindM_good ho hc hw he hd
  · rename_i h
    simp only [if_neg h] at *
    split at he
    · cases he
    · rename_i h2
      simp only [if_neg h2] at *
      exact ⟨addM_good (by simp) ho hc hw hcc he, by simp [addM], by simp [addM]; omega, h2⟩
/-- A step that goes on. -/
theorem stpM_good {m : Md} {out : List (List Nat)} {cur : List Nat} {c : Nat} (h : GoodM m out cur) (hcc : c < 256) (he : (stpM m out cur c).e = 0) (hd : (stpM m out cur c).done = false) :
    GoodM (stpM m out cur c).m (stpM m out cur c).out (stpM m out cur c).cur ∧ ((stpM m out cur c).m = .quoted ↔ ¬ (m = .quoted ↔ c = 34)) ∧ ((stpM m out cur c).m = .ended ↔ c = 13 ∧ m ≠ .quoted) := by
  obtain ⟨hm, ho, hc, hw⟩ := h
  cases m with
  | begin =>
    simp only [stpM] at *
    split at he
    · rename_i h
      simp only [if_pos h] at *
      exact ⟨⟨by simp, ho, hc, hw⟩, by simp [h], by simp [h]⟩
    · rename_i h
      simp only [if_neg h] at *
      obtain ⟨k1, k2, k3, k4⟩ := plainM_good ho hc hw hcc he hd
      exact ⟨k1, by simp [k2, h], by simp [k3]⟩
  | plain =>
    simp only [stpM] at *
    obtain ⟨k1, k2, k3, k4⟩ := plainM_good ho hc hw hcc he hd
    exact ⟨k1, by simp [k2, k4], by simp [k3]⟩
  | quoted =>
    simp only [stpM] at *
    split at he
    · rename_i h
      simp only [if_pos h] at *
      exact ⟨⟨by simp, ho, hc, hw⟩, by simp [h], by simp⟩
    · rename_i h
      simp only [if_neg h] at *
      exact ⟨addM_good (by simp) ho hc hw hcc he, by simp [addM, h], by simp [addM]⟩
  | closed =>
    simp only [stpM] at *
    split at he
    · rename_i h
      simp only [if_pos h] at *
      exact ⟨addM_good (by simp) ho hc hw hcc he, by simp [addM, h], by simp [addM, h]⟩
    · rename_i h
      simp only [if_neg h] at *
      obtain ⟨k1, k2, k3, k4⟩ := behindM_good ho hc hw he hd
      exact ⟨k1, by simp [k2, h], by simp [k3]⟩
  | ended =>
    simp only [stpM] at *
    split at he
    · rename_i h
      simp only [if_pos h] at *
      obtain ⟨k1, k2, k3, k4⟩ := behindM_good ho hc hw he hd
      exact ⟨k1, by simp [k2, k4], by simp [k3]⟩
    · cases he
  | wrong => exact absurd rfl hm.1
  | none => exact absurd rfl hm.2
def fM : Md → Nat
  | .begin => 24
  | .plain => 31
  | .quoted => 30
  | .closed => 38
  | _ => 44
theorem mdV_fn (r : Nat) {m : Md} (h : m ≠ .wrong ∧ m ≠ .none) : mdV r m = .fn (.func (fM m)) [.ptr (some (r, 0))] [] := by
  cases m <;> first | rfl | exact absurd rfl h.1 | exact absurd rfl h.2
theorem stepM_ok {r so sc : Nat} {out : List (List Nat)} {cur : List Nat} {c : Nat} {H : Heap} {m : Md} (h : GoodM m out cur) (ho : so = 1 ∨ so = 0 ∧ out.length = 0) (hc : sc = 1 ∨ sc = 0 ∧ cur.length = 0) :
    SpecH Try.prog (fM m) ((r, rdV so sc out cur false 0) :: H) [.ptr (some (r, 0)), .int .u8 c] (AnsM r H (stpM m out cur c)) := by
  obtain ⟨hm, h1, h2, h3⟩ := h
  cases m with
  | begin => exact begin_ok ho hc h3 (by omega) h2
  | plain => exact plain_ok ho hc h3 (by omega) h2
  | quoted => exact quoted_ok ho hc h2
  | closed => exact closed_ok ho hc h3 (by omega) h2
  | ended => exact ended_ok ho hc h3 (by omega) h2
  | wrong => exact absurd rfl hm.1
  | none => exact absurd rfl hm.2
theorem isOpen_ok (r c : Nat) (was : Bool) : PSpec Try.prog 25 [.ptr (some (r, 0)), .int .u8 c, .bool was] (.bool (was != decide (c = 34))) := by
  intro H
  refine spec_of t25 (by simp [p25]) ?_
  simp only [p25]
  first | refine pwp_sr ?_ | refine pwp_regionM ?_
  intro K hK
  simp (disch := first | (refine Ok.mk ?_; (try simp only [Lm, La, Lc, Ln, Lt, Ld, Lr, Li, true_or, or_true, true_and, and_true]); omega) | (simp <;> fail) | skip) [runM_nil]
  refine hK _ _ ?_
  clear hK K
  by_cases h : c = 34
  · subst h
    cases was
    · first | refine pwp_sr ?_ | refine pwp_regionM ?_
      intro K hK
      simp (disch := first | (refine Ok.mk ?_; (try simp only [Lm, La, Lc, Ln, Lt, Ld, Lr, Li, true_or, or_true, true_and, and_true]); omega) | (simp <;> fail) | skip) [runM_nil]
      refine hK _ _ ?_
      clear hK K
      refine pwp_ret ⟨.inr rfl, _, _, (by simp (disch := first | (refine Ok.mk ?_; (try simp only [Lm, La, Lc, Ln, Lt, Ld, Lr, Li, true_or, or_true, true_and, and_true]); omega) | (simp <;> fail) | skip) [runM_nil, resL]; rfl), .refl _, by simp (disch := first | (refine Ok.mk ?_; (try simp only [Lm, La, Lc, Ln, Lt, Ld, Lr, Li, true_or, or_true, true_and, and_true]); omega) | (simp <;> fail) | skip) [resV], rfl⟩
    · first | refine pwp_sr ?_ | refine pwp_regionM ?_
      intro K hK
      simp (disch := first | (refine Ok.mk ?_; (try simp only [Lm, La, Lc, Ln, Lt, Ld, Lr, Li, true_or, or_true, true_and, and_true]); omega) | (simp <;> fail) | skip) [runM_nil]
      refine hK _ _ ?_
      clear hK K
      refine pwp_ret ⟨.inr rfl, _, _, (by simp (disch := first | (refine Ok.mk ?_; (try simp only [Lm, La, Lc, Ln, Lt, Ld, Lr, Li, true_or, or_true, true_and, and_true]); omega) | (simp <;> fail) | skip) [runM_nil, resL]; rfl), .refl _, by simp (disch := first | (refine Ok.mk ?_; (try simp only [Lm, La, Lc, Ln, Lt, Ld, Lr, Li, true_or, or_true, true_and, and_true]); omega) | (simp <;> fail) | skip) [resV], rfl⟩
  · have g : ¬ (c : Int) = 34 := by omega
    cases was
    · first | refine pwp_sr ?_ | refine pwp_regionM ?_
      intro K hK
      simp (disch := first | (refine Ok.mk ?_; (try simp only [Lm, La, Lc, Ln, Lt, Ld, Lr, Li, true_or, or_true, true_and, and_true]); omega) | (simp <;> fail) | skip) [runM_nil, g]
      refine hK _ _ ?_
      clear hK K
      refine pwp_ret ⟨.inr rfl, _, _, (by simp (disch := first | (refine Ok.mk ?_; (try simp only [Lm, La, Lc, Ln, Lt, Ld, Lr, Li, true_or, or_true, true_and, and_true]); omega) | (simp <;> fail) | skip) [runM_nil, resL, h]; rfl), .refl _, by simp (disch := first | (refine Ok.mk ?_; (try simp only [Lm, La, Lc, Ln, Lt, Ld, Lr, Li, true_or, or_true, true_and, and_true]); omega) | (simp <;> fail) | skip) [resV, h], rfl⟩
    · first | refine pwp_sr ?_ | refine pwp_regionM ?_
      intro K hK
      simp (disch := first | (refine Ok.mk ?_; (try simp only [Lm, La, Lc, Ln, Lt, Ld, Lr, Li, true_or, or_true, true_and, and_true]); omega) | (simp <;> fail) | skip) [runM_nil, g]
      refine hK _ _ ?_
      clear hK K
      refine pwp_ret ⟨.inr rfl, _, _, (by simp (disch := first | (refine Ok.mk ?_; (try simp only [Lm, La, Lc, Ln, Lt, Ld, Lr, Li, true_or, or_true, true_and, and_true]); omega) | (simp <;> fail) | skip) [runM_nil, resL, h]; rfl), .refl _, by simp (disch := first | (refine Ok.mk ?_; (try simp only [Lm, La, Lc, Ln, Lt, Ld, Lr, Li, true_or, or_true, true_and, and_true]); omega) | (simp <;> fail) | skip) [resV, h], rfl⟩
end Go.Proofs.Ytdphjapaoaokmaa.E
/- The next record. -/
namespace Go.Proofs.Ytdphjapaoaokmaa.E
open Go Go.RowKit Go.Proofs
set_option linter.unusedVariables false
set_option linter.unusedSimpArgs false
def recV (x : List (List Nat) × Nat × Nat) : PV := .tup [.lst 1 (x.1.map sV) (decide (x.2.2 ≠ 0)), .int .i64 (x.2.1 : Nat), .int .i64 (x.2.2 : Nat)]
theorem next_ok {s : Nat} {xs : List PV} {o : Bool} {b : List Nat} (hx : xs = b.map u8) (hs : s = 1 ∨ b.length = 0) (hw : ∀ x ∈ b, x < 256) (hl : b.length ≤ 1000000) (k0 : Nat) (hk0 : k0 ≤ b.length) :
    PSpec Try.prog 17 [.lst s xs o, .int .i64 k0] (recV (recM b k0)) := by
  intro H
  have hmix := mix06
  refine spec_ofU t17 (by simp [p17]) ?_
  simp only [p17]
  first | refine pwp_sr ?_ | refine pwp_regionM ?_
  intro K hK
  simp (disch := first | (refine Ok.mk ?_; (try simp only [Lm, La, Lc, Ln, Lt, Ld, Lr, Li, true_or, or_true, true_and, and_true]); omega) | (simp <;> fail) | skip) [runM_nil]
  refine hK _ _ ?_
  clear hK K
  first | refine pwp_sr ?_ | refine pwp_regionM ?_
  intro K hK
  simp (disch := first | (refine Ok.mk ?_; (try simp only [Lm, La, Lc, Ln, Lt, Ld, Lr, Li, true_or, or_true, true_and, and_true]); omega) | (simp <;> fail) | skip) [runM_nil]
  intro r h_r
  try simp (disch := first | (refine Ok.mk ?_; (try simp only [Lm, La, Lc, Ln, Lt, Ld, Lr, Li, true_or, or_true, true_and, and_true]); omega) | (simp <;> fail) | skip) [runM_nil]
  refine hK _ _ ?_
  clear hK K
  first | refine pwp_sr ?_ | refine pwp_regionM ?_
  intro K hK
  simp (disch := first | (refine Ok.mk ?_; (try simp only [Lm, La, Lc, Ln, Lt, Ld, Lr, Li, true_or, or_true, true_and, and_true]); omega) | (simp <;> fail) | skip) [runM_nil]
  refine hK _ _ ?_
  clear hK K
  first | refine pwp_sr ?_ | refine pwp_regionM ?_
  intro K hK
  simp (disch := first | (refine Ok.mk ?_; (try simp only [Lm, La, Lc, Ln, Lt, Ld, Lr, Li, true_or, or_true, true_and, and_true]); omega) | (simp <;> fail) | skip) [runM_nil]
  refine hK _ _ ?_
  clear hK K
  refine pwp_seq (pwp_block ?_)
  refine pwp_loopK [0, 1, 7, 9, 10, 11] (fun q st H' => ∃ (k : Nat) (m : Md) (out : List (List Nat)) (cur : List Nat) (so sc : Nat), k ≤ b.length ∧ GoodM m out cur ∧ (so = 1 ∨ so = 0 ∧ out.length = 0) ∧ (sc = 1 ∨ sc = 0 ∧ cur.length = 0) ∧ recM b k0 = goM m out cur (b.drop k) k ∧
      q = b.length - k ∧ H' = (r, rdV so sc out cur false 0) :: H ∧ st = MS 75 [(0, .lst s xs o), (1, .int .i64 k), (7, .ptr (some (r, 0))), (9, .bool (decide (m = .quoted))), (10, .bool (decide (m = .ended))), (11, mdV r m)]) (n := b.length - k0)
    ⟨_, .refl _, k0, .begin, [], [], 0, 0, hk0, ⟨by simp, by simp, by simp, by simp⟩, .inr ⟨rfl, rfl⟩, .inr ⟨rfl, rfl⟩, rfl, rfl, by simp [rdV], by simp [keepL_MS, keepA, getS, mdV]⟩ ?_
  rintro q st H' ⟨k, m, out, cur, so, sc, hk, hG, hso, hsc, hrec, rfl, rfl, rfl⟩
  have hxl : xs.length = b.length := by rw [hx, List.length_map]
  by_cases hlt : k < b.length
  · obtain rfl : s = 1 := hs.resolve_right (by omega)
    have hge : b[k]? = some b[k] := List.getElem?_eq_getElem hlt
    have hxg : xs[k]? = some (.int .u8 (b[k] : Nat)) := by rw [hx, List.getElem?_map, hge]; rfl
    have hcb : b[k] < 256 := hw _ (List.getElem_mem hlt)
    rw [List.drop_eq_getElem_cons hlt] at hrec
    generalize b[k] = c at *
    rw [goM] at hrec
    have hgood := fun he hd => stpM_good (c := c) hG hcb he hd
    have cs := stepM_ok (r := r) (H := H) (c := c) hG hso hsc
    rw [mdV_fn r hG.md]
    have hco := isOpen_ok r c (decide (m = .quoted))
    generalize hX : stpM m out cur c = x at *
    refine pwp_seq ?_
    first | refine pwp_sr ?_ | refine pwp_regionM ?_
    intro K hK
    simp (disch := first | (refine Ok.mk ?_; (try simp only [Lm, La, Lc, Ln, Lt, Ld, Lr, Li, true_or, or_true, true_and, and_true]); omega) | (simp <;> fail) | skip) [runM_nil, hxl]
    refine hK _ _ ?_
    clear hK K
    refine pwp_cT (by simp) (pwp_skip ?_)
    refine pwp_seq (pwp_block ?_)
    first | refine pwp_sr ?_ | refine pwp_regionM ?_
    intro K hK
    simp (disch := first | (refine Ok.mk ?_; (try simp only [Lm, La, Lc, Ln, Lt, Ld, Lr, Li, true_or, or_true, true_and, and_true]); omega) | (simp <;> fail) | skip) [runM_nil, hxg, hxl]
    refine hK _ _ ?_
    clear hK K
    first | refine pwp_sr ?_ | refine pwp_regionM ?_
    intro K hK
    simp (disch := first | (refine Ok.mk ?_; (try simp only [Lm, La, Lc, Ln, Lt, Ld, Lr, Li, true_or, or_true, true_and, and_true]); omega) | (simp <;> fail) | skip) [runM_nil]
    refine hK _ _ ?_
    clear hK K
    first | refine pwp_sr ?_ | refine pwp_regionM ?_
    intro K hK
    simp (disch := first | (refine Ok.mk ?_; (try simp only [Lm, La, Lc, Ln, Lt, Ld, Lr, Li, true_or, or_true, true_and, and_true]); omega) | (simp <;> fail) | skip) [runM_nil]
    refine useH cs ?_
    try simp (disch := first | (refine Ok.mk ?_; (try simp only [Lm, La, Lc, Ln, Lt, Ld, Lr, Li, true_or, or_true, true_and, and_true]); omega) | (simp <;> fail) | skip) [runM_nil]
    rintro v H' ⟨rfl, so2, sc2, h1, h2, rfl⟩
    try simp (disch := first | (refine Ok.mk ?_; (try simp only [Lm, La, Lc, Ln, Lt, Ld, Lr, Li, true_or, or_true, true_and, and_true]); omega) | (simp <;> fail) | skip) [runM_nil]
    refine hK _ _ ?_
    clear hK K
    simp only [rdV]
    refine pwp_seq (pwp_block ?_)
    by_cases he : x.e = 0
    · rw [if_neg (by simp [he])] at hrec
      simp only [he]
      first | refine pwp_rif ?_ | refine pwp_rifE ?_
      intro K hK
      simp (disch := first | (refine Ok.mk ?_; (try simp only [Lm, La, Lc, Ln, Lt, Ld, Lr, Li, true_or, or_true, true_and, and_true]); omega) | (simp <;> fail) | skip) [runM_nil]
      refine hK _ _ ?_
      clear hK K
      refine ifF (by simp [runM_nil]) ?_
      cases hd : x.done with
      | true =>
        rw [if_pos hd] at hrec
        first | refine pwp_rif ?_ | refine pwp_rifE ?_
        intro K hK
        simp (disch := first | (refine Ok.mk ?_; (try simp only [Lm, La, Lc, Ln, Lt, Ld, Lr, Li, true_or, or_true, true_and, and_true]); omega) | (simp <;> fail) | skip) [runM_nil]
        refine hK _ _ ?_
        clear hK K
        refine ifT (by simp (disch := first | (refine Ok.mk ?_; (try simp only [Lm, La, Lc, Ln, Lt, Ld, Lr, Li, true_or, or_true, true_and, and_true]); omega) | (simp <;> fail) | skip) [runM_nil]) ?_
        first | refine pwp_sr ?_ | refine pwp_regionM ?_
        intro K hK
        simp (disch := first | (refine Ok.mk ?_; (try simp only [Lm, La, Lc, Ln, Lt, Ld, Lr, Li, true_or, or_true, true_and, and_true]); omega) | (simp <;> fail) | skip) [runM_nil]
        refine hK _ _ ?_
        clear hK K
        refine pwp_ret ⟨.inr rfl, _, _, _, (by simp [runM_nil, resL]; rfl), (.cons _ (.refl _)), ?_, rfl, rfl⟩
        rw [hrec]
        rcases h1 with rfl | ⟨rfl, h1⟩
        · simp [resV, recV]
        · simp [resV, recV, List.eq_nil_of_length_eq_zero h1]
      | false =>
        rw [if_neg (by simp [hd])] at hrec
        obtain ⟨g1, g2, g3⟩ := hgood he hd
        first | refine pwp_rif ?_ | refine pwp_rifE ?_
        intro K hK
        simp (disch := first | (refine Ok.mk ?_; (try simp only [Lm, La, Lc, Ln, Lt, Ld, Lr, Li, true_or, or_true, true_and, and_true]); omega) | (simp <;> fail) | skip) [runM_nil]
        refine hK _ _ ?_
        clear hK K
        refine ifF (by simp [runM_nil]) (pwp_skip ?_)
        have e9 : (decide (m = .quoted) != decide (c = 34)) = decide (x.m = .quoted) := by
          by_cases q1 : m = .quoted <;> by_cases q2 : c = 34 <;> simp [q1, q2] at g2 ⊢ <;> simp [g2]
        have e10 : (decide (c = 13) && !decide (m = .quoted)) = decide (x.m = .ended) := by
          by_cases q1 : m = .quoted <;> by_cases q2 : c = 13 <;> simp [q1, q2] at g3 ⊢ <;> simp [g3]
        rw [e9] at hco
        rw [show b.drop (k + 1) = b.drop (k + 1) from rfl] at hrec
        by_cases h13 : c = 13
        · have i13 : (c : Int) = 13 := by omega
          simp only [i13] at hco
          rw [decide_eq_true h13, Bool.true_and] at e10
          cases hmq : decide (m = .quoted) with
          | true =>
            rw [hmq] at hco e10
            first | refine pwp_sr ?_ | refine pwp_regionM ?_
            intro K hK
            simp (disch := first | (refine Ok.mk ?_; (try simp only [Lm, La, Lc, Ln, Lt, Ld, Lr, Li, true_or, or_true, true_and, and_true]); omega) | (simp <;> fail) | skip) [runM_nil, i13]
            refine useP (hco) ?_
            simp (disch := first | (refine Ok.mk ?_; (try simp only [Lm, La, Lc, Ln, Lt, Ld, Lr, Li, true_or, or_true, true_and, and_true]); omega) | (simp <;> fail) | skip) [runM_nil, i13]
            refine hK _ _ ?_
            clear hK K
            first | refine pwp_sr ?_ | refine pwp_regionM ?_
            intro K hK
            simp (disch := first | (refine Ok.mk ?_; (try simp only [Lm, La, Lc, Ln, Lt, Ld, Lr, Li, true_or, or_true, true_and, and_true]); omega) | (simp <;> fail) | skip) [runM_nil]
            refine hK _ _ ?_
            clear hK K
            exact ⟨_, by omega, _, .refl _, k + 1, x.m, x.out, x.cur, so2, sc2, by omega, g1, h1, h2, hrec, rfl, by simp [rdV, hd], by simp [keepL_MS, keepA, getS, ← e10]⟩
          | false =>
            rw [hmq] at hco e10
            first | refine pwp_sr ?_ | refine pwp_regionM ?_
            intro K hK
            simp (disch := first | (refine Ok.mk ?_; (try simp only [Lm, La, Lc, Ln, Lt, Ld, Lr, Li, true_or, or_true, true_and, and_true]); omega) | (simp <;> fail) | skip) [runM_nil, i13]
            refine useP (hco) ?_
            simp (disch := first | (refine Ok.mk ?_; (try simp only [Lm, La, Lc, Ln, Lt, Ld, Lr, Li, true_or, or_true, true_and, and_true]); omega) | (simp <;> fail) | skip) [runM_nil, i13]
            refine hK _ _ ?_
            clear hK K
            first | refine pwp_sr ?_ | refine pwp_regionM ?_
            intro K hK
            simp (disch := first | (refine Ok.mk ?_; (try simp only [Lm, La, Lc, Ln, Lt, Ld, Lr, Li, true_or, or_true, true_and, and_true]); omega) | (simp <;> fail) | skip) [runM_nil]
            refine hK _ _ ?_
            clear hK K
            exact ⟨_, by omega, _, .refl _, k + 1, x.m, x.out, x.cur, so2, sc2, by omega, g1, h1, h2, hrec, rfl, by simp [rdV, hd], by simp [keepL_MS, keepA, getS, ← e10]⟩
        · have i13 : ¬ (c : Int) = 13 := by omega
          rw [decide_eq_false h13, Bool.false_and] at e10
          first | refine pwp_sr ?_ | refine pwp_regionM ?_
          intro K hK
          simp (disch := first | (refine Ok.mk ?_; (try simp only [Lm, La, Lc, Ln, Lt, Ld, Lr, Li, true_or, or_true, true_and, and_true]); omega) | (simp <;> fail) | skip) [runM_nil, i13]
          refine useP (hco) ?_
          simp (disch := first | (refine Ok.mk ?_; (try simp only [Lm, La, Lc, Ln, Lt, Ld, Lr, Li, true_or, or_true, true_and, and_true]); omega) | (simp <;> fail) | skip) [runM_nil, i13]
          refine hK _ _ ?_
          clear hK K
          first | refine pwp_sr ?_ | refine pwp_regionM ?_
          intro K hK
          simp (disch := first | (refine Ok.mk ?_; (try simp only [Lm, La, Lc, Ln, Lt, Ld, Lr, Li, true_or, or_true, true_and, and_true]); omega) | (simp <;> fail) | skip) [runM_nil]
          refine hK _ _ ?_
          clear hK K
          exact ⟨_, by omega, _, .refl _, k + 1, x.m, x.out, x.cur, so2, sc2, by omega, g1, h1, h2, hrec, rfl, by simp [rdV, hd], by simp [keepL_MS, keepA, getS, ← e10]⟩
    · rw [if_pos he] at hrec
      have he2 : ¬ (x.e : Int) = 0 := by omega
      first | refine pwp_rif ?_ | refine pwp_rifE ?_
      intro K hK
      simp (disch := first | (refine Ok.mk ?_; (try simp only [Lm, La, Lc, Ln, Lt, Ld, Lr, Li, true_or, or_true, true_and, and_true]); omega) | (simp <;> fail) | skip) [runM_nil, he, he2]
      refine hK _ _ ?_
      clear hK K
      refine ifT (by simp [runM_nil, he, he2]) ?_
      first | refine pwp_sd hmix ?_ | refine pwp_drawM hmix ?_
      intro K hK
      simp (disch := first | (refine Ok.mk ?_; (try simp only [Lm, La, Lc, Ln, Lt, Ld, Lr, Li, true_or, or_true, true_and, and_true]); omega) | (simp <;> fail) | skip) [runM_nil]
      refine hK _ _ ?_
      clear hK K
      refine pwp_ret ⟨.inr rfl, _, _, _, (by simp [runM_nil, resL]; rfl), (.cons _ (.refl _)), ?_, rfl, rfl⟩
      rw [hrec]
      simp [resV, recV, he]
  · obtain rfl : k = b.length := by omega
    rw [List.drop_length, goM] at hrec
    refine pwp_seq ?_
    first | refine pwp_sr ?_ | refine pwp_regionM ?_
    intro K hK
    simp (disch := first | (refine Ok.mk ?_; (try simp only [Lm, La, Lc, Ln, Lt, Ld, Lr, Li, true_or, or_true, true_and, and_true]); omega) | (simp <;> fail) | skip) [runM_nil, hxl]
    refine hK _ _ ?_
    clear hK K
    refine pwp_cF (by simp) (pwp_exit ?_)
    by_cases hq : m = .quoted ∨ m = .ended
    · rw [if_pos hq] at hrec
      rcases hq with rfl | rfl
      · first | refine pwp_rif ?_ | refine pwp_rifE ?_
        intro K hK
        simp (disch := first | (refine Ok.mk ?_; (try simp only [Lm, La, Lc, Ln, Lt, Ld, Lr, Li, true_or, or_true, true_and, and_true]); omega) | (simp <;> fail) | skip) [runM_nil]
        refine hK _ _ ?_
        clear hK K
        refine ifT (by simp (disch := first | (refine Ok.mk ?_; (try simp only [Lm, La, Lc, Ln, Lt, Ld, Lr, Li, true_or, or_true, true_and, and_true]); omega) | (simp <;> fail) | skip) [runM_nil]) ?_
        first | refine pwp_sr ?_ | refine pwp_regionM ?_
        intro K hK
        simp (disch := first | (refine Ok.mk ?_; (try simp only [Lm, La, Lc, Ln, Lt, Ld, Lr, Li, true_or, or_true, true_and, and_true]); omega) | (simp <;> fail) | skip) [runM_nil]
        refine hK _ _ ?_
        clear hK K
        refine pwp_retT ⟨.inr rfl, _, _, _, (by simp [runM_nil, resL]; rfl), (.cons _ (.refl _)), ?_, rfl, rfl⟩
        rw [hrec]
        simp [resV, recV]
      · first | refine pwp_rif ?_ | refine pwp_rifE ?_
        intro K hK
        simp (disch := first | (refine Ok.mk ?_; (try simp only [Lm, La, Lc, Ln, Lt, Ld, Lr, Li, true_or, or_true, true_and, and_true]); omega) | (simp <;> fail) | skip) [runM_nil]
        refine hK _ _ ?_
        clear hK K
        refine ifT (by simp (disch := first | (refine Ok.mk ?_; (try simp only [Lm, La, Lc, Ln, Lt, Ld, Lr, Li, true_or, or_true, true_and, and_true]); omega) | (simp <;> fail) | skip) [runM_nil]) ?_
        first | refine pwp_sr ?_ | refine pwp_regionM ?_
        intro K hK
        simp (disch := first | (refine Ok.mk ?_; (try simp only [Lm, La, Lc, Ln, Lt, Ld, Lr, Li, true_or, or_true, true_and, and_true]); omega) | (simp <;> fail) | skip) [runM_nil]
        refine hK _ _ ?_
        clear hK K
        refine pwp_retT ⟨.inr rfl, _, _, _, (by simp [runM_nil, resL]; rfl), (.cons _ (.refl _)), ?_, rfl, rfl⟩
        rw [hrec]
        simp [resV, recV]
    · rw [if_neg hq] at hrec
      obtain ⟨q1, q2⟩ : ¬ m = .quoted ∧ ¬ m = .ended := ⟨fun h => hq (.inl h), fun h => hq (.inr h)⟩
      obtain ⟨hm, ho, hc, hcw⟩ := hG
      have cf := field_ok (r := r) (H := H) (d := false) (e := 0) hso hsc hcw (by omega) (by omega)
      simp only [q1, q2, rdV] at cf ⊢
      first | refine pwp_rif ?_ | refine pwp_rifE ?_
      intro K hK
      simp (disch := first | (refine Ok.mk ?_; (try simp only [Lm, La, Lc, Ln, Lt, Ld, Lr, Li, true_or, or_true, true_and, and_true]); omega) | (simp <;> fail) | skip) [runM_nil]
      refine hK _ _ ?_
      clear hK K
      refine ifF (by simp (disch := first | (refine Ok.mk ?_; (try simp only [Lm, La, Lc, Ln, Lt, Ld, Lr, Li, true_or, or_true, true_and, and_true]); omega) | (simp <;> fail) | skip) [runM_nil]) (pwp_skip ?_)
      first | refine pwp_sr ?_ | refine pwp_regionM ?_
      intro K hK
      simp (disch := first | (refine Ok.mk ?_; (try simp only [Lm, La, Lc, Ln, Lt, Ld, Lr, Li, true_or, or_true, true_and, and_true]); omega) | (simp <;> fail) | skip) [runM_nil]
      refine useH cf ?_
      try simp (disch := first | (refine Ok.mk ?_; (try simp only [Lm, La, Lc, Ln, Lt, Ld, Lr, Li, true_or, or_true, true_and, and_true]); omega) | (simp <;> fail) | skip) [runM_nil]
      refine hK _ _ ?_
      clear hK K
      first | refine pwp_sr ?_ | refine pwp_regionM ?_
      intro K hK
      simp (disch := first | (refine Ok.mk ?_; (try simp only [Lm, La, Lc, Ln, Lt, Ld, Lr, Li, true_or, or_true, true_and, and_true]); omega) | (simp <;> fail) | skip) [runM_nil]
      refine hK _ _ ?_
      clear hK K
      refine pwp_ret ⟨.inr rfl, _, _, _, (by simp [runM_nil, resL]; rfl), (.cons _ (.refl _)), ?_, rfl, rfl⟩
      rw [hrec]
      simp [resV, recV]
end Go.Proofs.Ytdphjapaoaokmaa.E
/- The document's fields. -/
namespace Go.Proofs.Ytdphjapaoaokmaa.E
open Go Go.RowKit Go.Proofs
set_option linter.unusedVariables false
set_option linter.unusedSimpArgs false
/-- How many bytes the end of a line has. -/
def endsB (b : List Nat) (k : Nat) : Nat := if b[k]? = some 10 then 1 else if b[k]? = some 13 ∧ b[k + 1]? = some 10 then 2 else 0
theorem ends_ok {s : Nat} {xs : List PV} {o : Bool} {b : List Nat} (hx : xs = b.map u8) (hs : s = 1 ∨ b.length = 0) (hl : b.length ≤ 1000000) (k : Nat) (hk : k ≤ 2000000) :
    PSpec Try.prog 23 [.lst s xs o, .int .i64 k] (.int .i64 (endsB b k : Nat)) := by
  intro H
  have hxl : xs.length = b.length := by rw [hx, List.length_map]
  have hxg : ∀ i (h : i < b.length), xs[i]? = some (.int .u8 (b[i] : Nat)) := fun i h => by rw [hx, List.getElem?_map, List.getElem?_eq_getElem h]; rfl
  refine spec_of t23 (by simp [p23]) ?_
  simp only [p23]
  first | refine pwp_sr ?_ | refine pwp_regionM ?_
  intro K hK
  simp (disch := first | (refine Ok.mk ?_; (try simp only [Lm, La, Lc, Ln, Lt, Ld, Lr, Li, true_or, or_true, true_and, and_true]); omega) | (simp <;> fail) | skip) [runM_nil]
  refine hK _ _ ?_
  clear hK K
  unfold endsB
  by_cases hlt : k < b.length
  · obtain rfl : s = 1 := hs.resolve_right (by omega)
    have h1 := hxg k hlt
    rw [List.getElem?_eq_getElem hlt]
    generalize b[k] = c at *
    by_cases h10 : c = 10
    · subst h10
      first | refine pwp_rif ?_ | refine pwp_rifE ?_
      intro K hK
      simp (disch := first | (refine Ok.mk ?_; (try simp only [Lm, La, Lc, Ln, Lt, Ld, Lr, Li, true_or, or_true, true_and, and_true]); omega) | (simp <;> fail) | skip) [runM_nil, hxl, h1]
      refine hK _ _ ?_
      clear hK K
      refine ifT (by simp (disch := first | (refine Ok.mk ?_; (try simp only [Lm, La, Lc, Ln, Lt, Ld, Lr, Li, true_or, or_true, true_and, and_true]); omega) | (simp <;> fail) | skip) [runM_nil]) ?_
      first | refine pwp_sr ?_ | refine pwp_regionM ?_
      intro K hK
      simp (disch := first | (refine Ok.mk ?_; (try simp only [Lm, La, Lc, Ln, Lt, Ld, Lr, Li, true_or, or_true, true_and, and_true]); omega) | (simp <;> fail) | skip) [runM_nil]
      refine hK _ _ ?_
      clear hK K
      refine pwp_retT ⟨.inr rfl, _, _, (by simp (disch := first | (refine Ok.mk ?_; (try simp only [Lm, La, Lc, Ln, Lt, Ld, Lr, Li, true_or, or_true, true_and, and_true]); omega) | (simp <;> fail) | skip) [runM_nil, resL]; rfl), .refl _, by simp (disch := first | (refine Ok.mk ?_; (try simp only [Lm, La, Lc, Ln, Lt, Ld, Lr, Li, true_or, or_true, true_and, and_true]); omega) | (simp <;> fail) | skip) [resV], rfl⟩
    · have g10 : ¬ (c : Int) = 10 := by omega
      have i10 : ¬ (some c = some 10) := by simpa using h10
      rw [if_neg i10]
      first | refine pwp_rif ?_ | refine pwp_rifE ?_
      intro K hK
      simp (disch := first | (refine Ok.mk ?_; (try simp only [Lm, La, Lc, Ln, Lt, Ld, Lr, Li, true_or, or_true, true_and, and_true]); omega) | (simp <;> fail) | skip) [runM_nil, hxl, h1, g10]
      refine hK _ _ ?_
      clear hK K
      refine ifF (by simp [runM_nil, g10]) (pwp_skip ?_)
      by_cases hlt2 : k + 1 < b.length
      · have h2 := hxg (k + 1) hlt2
        rw [List.getElem?_eq_getElem hlt2]
        generalize b[k + 1] = d at *
        have hlt3 : (k : Int) + 1 < b.length := by omega
        have e3 : ((k : Int) + 1).toNat = k + 1 := by omega
        by_cases h13 : c = 13
        · subst h13
          by_cases hd : d = 10
          · subst hd
            first | refine pwp_rif ?_ | refine pwp_rifE ?_
            intro K hK
            simp (disch := first | (refine Ok.mk ?_; (try simp only [Lm, La, Lc, Ln, Lt, Ld, Lr, Li, true_or, or_true, true_and, and_true]); omega) | (simp <;> fail) | skip) [runM_nil, hxl, h1, hlt3, e3, h2]
            refine hK _ _ ?_
            clear hK K
            refine ifT (by simp (disch := first | (refine Ok.mk ?_; (try simp only [Lm, La, Lc, Ln, Lt, Ld, Lr, Li, true_or, or_true, true_and, and_true]); omega) | (simp <;> fail) | skip) [runM_nil]) ?_
            first | refine pwp_sr ?_ | refine pwp_regionM ?_
            intro K hK
            simp (disch := first | (refine Ok.mk ?_; (try simp only [Lm, La, Lc, Ln, Lt, Ld, Lr, Li, true_or, or_true, true_and, and_true]); omega) | (simp <;> fail) | skip) [runM_nil]
            refine hK _ _ ?_
            clear hK K
            refine pwp_retT ⟨.inr rfl, _, _, (by simp (disch := first | (refine Ok.mk ?_; (try simp only [Lm, La, Lc, Ln, Lt, Ld, Lr, Li, true_or, or_true, true_and, and_true]); omega) | (simp <;> fail) | skip) [runM_nil, resL]; rfl), .refl _, by simp (disch := first | (refine Ok.mk ?_; (try simp only [Lm, La, Lc, Ln, Lt, Ld, Lr, Li, true_or, or_true, true_and, and_true]); omega) | (simp <;> fail) | skip) [resV], rfl⟩
          · have gd : ¬ (d : Int) = 10 := by omega
            first | refine pwp_rif ?_ | refine pwp_rifE ?_
            intro K hK
            simp (disch := first | (refine Ok.mk ?_; (try simp only [Lm, La, Lc, Ln, Lt, Ld, Lr, Li, true_or, or_true, true_and, and_true]); omega) | (simp <;> fail) | skip) [runM_nil, hxl, h1, hlt3, e3, h2, gd]
            refine hK _ _ ?_
            clear hK K
            refine ifF (by simp [runM_nil, gd]) (pwp_skip ?_)
            first | refine pwp_sr ?_ | refine pwp_regionM ?_
            intro K hK
            simp (disch := first | (refine Ok.mk ?_; (try simp only [Lm, La, Lc, Ln, Lt, Ld, Lr, Li, true_or, or_true, true_and, and_true]); omega) | (simp <;> fail) | skip) [runM_nil]
            refine hK _ _ ?_
            clear hK K
            refine pwp_ret ⟨.inr rfl, _, _, (by simp (disch := first | (refine Ok.mk ?_; (try simp only [Lm, La, Lc, Ln, Lt, Ld, Lr, Li, true_or, or_true, true_and, and_true]); omega) | (simp <;> fail) | skip) [runM_nil, resL, hd]; rfl), .refl _, by simp (disch := first | (refine Ok.mk ?_; (try simp only [Lm, La, Lc, Ln, Lt, Ld, Lr, Li, true_or, or_true, true_and, and_true]); omega) | (simp <;> fail) | skip) [resV, hd], rfl⟩
        · have g13 : ¬ (c : Int) = 13 := by omega
          first | refine pwp_rif ?_ | refine pwp_rifE ?_
          intro K hK
          simp (disch := first | (refine Ok.mk ?_; (try simp only [Lm, La, Lc, Ln, Lt, Ld, Lr, Li, true_or, or_true, true_and, and_true]); omega) | (simp <;> fail) | skip) [runM_nil, hxl, h1, hlt3, e3, g13]
          refine hK _ _ ?_
          clear hK K
          refine ifF (by simp [runM_nil, g13]) (pwp_skip ?_)
          first | refine pwp_sr ?_ | refine pwp_regionM ?_
          intro K hK
          simp (disch := first | (refine Ok.mk ?_; (try simp only [Lm, La, Lc, Ln, Lt, Ld, Lr, Li, true_or, or_true, true_and, and_true]); omega) | (simp <;> fail) | skip) [runM_nil]
          refine hK _ _ ?_
          clear hK K
          refine pwp_ret ⟨.inr rfl, _, _, (by simp (disch := first | (refine Ok.mk ?_; (try simp only [Lm, La, Lc, Ln, Lt, Ld, Lr, Li, true_or, or_true, true_and, and_true]); omega) | (simp <;> fail) | skip) [runM_nil, resL, h13]; rfl), .refl _, by simp (disch := first | (refine Ok.mk ?_; (try simp only [Lm, La, Lc, Ln, Lt, Ld, Lr, Li, true_or, or_true, true_and, and_true]); omega) | (simp <;> fail) | skip) [resV, h13], rfl⟩
      · have hlt3 : ¬ (k : Int) + 1 < b.length := by omega
        have e2 : b[k + 1]? = none := List.getElem?_eq_none (by omega)
        first | refine pwp_rif ?_ | refine pwp_rifE ?_
        intro K hK
        simp (disch := first | (refine Ok.mk ?_; (try simp only [Lm, La, Lc, Ln, Lt, Ld, Lr, Li, true_or, or_true, true_and, and_true]); omega) | (simp <;> fail) | skip) [runM_nil, hxl, hlt3]
        refine hK _ _ ?_
        clear hK K
        refine ifF (by simp [runM_nil, hlt3]) (pwp_skip ?_)
        first | refine pwp_sr ?_ | refine pwp_regionM ?_
        intro K hK
        simp (disch := first | (refine Ok.mk ?_; (try simp only [Lm, La, Lc, Ln, Lt, Ld, Lr, Li, true_or, or_true, true_and, and_true]); omega) | (simp <;> fail) | skip) [runM_nil]
        refine hK _ _ ?_
        clear hK K
        refine pwp_ret ⟨.inr rfl, _, _, (by simp (disch := first | (refine Ok.mk ?_; (try simp only [Lm, La, Lc, Ln, Lt, Ld, Lr, Li, true_or, or_true, true_and, and_true]); omega) | (simp <;> fail) | skip) [runM_nil, resL, e2]; rfl), .refl _, by simp (disch := first | (refine Ok.mk ?_; (try simp only [Lm, La, Lc, Ln, Lt, Ld, Lr, Li, true_or, or_true, true_and, and_true]); omega) | (simp <;> fail) | skip) [resV, e2], rfl⟩
  · have e1 : b[k]? = none := List.getElem?_eq_none (by omega)
    have hlt2 : ¬ (k : Int) < b.length := by omega
    have hlt3 : ¬ (k : Int) + 1 < b.length := by omega
    first | refine pwp_rif ?_ | refine pwp_rifE ?_
    intro K hK
    simp (disch := first | (refine Ok.mk ?_; (try simp only [Lm, La, Lc, Ln, Lt, Ld, Lr, Li, true_or, or_true, true_and, and_true]); omega) | (simp <;> fail) | skip) [runM_nil, hxl, hlt2]
    refine hK _ _ ?_
    clear hK K
    refine ifF (by simp [runM_nil, hlt2]) (pwp_skip ?_)
    first | refine pwp_rif ?_ | refine pwp_rifE ?_
    intro K hK
    simp (disch := first | (refine Ok.mk ?_; (try simp only [Lm, La, Lc, Ln, Lt, Ld, Lr, Li, true_or, or_true, true_and, and_true]); omega) | (simp <;> fail) | skip) [runM_nil, hxl, hlt3]
    refine hK _ _ ?_
    clear hK K
    refine ifF (by simp [runM_nil, hlt3]) (pwp_skip ?_)
    first | refine pwp_sr ?_ | refine pwp_regionM ?_
    intro K hK
    simp (disch := first | (refine Ok.mk ?_; (try simp only [Lm, La, Lc, Ln, Lt, Ld, Lr, Li, true_or, or_true, true_and, and_true]); omega) | (simp <;> fail) | skip) [runM_nil]
    refine hK _ _ ?_
    clear hK K
    refine pwp_ret ⟨.inr rfl, _, _, (by simp (disch := first | (refine Ok.mk ?_; (try simp only [Lm, La, Lc, Ln, Lt, Ld, Lr, Li, true_or, or_true, true_and, and_true]); omega) | (simp <;> fail) | skip) [runM_nil, resL, e1]; rfl), .refl _, by simp (disch := first | (refine Ok.mk ?_; (try simp only [Lm, La, Lc, Ln, Lt, Ld, Lr, Li, true_or, or_true, true_and, and_true]); omega) | (simp <;> fail) | skip) [resV, e1], rfl⟩
/-- Behind a field. -/
def aftM (out : List (List Nat)) (f : List Nat) (b : List Nat) (k : Nat) : List (List Nat) × Nat × Nat :=
  if b[k]? = some 44 then (if out.length + 1 = 50 then ([], 0, 5) else goM .begin (out ++ [f]) [] (b.drop (k + 1)) (k + 1)) else (out ++ [f], k + endsB b k, 0)
/-- Where a field may end. -/
def termB (b : List Nat) (k : Nat) : Prop := b.length ≤ k ∨ b[k]? = some 44 ∨ endsB b k ≠ 0
theorem termB_cases {b : List Nat} {k : Nat} (h : termB b k) (hk : k < b.length) : b[k] = 44 ∨ b[k] = 10 ∨ (b[k] = 13 ∧ b[k + 1]? = some 10) := by
  rcases h with h | h | h
  · omega
  · left
    rw [List.getElem?_eq_getElem hk] at h
    exact Option.some.inj h
  · right
    unfold endsB at h
    rw [List.getElem?_eq_getElem hk] at h
    split at h
    · rename_i h2
      exact .inl (Option.some.inj h2)
    · split at h
      · rename_i h2
        exact .inr ⟨Option.some.inj h2.1, h2.2⟩
      · exact absurd rfl h
/-- A field that ends here. -/
theorem goM_end {m : Md} (hm : m = .begin ∨ m = .plain ∨ m = .closed) (out : List (List Nat)) (f b : List Nat) (k : Nat) (hk : k ≤ b.length) (ht : termB b k) : goM m out f (b.drop k) k = aftM out f b k := by
  unfold aftM
  by_cases hlt : k < b.length
  · have hc := termB_cases ht hlt
    have hge : b[k]? = some b[k] := List.getElem?_eq_getElem hlt
    rw [List.drop_eq_getElem_cons hlt, goM]
    have hb : stpM m out f b[k] = behindM out f b[k] := by
      rcases hm with rfl | rfl | rfl
      · rcases hc with h | h | h
        · simp [stpM, plainM, h]
        · simp [stpM, plainM, h]
        · simp [stpM, plainM, h.1]
      · rcases hc with h | h | h
        · simp [stpM, plainM, h]
        · simp [stpM, plainM, h]
        · simp [stpM, plainM, h.1]
      · rcases hc with h | h | h
        · simp [stpM, h]
        · simp [stpM, h]
        · simp [stpM, h.1]
    rw [hb, hge]
    rcases hc with h | h | ⟨h, h2⟩
    · rw [h]
      by_cases h5 : out.length + 1 = 50
      · simp [behindM, h5]
      · simp [behindM, h5]
    · have e1 : endsB b k = 1 := by simp [endsB, hge, h]
      rw [h]
      simp [behindM, e1]
    · have e2 : endsB b k = 2 := by simp [endsB, hge, h, h2]
      obtain ⟨hlt2, h3⟩ := List.getElem?_eq_some_iff.1 h2
      rw [h, List.drop_eq_getElem_cons hlt2, h3]
      simp [behindM, e2, goM, stpM]
  · obtain rfl : k = b.length := by omega
    have e1 : b[b.length]? = none := List.getElem?_eq_none (Nat.le_refl _)
    have e2 : endsB b b.length = 0 := by simp [endsB, e1]
    rw [List.drop_length, goM, if_neg (by rcases hm with rfl | rfl | rfl <;> simp), e1, e2]
    simp
/-- Not so a field in its midst. -/
theorem not_termB {b : List Nat} {k : Nat} (hk : k < b.length) (h : ¬ termB b k) : b[k] ≠ 44 ∧ b[k] ≠ 10 ∧ ¬ (b[k] = 13 ∧ b[k + 1]? = some 10) := by
  have hge : b[k]? = some b[k] := List.getElem?_eq_getElem hk
  unfold termB endsB at h
  rw [hge] at h
  refine ⟨fun e => h (.inr (.inl (by rw [e]))), fun e => h (.inr (.inr (by simp [e]))), fun e => h (.inr (.inr (by simp [e.1, e.2])))⟩
theorem goM_bad13 (m : Md) (hm : m = .begin ∨ m = .plain ∨ m = .closed) (out : List (List Nat)) (f b : List Nat) (k : Nat) (hk : k < b.length) (h : b[k] = 13) (h2 : ¬ b[k + 1]? = some 10) : goM m out f (b.drop k) k = ([], 0, 3) := by
  rw [List.drop_eq_getElem_cons hk, goM, h]
  have hb : stpM m out f 13 = ⟨.ended, out, f, false, 0⟩ := by rcases hm with rfl | rfl | rfl <;> simp [stpM, plainM, behindM]
  rw [hb]
  simp only [ne_eq, not_true, if_false, Bool.false_eq_true]
  by_cases hlt2 : k + 1 < b.length
  · rw [List.drop_eq_getElem_cons hlt2, goM]
    rw [List.getElem?_eq_getElem hlt2] at h2
    have h3 : ¬ b[k + 1] = 10 := fun e => h2 (by rw [e])
    simp [stpM, h3]
  · rw [List.drop_eq_nil_of_le (by omega), goM]
    simp
end Go.Proofs.Ytdphjapaoaokmaa.E
/- The document's fields: plain ones and quoted ones. -/
namespace Go.Proofs.Ytdphjapaoaokmaa.E
open Go Go.RowKit Go.Proofs
set_option linter.unusedVariables false
set_option linter.unusedSimpArgs false
/-- What a field from a place on comes to, told by the reader. -/
def FieldR (b : List Nat) (m : Md) (k0 : Nat) (H : Heap) (v : PV) (H' : Heap) : Prop :=
  H' = H ∧ ∃ (f : List Nat) (k e : Nat), v = .tup [.str (ci f), .int .i64 k, .int .i64 e] ∧ (e ≠ 0 → ∀ out : List (List Nat), goM m out [] (b.drop k0) k0 = ([], 0, e)) ∧
    (e = 0 → k0 ≤ k ∧ k ≤ b.length ∧ (∀ x ∈ f, x < 256) ∧ ∀ out : List (List Nat), goM m out [] (b.drop k0) k0 = aftM out f b k)
theorem rplain_ok {s : Nat} {xs : List PV} {o : Bool} {b : List Nat} {H : Heap} (hx : xs = b.map u8) (hs : s = 1 ∨ b.length = 0) (hw : ∀ x ∈ b, x < 256) (hl : b.length ≤ 1000000) (k0 : Nat) (hk0 : k0 ≤ b.length) (h34 : b[k0]? ≠ some 34) :
    SpecH Try.prog 22 H [.lst s xs o, .int .i64 k0] (FieldR b .begin k0 H) := by
  have hxl : xs.length = b.length := by rw [hx, List.length_map]
  have hxg : ∀ i (h : i < b.length), xs[i]? = some (.int .u8 (b[i] : Nat)) := fun i h => by rw [hx, List.getElem?_map, List.getElem?_eq_getElem h]; rfl
  refine spec_of t22 (by simp [p22]) ?_
  simp only [p22]
  first | refine pwp_sr ?_ | refine pwp_regionM ?_
  intro K hK
  simp (disch := first | (refine Ok.mk ?_; (try simp only [Lm, La, Lc, Ln, Lt, Ld, Lr, Li, true_or, or_true, true_and, and_true]); omega) | (simp <;> fail) | skip) [runM_nil]
  refine hK _ _ ?_
  clear hK K
  first | refine pwp_sr ?_ | refine pwp_regionM ?_
  intro K hK
  simp (disch := first | (refine Ok.mk ?_; (try simp only [Lm, La, Lc, Ln, Lt, Ld, Lr, Li, true_or, or_true, true_and, and_true]); omega) | (simp <;> fail) | skip) [runM_nil]
  refine hK _ _ ?_
  clear hK K
  refine pwp_seq (pwp_block ?_)
  refine pwp_loopK [0, 1, 7] (fun q st H' => ∃ (k : Nat) (m : Md), k0 ≤ k ∧ k ≤ b.length ∧ k - k0 ≤ 1000 ∧ (m = .begin ∧ k = k0 ∨ m = .plain) ∧ (∀ out : List (List Nat), goM .begin out [] (b.drop k0) k0 = goM m out ((b.drop k0).take (k - k0)) (b.drop k) k) ∧
      q = b.length - k ∧ H' = H ∧ st = MS 50 [(0, .lst s xs o), (1, .int .i64 k), (7, .int .i64 k0)]) (n := b.length - k0)
    ⟨_, .refl _, k0, .begin, Nat.le_refl _, hk0, by omega, .inl ⟨rfl, rfl⟩, fun out => by simp, rfl, rfl, by simp [keepL_MS, keepA, getS]⟩ ?_
  rintro q st H' ⟨k, m, hk1, hk2, hk3, hm, hgo, rfl, rfl, rfl⟩
  have hmm : m = .begin ∨ m = .plain ∨ m = .closed := hm.elim (fun h => .inl h.1) (fun h => .inr (.inl h))
  have cE := ends_ok (o := false) hx hs hl k (by omega)
  by_cases ht : termB b k
  · -- it ends
    have hfin : ∀ out : List (List Nat), goM .begin out [] (b.drop k0) k0 = aftM out ((b.drop k0).take (k - k0)) b k := fun out => (hgo out).trans (goM_end hmm out _ b k hk2 ht)
    have hfl : ((b.drop k0).take (k - k0)).length = k - k0 := by rw [List.length_take, List.length_drop]; omega
    have hfw : ∀ x ∈ (b.drop k0).take (k - k0), x < 256 := fun x hx => hw x (List.mem_of_mem_drop (List.mem_of_mem_take hx))
    have hsl : (xs.take k).drop k0 = ((b.drop k0).take (k - k0)).map u8 := by rw [hx, ← List.map_take, ← List.map_drop, List.drop_take]
    have v1 : ∀ o, cvSP (.lst s (((b.drop k0).take (k - k0)).map u8) o) = some (.str (ci ((b.drop k0).take (k - k0)))) := fun o => cvS_u8 rfl (hs.imp id fun h => by rw [hfl]; omega) hfw
    generalize (b.drop k0).take (k - k0) = f at *
    have hout : pwp Try.prog (.seq (.region [⟨some 44, none, .mv false (.t 0)⟩, ⟨some 45, none, .mv false (.t 7)⟩, ⟨some 46, none, .mv false (.t 1)⟩, ⟨some 47, none, .sli 1 (.t 44) (some (.t 45)) (some (.t 46)) none⟩, ⟨some 48, none, .cvS (.t 47)⟩, ⟨some 49, none, .mv true (.t 1)⟩, ⟨some 4, none, .mv true (.t 48)⟩, ⟨some 5, none, .mv true (.t 49)⟩, ⟨some 6, none, .mv true (.c (.int .i64 0))⟩]) .ret)
        (fun e st2 H3 => (e = .normal ∨ e = .ret) ∧ ∃ rs H2, resL st2 H3 [.t 4, .t 5, .t 6] = some rs ∧ H2.Sublist H3 ∧ FieldR b .begin k0 H' (resV rs) H2) (MS 50 [(0, .lst s xs o), (1, .int .i64 k), (7, .int .i64 k0)]) H' := by
      have hs2 : s = 1 ∨ xs.length = 0 := by rw [hxl]; exact hs
      first | refine pwp_sr ?_ | refine pwp_regionM ?_
      intro K hK
      simp (disch := first | (refine Ok.mk ?_; (try simp only [Lm, La, Lc, Ln, Lt, Ld, Lr, Li, true_or, or_true, true_and, and_true]); omega) | (simp <;> fail) | skip) [runM_nil, hsl, v1]
      refine hK _ _ ?_
      clear hK K
      refine pwp_ret ⟨.inr rfl, _, _, (by simp [runM_nil, resL]; rfl), .refl _, rfl, f, k, 0, by simp [resV], fun h => absurd rfl h, fun _ => ⟨hk1, hk2, hfw, hfin⟩⟩
    refine pwp_seq ?_
    by_cases hlt : k < b.length
    · obtain rfl : s = 1 := hs.resolve_right (by omega)
      have h1 := hxg k hlt
      have hc := termB_cases ht hlt
      have hge : b[k]? = some b[k] := List.getElem?_eq_getElem hlt
      by_cases h44 : b[k] = 44
      · rw [h44] at h1
        first | refine pwp_sr ?_ | refine pwp_regionM ?_
        intro K hK
        simp (disch := first | (refine Ok.mk ?_; (try simp only [Lm, La, Lc, Ln, Lt, Ld, Lr, Li, true_or, or_true, true_and, and_true]); omega) | (simp <;> fail) | skip) [runM_nil, hxl, h1]
        refine hK _ _ ?_
        clear hK K
        refine pwp_cF (by simp) (pwp_exit ?_)
        exact pwp_kept (keep := [0, 1, 7]) (by simp [keepA, getS]) hout
      · have hE : endsB b k ≠ 0 := by
          rcases hc with h | h | ⟨h, h2⟩
          · exact absurd h h44
          · simp [endsB, hge, h]
          · simp [endsB, hge, h, h2]
        have g44 : ¬ (b[k] : Int) = 44 := by omega
        have gE : ¬ (endsB b k : Int) = 0 := by omega
        generalize endsB b k = E at *
        generalize b[k] = c at *
        first | refine pwp_sr ?_ | refine pwp_regionM ?_
        intro K hK
        simp (disch := first | (refine Ok.mk ?_; (try simp only [Lm, La, Lc, Ln, Lt, Ld, Lr, Li, true_or, or_true, true_and, and_true]); omega) | (simp <;> fail) | skip) [runM_nil, hxl, h1, g44, gE, hE]
        refine useP (cE) ?_
        simp (disch := first | (refine Ok.mk ?_; (try simp only [Lm, La, Lc, Ln, Lt, Ld, Lr, Li, true_or, or_true, true_and, and_true]); omega) | (simp <;> fail) | skip) [runM_nil, hxl, h1, g44, gE, hE]
        refine hK _ _ ?_
        clear hK K
        refine pwp_cF (by simp) (pwp_exit ?_)
        exact pwp_kept (keep := [0, 1, 7]) (by simp [keepA, getS]) hout
    · have hlt2 : ¬ (k : Int) < b.length := by omega
      first | refine pwp_sr ?_ | refine pwp_regionM ?_
      intro K hK
      simp (disch := first | (refine Ok.mk ?_; (try simp only [Lm, La, Lc, Ln, Lt, Ld, Lr, Li, true_or, or_true, true_and, and_true]); omega) | (simp <;> fail) | skip) [runM_nil, hxl, hlt2]
      refine hK _ _ ?_
      clear hK K
      refine pwp_cF (by simp) (pwp_exit ?_)
      exact pwp_kept (keep := [0, 1, 7]) (by simp [keepA, getS]) hout
  · -- it goes on
    have hlt : k < b.length := Nat.lt_of_not_le fun h => ht (.inl h)
    obtain rfl : s = 1 := hs.resolve_right (by omega)
    obtain ⟨n44, n10, n13⟩ := not_termB hlt ht
    have h1 := hxg k hlt
    have hE : endsB b k = 0 := Nat.eq_zero_of_not_pos fun h => ht (.inr (.inr (by omega)))
    rw [hE] at cE
    have h0 : k = k0 → b[k] ≠ 34 := fun e h => h34 (by subst e; rw [List.getElem?_eq_getElem hlt, h])
    have htk : (b.drop k0).take (k + 1 - k0) = (b.drop k0).take (k - k0) ++ [b[k]] := by
      rw [show k + 1 - k0 = (k - k0) + 1 by omega, List.take_succ_eq_append_getElem (by rw [List.length_drop]; omega)]
      simp [show k0 + (k - k0) = k by omega]
    have hfl : ((b.drop k0).take (k - k0)).length = k - k0 := by rw [List.length_take, List.length_drop]; omega
    have hb13 : b[k] = 13 → ∀ out : List (List Nat), goM .begin out [] (b.drop k0) k0 = ([], 0, 3) := fun h out => (hgo out).trans (goM_bad13 m hmm out _ b k hlt h fun h2 => n13 ⟨h, h2⟩)
    have hgo2 : ∀ out : List (List Nat), goM m out ((b.drop k0).take (k - k0)) (b.drop k) k = if (stpM m out ((b.drop k0).take (k - k0)) b[k]).e ≠ 0 then ([], 0, (stpM m out ((b.drop k0).take (k - k0)) b[k]).e) else
        if (stpM m out ((b.drop k0).take (k - k0)) b[k]).done = true then ((stpM m out ((b.drop k0).take (k - k0)) b[k]).out, k + 1, 0) else goM (stpM m out ((b.drop k0).take (k - k0)) b[k]).m (stpM m out ((b.drop k0).take (k - k0)) b[k]).out (stpM m out ((b.drop k0).take (k - k0)) b[k]).cur (b.drop (k + 1)) (k + 1) := fun out => by
      rw [List.drop_eq_getElem_cons hlt, goM]
    generalize b[k] = c at *
    generalize (b.drop k0).take (k - k0) = f at *
    have g44 : ¬ (c : Int) = 44 := by omega
    refine pwp_seq ?_
    first | refine pwp_sr ?_ | refine pwp_regionM ?_
    intro K hK
    simp (disch := first | (refine Ok.mk ?_; (try simp only [Lm, La, Lc, Ln, Lt, Ld, Lr, Li, true_or, or_true, true_and, and_true]); omega) | (simp <;> fail) | skip) [runM_nil, hxl, h1, g44]
    refine useP (cE) ?_
    simp (disch := first | (refine Ok.mk ?_; (try simp only [Lm, La, Lc, Ln, Lt, Ld, Lr, Li, true_or, or_true, true_and, and_true]); omega) | (simp <;> fail) | skip) [runM_nil, hxl, h1, g44]
    refine hK _ _ ?_
    clear hK K
    refine pwp_cT (by simp) (pwp_skip ?_)
    refine pwp_block ?_
    by_cases h34' : c = 34
    · subst h34'
      obtain rfl : m = .plain := hm.resolve_left fun h => h0 h.2 rfl
      first | refine pwp_rif ?_ | refine pwp_rifE ?_
      intro K hK
      simp (disch := first | (refine Ok.mk ?_; (try simp only [Lm, La, Lc, Ln, Lt, Ld, Lr, Li, true_or, or_true, true_and, and_true]); omega) | (simp <;> fail) | skip) [runM_nil, hxl, h1]
      refine hK _ _ ?_
      clear hK K
      refine ifT (by simp (disch := first | (refine Ok.mk ?_; (try simp only [Lm, La, Lc, Ln, Lt, Ld, Lr, Li, true_or, or_true, true_and, and_true]); omega) | (simp <;> fail) | skip) [runM_nil]) ?_
      first | refine pwp_sr ?_ | refine pwp_regionM ?_
      intro K hK
      simp (disch := first | (refine Ok.mk ?_; (try simp only [Lm, La, Lc, Ln, Lt, Ld, Lr, Li, true_or, or_true, true_and, and_true]); omega) | (simp <;> fail) | skip) [runM_nil]
      refine hK _ _ ?_
      clear hK K
      refine pwp_ret ⟨.inr rfl, _, _, (by simp [runM_nil, resL]; rfl), .refl _, rfl, [], 0, 3, by simp [resV], fun _ out => ?_, fun h => by cases h⟩
      rw [hgo out, hgo2 out]
      simp [stpM, plainM]
    · have g34 : ¬ (c : Int) = 34 := by omega
      by_cases h13 : c = 13
      · subst h13
        first | refine pwp_rif ?_ | refine pwp_rifE ?_
        intro K hK
        simp (disch := first | (refine Ok.mk ?_; (try simp only [Lm, La, Lc, Ln, Lt, Ld, Lr, Li, true_or, or_true, true_and, and_true]); omega) | (simp <;> fail) | skip) [runM_nil, hxl, h1]
        refine hK _ _ ?_
        clear hK K
        refine ifT (by simp (disch := first | (refine Ok.mk ?_; (try simp only [Lm, La, Lc, Ln, Lt, Ld, Lr, Li, true_or, or_true, true_and, and_true]); omega) | (simp <;> fail) | skip) [runM_nil]) ?_
        first | refine pwp_sr ?_ | refine pwp_regionM ?_
        intro K hK
        simp (disch := first | (refine Ok.mk ?_; (try simp only [Lm, La, Lc, Ln, Lt, Ld, Lr, Li, true_or, or_true, true_and, and_true]); omega) | (simp <;> fail) | skip) [runM_nil]
        refine hK _ _ ?_
        clear hK K
        refine pwp_ret ⟨.inr rfl, _, _, (by simp [runM_nil, resL]; rfl), .refl _, rfl, [], 0, 3, by simp [resV], fun _ out => hb13 rfl out, fun h => by cases h⟩
      · have g13 : ¬ (c : Int) = 13 := by omega
        have hst : ∀ out : List (List Nat), stpM m out f c = addM .plain out f c := fun out => by
          rcases hm with ⟨rfl, _⟩ | rfl
          · simp [stpM, plainM, h34', n44, n10, h13]
          · simp [stpM, plainM, h34', n44, n10, h13]
        simp only [hst] at hgo2
        first | refine pwp_rif ?_ | refine pwp_rifE ?_
        intro K hK
        simp (disch := first | (refine Ok.mk ?_; (try simp only [Lm, La, Lc, Ln, Lt, Ld, Lr, Li, true_or, or_true, true_and, and_true]); omega) | (simp <;> fail) | skip) [runM_nil, hxl, h1, g34, g13]
        refine hK _ _ ?_
        clear hK K
        refine ifF (by simp [runM_nil, g34, g13]) (pwp_skip ?_)
        first | refine pwp_sr ?_ | refine pwp_regionM ?_
        intro K hK
        simp (disch := first | (refine Ok.mk ?_; (try simp only [Lm, La, Lc, Ln, Lt, Ld, Lr, Li, true_or, or_true, true_and, and_true]); omega) | (simp <;> fail) | skip) [runM_nil]
        refine hK _ _ ?_
        clear hK K
        by_cases h1000 : 1000 < f.length + 1
        · have i1000 : (1000 : Int) < (k : Int) + 1 - k0 := by omega
          first | refine pwp_rif ?_ | refine pwp_rifE ?_
          intro K hK
          simp (disch := first | (refine Ok.mk ?_; (try simp only [Lm, La, Lc, Ln, Lt, Ld, Lr, Li, true_or, or_true, true_and, and_true]); omega) | (simp <;> fail) | skip) [runM_nil, i1000]
          refine hK _ _ ?_
          clear hK K
          refine ifT (by simp [runM_nil, i1000]) ?_
          first | refine pwp_sr ?_ | refine pwp_regionM ?_
          intro K hK
          simp (disch := first | (refine Ok.mk ?_; (try simp only [Lm, La, Lc, Ln, Lt, Ld, Lr, Li, true_or, or_true, true_and, and_true]); omega) | (simp <;> fail) | skip) [runM_nil]
          refine hK _ _ ?_
          clear hK K
          refine pwp_ret ⟨.inr rfl, _, _, (by simp [runM_nil, resL]; rfl), .refl _, rfl, [], 0, 5, by simp [resV], fun _ out => ?_, fun h => by cases h⟩
          rw [hgo out, hgo2 out]
          simp [addM, h1000]
        · have i1000 : ¬ (1000 : Int) < (k : Int) + 1 - k0 := by omega
          first | refine pwp_rif ?_ | refine pwp_rifE ?_
          intro K hK
          simp (disch := first | (refine Ok.mk ?_; (try simp only [Lm, La, Lc, Ln, Lt, Ld, Lr, Li, true_or, or_true, true_and, and_true]); omega) | (simp <;> fail) | skip) [runM_nil, i1000]
          refine hK _ _ ?_
          clear hK K
          refine ifF (by simp [runM_nil, i1000]) (pwp_skip ?_)
          refine ⟨_, by omega, _, .refl _, k + 1, .plain, by omega, by omega, by omega, .inr rfl, fun out => ?_, rfl, rfl, by simp [keepL_MS, keepA, getS]⟩
          rw [hgo out, hgo2 out, htk]
          simp [addM, h1000]
end Go.Proofs.Ytdphjapaoaokmaa.E
/- The document's quoted fields. -/
namespace Go.Proofs.Ytdphjapaoaokmaa.E
open Go Go.RowKit Go.Proofs
set_option linter.unusedVariables false
set_option linter.unusedSimpArgs false
theorem rquoted_ok {s : Nat} {xs : List PV} {o : Bool} {b : List Nat} {H : Heap} (hx : xs = b.map u8) (hs : s = 1 ∨ b.length = 0) (hw : ∀ x ∈ b, x < 256) (hl : b.length ≤ 1000000) (k0 : Nat) (hk0 : k0 ≤ b.length) :
    SpecH Try.prog 21 H [.lst s xs o, .int .i64 k0] (FieldR b .quoted k0 H) := by
  have hxl : xs.length = b.length := by rw [hx, List.length_map]
  have hxg : ∀ i (h : i < b.length), xs[i]? = some (.int .u8 (b[i] : Nat)) := fun i h => by rw [hx, List.getElem?_map, List.getElem?_eq_getElem h]; rfl
  refine spec_of t21 (by simp [p21]) ?_
  simp only [p21]
  first | refine pwp_sr ?_ | refine pwp_regionM ?_
  intro K hK
  simp (disch := first | (refine Ok.mk ?_; (try simp only [Lm, La, Lc, Ln, Lt, Ld, Lr, Li, true_or, or_true, true_and, and_true]); omega) | (simp <;> fail) | skip) [runM_nil]
  refine hK _ _ ?_
  clear hK K
  first | refine pwp_sr ?_ | refine pwp_regionM ?_
  intro K hK
  simp (disch := first | (refine Ok.mk ?_; (try simp only [Lm, La, Lc, Ln, Lt, Ld, Lr, Li, true_or, or_true, true_and, and_true]); omega) | (simp <;> fail) | skip) [runM_nil]
  refine hK _ _ ?_
  clear hK K
  refine pwp_seq (pwp_block ?_)
  refine pwp_loopK [0, 1, 7] (fun q st H' => ∃ (k : Nat) (cur : List Nat), k0 ≤ k ∧ k ≤ b.length ∧ cur.length ≤ 1000 ∧ (∀ x ∈ cur, x < 256) ∧ (∀ out : List (List Nat), goM .quoted out [] (b.drop k0) k0 = goM .quoted out cur (b.drop k) k) ∧
      q = b.length - k ∧ H' = H ∧ st = MS 70 [(0, .lst s xs o), (1, .int .i64 k), (7, bV cur true)]) (n := b.length - k0)
    ⟨_, .refl _, k0, [], Nat.le_refl _, hk0, by simp, by simp, fun out => rfl, rfl, rfl, by simp [keepL_MS, keepA, getS]⟩ ?_
  rintro q st H' ⟨k, cur, hk1, hk2, hk3, hcw, hgo, rfl, rfl, rfl⟩
  by_cases hlt : k < b.length
  · obtain rfl : s = 1 := hs.resolve_right (by omega)
    have h1 := hxg k hlt
    have hcb : b[k] < 256 := hw _ (List.getElem_mem hlt)
    have hgo2 : ∀ out : List (List Nat), goM .quoted out cur (b.drop k) k = if (stpM .quoted out cur b[k]).e ≠ 0 then ([], 0, (stpM .quoted out cur b[k]).e) else
        if (stpM .quoted out cur b[k]).done = true then ((stpM .quoted out cur b[k]).out, k + 1, 0) else goM (stpM .quoted out cur b[k]).m (stpM .quoted out cur b[k]).out (stpM .quoted out cur b[k]).cur (b.drop (k + 1)) (k + 1) := fun out => by
      rw [List.drop_eq_getElem_cons hlt, goM]
    generalize b[k] = c at *
    refine pwp_seq ?_
    first | refine pwp_sr ?_ | refine pwp_regionM ?_
    intro K hK
    simp (disch := first | (refine Ok.mk ?_; (try simp only [Lm, La, Lc, Ln, Lt, Ld, Lr, Li, true_or, or_true, true_and, and_true]); omega) | (simp <;> fail) | skip) [runM_nil, hxl]
    refine hK _ _ ?_
    clear hK K
    refine pwp_cT (by simp) (pwp_skip ?_)
    refine pwp_block ?_
    by_cases h34 : c = 34
    · subst h34
      have hst : ∀ out : List (List Nat), stpM .quoted out cur 34 = ⟨.closed, out, cur, false, 0⟩ := fun out => by simp [stpM]
      have hgo3 : ∀ out : List (List Nat), goM .quoted out [] (b.drop k0) k0 = goM .closed out cur (b.drop (k + 1)) (k + 1) := fun out => by rw [hgo out, hgo2 out, hst out]; simp
      clear hgo hgo2
      have hkn : ((k : Int) + 1).toNat = k + 1 := by omega
      have cE := ends_ok (s := 1) (o := false) hx (.inl rfl) hl (k + 1) (by omega)
      rw [Int.natCast_add, Int.natCast_one] at cE
      have v1 : ∀ o, cvSP (.lst 1 (cur.map u8) o) = some (.str (ci cur)) := fun o => cvS_u8 rfl (.inl rfl) hcw
      refine pwp_seq ?_
      first | refine pwp_rif ?_ | refine pwp_rifE ?_
      intro K hK
      simp (disch := first | (refine Ok.mk ?_; (try simp only [Lm, La, Lc, Ln, Lt, Ld, Lr, Li, true_or, or_true, true_and, and_true]); omega) | (simp <;> fail) | skip) [runM_nil, hxl, h1]
      refine hK _ _ ?_
      clear hK K
      refine ifF (by simp [runM_nil]) ?_
      by_cases hlt2 : k + 1 < b.length
      · have j2 : (k : Int) + 1 < b.length := by omega
        have h2 := hxg (k + 1) hlt2
        have hge2 : b[k + 1]? = some b[k + 1] := List.getElem?_eq_getElem hlt2
        have hgo4 : ∀ out : List (List Nat), goM .closed out cur (b.drop (k + 1)) (k + 1) = if (stpM .closed out cur b[k + 1]).e ≠ 0 then ([], 0, (stpM .closed out cur b[k + 1]).e) else
            if (stpM .closed out cur b[k + 1]).done = true then ((stpM .closed out cur b[k + 1]).out, k + 1 + 1, 0) else goM (stpM .closed out cur b[k + 1]).m (stpM .closed out cur b[k + 1]).out (stpM .closed out cur b[k + 1]).cur (b.drop (k + 1 + 1)) (k + 1 + 1) := fun out => by
          rw [List.drop_eq_getElem_cons hlt2, goM]
        by_cases hq : b[k + 1] = 34
        · rw [hq] at h2 hgo4
          have hst2 : ∀ out : List (List Nat), stpM .closed out cur 34 = addM .quoted out cur 34 := fun out => by simp [stpM]
          simp only [hst2] at hgo4
          first | refine pwp_rif ?_ | refine pwp_rifE ?_
          intro K hK
          simp (disch := first | (refine Ok.mk ?_; (try simp only [Lm, La, Lc, Ln, Lt, Ld, Lr, Li, true_or, or_true, true_and, and_true]); omega) | (simp <;> fail) | skip) [runM_nil, hxl, j2, hkn, h2]
          refine hK _ _ ?_
          clear hK K
          refine ifT (by simp (disch := first | (refine Ok.mk ?_; (try simp only [Lm, La, Lc, Ln, Lt, Ld, Lr, Li, true_or, or_true, true_and, and_true]); omega) | (simp <;> fail) | skip) [runM_nil]) ?_
          first | refine pwp_sr ?_ | refine pwp_regionM ?_
          intro K hK
          simp (disch := first | (refine Ok.mk ?_; (try simp only [Lm, La, Lc, Ln, Lt, Ld, Lr, Li, true_or, or_true, true_and, and_true]); omega) | (simp <;> fail) | skip) [runM_nil]
          refine hK _ _ ?_
          clear hK K
          first | refine pwp_sr ?_ | refine pwp_regionM ?_
          intro K hK
          simp (disch := first | (refine Ok.mk ?_; (try simp only [Lm, La, Lc, Ln, Lt, Ld, Lr, Li, true_or, or_true, true_and, and_true]); omega) | (simp <;> fail) | skip) [runM_nil]
          refine hK _ _ ?_
          clear hK K
          by_cases h1000 : 1000 < cur.length + 1
          · have i1000 : (1000 : Int) < cur.length + 1 := by omega
            first | refine pwp_rif ?_ | refine pwp_rifE ?_
            intro K hK
            simp (disch := first | (refine Ok.mk ?_; (try simp only [Lm, La, Lc, Ln, Lt, Ld, Lr, Li, true_or, or_true, true_and, and_true]); omega) | (simp <;> fail) | skip) [runM_nil, i1000]
            refine hK _ _ ?_
            clear hK K
            refine ifT (by simp (disch := first | (refine Ok.mk ?_; (try simp only [Lm, La, Lc, Ln, Lt, Ld, Lr, Li, true_or, or_true, true_and, and_true]); omega) | (simp <;> fail) | skip) [runM_nil]) ?_
            first | refine pwp_sr ?_ | refine pwp_regionM ?_
            intro K hK
            simp (disch := first | (refine Ok.mk ?_; (try simp only [Lm, La, Lc, Ln, Lt, Ld, Lr, Li, true_or, or_true, true_and, and_true]); omega) | (simp <;> fail) | skip) [runM_nil]
            refine hK _ _ ?_
            clear hK K
            refine pwp_ret ⟨.inr rfl, _, _, (by simp [runM_nil, resL]; rfl), .refl _, rfl, [], 0, 5, by simp [resV], fun _ out => ?_, fun h => by cases h⟩
            rw [hgo3 out, hgo4 out]
            simp [addM, h1000]
          · have i1000 : ¬ (1000 : Int) < cur.length + 1 := by omega
            first | refine pwp_rif ?_ | refine pwp_rifE ?_
            intro K hK
            simp (disch := first | (refine Ok.mk ?_; (try simp only [Lm, La, Lc, Ln, Lt, Ld, Lr, Li, true_or, or_true, true_and, and_true]); omega) | (simp <;> fail) | skip) [runM_nil, i1000]
            refine hK _ _ ?_
            clear hK K
            refine ifF (by simp [runM_nil, i1000]) (pwp_skip ?_)
            refine ⟨_, by omega, _, .refl _, k + 2, cur ++ [34], by omega, by omega, by rw [List.length_append]; simp; omega, fun x hx => ?_, fun out => ?_, rfl, rfl, by simp [keepL_MS, keepA, getS]⟩
            · rcases List.mem_append.1 hx with hx | hx
              · exact hcw x hx
              · simp only [List.mem_singleton] at hx
                omega
            · rw [hgo3 out, hgo4 out]
              simp [addM, h1000]
        · have gq : ¬ (b[k + 1] : Int) = 34 := by omega
          first | refine pwp_rif ?_ | refine pwp_rifE ?_
          intro K hK
          simp (disch := first | (refine Ok.mk ?_; (try simp only [Lm, La, Lc, Ln, Lt, Ld, Lr, Li, true_or, or_true, true_and, and_true]); omega) | (simp <;> fail) | skip) [runM_nil, hxl, j2, hkn, h2, gq]
          refine hK _ _ ?_
          clear hK K
          refine ifF (by simp [runM_nil, gq]) ?_
          first | refine pwp_sr ?_ | refine pwp_regionM ?_
          intro K hK
          simp (disch := first | (refine Ok.mk ?_; (try simp only [Lm, La, Lc, Ln, Lt, Ld, Lr, Li, true_or, or_true, true_and, and_true]); omega) | (simp <;> fail) | skip) [runM_nil]
          refine hK _ _ ?_
          clear hK K
          by_cases ht : termB b (k + 1)
          · -- the field ends
            have hfin : ∀ out : List (List Nat), goM .quoted out [] (b.drop k0) k0 = aftM out cur b (k + 1) := fun out => (hgo3 out).trans (goM_end (.inr (.inr rfl)) out cur b (k + 1) (by omega) ht)
            have hc := termB_cases ht hlt2
            refine pwp_seq ?_
            by_cases h44 : b[k + 1] = 44
            · rw [h44] at h2
              first | refine pwp_sr ?_ | refine pwp_regionM ?_
              intro K hK
              simp (disch := first | (refine Ok.mk ?_; (try simp only [Lm, La, Lc, Ln, Lt, Ld, Lr, Li, true_or, or_true, true_and, and_true]); omega) | (simp <;> fail) | skip) [runM_nil, hxl, j2, hkn, h2]
              refine hK _ _ ?_
              clear hK K
              refine pwp_cF (by simp) (pwp_skip ?_)
              first | refine pwp_sr ?_ | refine pwp_regionM ?_
              intro K hK
              simp (disch := first | (refine Ok.mk ?_; (try simp only [Lm, La, Lc, Ln, Lt, Ld, Lr, Li, true_or, or_true, true_and, and_true]); omega) | (simp <;> fail) | skip) [runM_nil, v1]
              refine hK _ _ ?_
              clear hK K
              refine pwp_ret ⟨.inr rfl, _, _, (by simp [runM_nil, resL]; rfl), .refl _, rfl, cur, k + 1, 0, by simp [resV], fun h => absurd rfl h, fun _ => ⟨by omega, by omega, hcw, hfin⟩⟩
            · have hE : endsB b (k + 1) ≠ 0 := by
                rcases hc with h | h | ⟨h, h2⟩
                · exact absurd h h44
                · simp [endsB, hge2, h]
                · simp [endsB, hge2, h, h2]
              have g44 : ¬ (b[k + 1] : Int) = 44 := by omega
              have gE : ¬ (endsB b (k + 1) : Int) = 0 := by omega
              generalize endsB b (k + 1) = E at *
              generalize b[k + 1] = c at *
              first | refine pwp_sr ?_ | refine pwp_regionM ?_
              intro K hK
              simp (disch := first | (refine Ok.mk ?_; (try simp only [Lm, La, Lc, Ln, Lt, Ld, Lr, Li, true_or, or_true, true_and, and_true]); omega) | (simp <;> fail) | skip) [runM_nil, hxl, j2, hkn, h2, g44, gE, hE]
              refine useP (cE) ?_
              simp (disch := first | (refine Ok.mk ?_; (try simp only [Lm, La, Lc, Ln, Lt, Ld, Lr, Li, true_or, or_true, true_and, and_true]); omega) | (simp <;> fail) | skip) [runM_nil, hxl, j2, hkn, h2, g44, gE, hE]
              refine hK _ _ ?_
              clear hK K
              refine pwp_cF (by simp [hE]) (pwp_skip ?_)
              first | refine pwp_sr ?_ | refine pwp_regionM ?_
              intro K hK
              simp (disch := first | (refine Ok.mk ?_; (try simp only [Lm, La, Lc, Ln, Lt, Ld, Lr, Li, true_or, or_true, true_and, and_true]); omega) | (simp <;> fail) | skip) [runM_nil, v1]
              refine hK _ _ ?_
              clear hK K
              refine pwp_ret ⟨.inr rfl, _, _, (by simp [runM_nil, resL]; rfl), .refl _, rfl, cur, k + 1, 0, by simp [resV], fun h => absurd rfl h, fun _ => ⟨by omega, by omega, hcw, hfin⟩⟩
          · -- it is wrong
            obtain ⟨n44, n10, n13⟩ := not_termB hlt2 ht
            have hE : endsB b (k + 1) = 0 := Nat.eq_zero_of_not_pos fun h => ht (.inr (.inr (by omega)))
            rw [hE] at cE
            have hbad : ∀ out : List (List Nat), goM .quoted out [] (b.drop k0) k0 = ([], 0, 3) := fun out => by
              rw [hgo3 out]
              by_cases h13 : b[k + 1] = 13
              · exact goM_bad13 .closed (.inr (.inr rfl)) out cur b (k + 1) hlt2 h13 fun h2 => n13 ⟨h13, h2⟩
              · rw [hgo4 out]
                simp [stpM, behindM, hq, n44, n10, h13]
            have g44 : ¬ (b[k + 1] : Int) = 44 := by omega
            generalize b[k + 1] = c at *
            refine pwp_seq ?_
            first | refine pwp_sr ?_ | refine pwp_regionM ?_
            intro K hK
            simp (disch := first | (refine Ok.mk ?_; (try simp only [Lm, La, Lc, Ln, Lt, Ld, Lr, Li, true_or, or_true, true_and, and_true]); omega) | (simp <;> fail) | skip) [runM_nil, hxl, j2, hkn, h2, g44]
            refine useP (cE) ?_
            simp (disch := first | (refine Ok.mk ?_; (try simp only [Lm, La, Lc, Ln, Lt, Ld, Lr, Li, true_or, or_true, true_and, and_true]); omega) | (simp <;> fail) | skip) [runM_nil, hxl, j2, hkn, h2, g44]
            refine hK _ _ ?_
            clear hK K
            refine pwp_cT (by simp) ?_
            first | refine pwp_sr ?_ | refine pwp_regionM ?_
            intro K hK
            simp (disch := first | (refine Ok.mk ?_; (try simp only [Lm, La, Lc, Ln, Lt, Ld, Lr, Li, true_or, or_true, true_and, and_true]); omega) | (simp <;> fail) | skip) [runM_nil]
            refine hK _ _ ?_
            clear hK K
            refine pwp_ret ⟨.inr rfl, _, _, (by simp [runM_nil, resL]; rfl), .refl _, rfl, [], 0, 3, by simp [resV], fun _ out => hbad out, fun h => by cases h⟩
      · have j2 : ¬ (k : Int) + 1 < b.length := by omega
        have ht : termB b (k + 1) := .inl (by omega)
        have hfin : ∀ out : List (List Nat), goM .quoted out [] (b.drop k0) k0 = aftM out cur b (k + 1) := fun out => (hgo3 out).trans (goM_end (.inr (.inr rfl)) out cur b (k + 1) (by omega) ht)
        first | refine pwp_rif ?_ | refine pwp_rifE ?_
        intro K hK
        simp (disch := first | (refine Ok.mk ?_; (try simp only [Lm, La, Lc, Ln, Lt, Ld, Lr, Li, true_or, or_true, true_and, and_true]); omega) | (simp <;> fail) | skip) [runM_nil, hxl, j2]
        refine hK _ _ ?_
        clear hK K
        refine ifF (by simp [runM_nil, j2]) ?_
        first | refine pwp_sr ?_ | refine pwp_regionM ?_
        intro K hK
        simp (disch := first | (refine Ok.mk ?_; (try simp only [Lm, La, Lc, Ln, Lt, Ld, Lr, Li, true_or, or_true, true_and, and_true]); omega) | (simp <;> fail) | skip) [runM_nil]
        refine hK _ _ ?_
        clear hK K
        refine pwp_seq ?_
        first | refine pwp_sr ?_ | refine pwp_regionM ?_
        intro K hK
        simp (disch := first | (refine Ok.mk ?_; (try simp only [Lm, La, Lc, Ln, Lt, Ld, Lr, Li, true_or, or_true, true_and, and_true]); omega) | (simp <;> fail) | skip) [runM_nil, hxl, j2]
        refine hK _ _ ?_
        clear hK K
        refine pwp_cF (by simp) (pwp_skip ?_)
        first | refine pwp_sr ?_ | refine pwp_regionM ?_
        intro K hK
        simp (disch := first | (refine Ok.mk ?_; (try simp only [Lm, La, Lc, Ln, Lt, Ld, Lr, Li, true_or, or_true, true_and, and_true]); omega) | (simp <;> fail) | skip) [runM_nil, v1]
        refine hK _ _ ?_
        clear hK K
        refine pwp_ret ⟨.inr rfl, _, _, (by simp [runM_nil, resL]; rfl), .refl _, rfl, cur, k + 1, 0, by simp [resV], fun h => absurd rfl h, fun _ => ⟨by omega, by omega, hcw, hfin⟩⟩
    · have g34 : ¬ (c : Int) = 34 := by omega
      have hst : ∀ out : List (List Nat), stpM .quoted out cur c = addM .quoted out cur c := fun out => by simp [stpM, h34]
      simp only [hst] at hgo2
      refine pwp_seq ?_
      first | refine pwp_rif ?_ | refine pwp_rifE ?_
      intro K hK
      simp (disch := first | (refine Ok.mk ?_; (try simp only [Lm, La, Lc, Ln, Lt, Ld, Lr, Li, true_or, or_true, true_and, and_true]); omega) | (simp <;> fail) | skip) [runM_nil, hxl, h1, g34]
      refine hK _ _ ?_
      clear hK K
      refine ifT (by simp [runM_nil, g34]) ?_
      first | refine pwp_sr ?_ | refine pwp_regionM ?_
      intro K hK
      simp (disch := first | (refine Ok.mk ?_; (try simp only [Lm, La, Lc, Ln, Lt, Ld, Lr, Li, true_or, or_true, true_and, and_true]); omega) | (simp <;> fail) | skip) [runM_nil, hxl, h1]
      refine hK _ _ ?_
      clear hK K
      first | refine pwp_sr ?_ | refine pwp_regionM ?_
      intro K hK
      simp (disch := first | (refine Ok.mk ?_; (try simp only [Lm, La, Lc, Ln, Lt, Ld, Lr, Li, true_or, or_true, true_and, and_true]); omega) | (simp <;> fail) | skip) [runM_nil]
      refine hK _ _ ?_
      clear hK K
      by_cases h1000 : 1000 < cur.length + 1
      · have i1000 : (1000 : Int) < cur.length + 1 := by omega
        first | refine pwp_rif ?_ | refine pwp_rifE ?_
        intro K hK
        simp (disch := first | (refine Ok.mk ?_; (try simp only [Lm, La, Lc, Ln, Lt, Ld, Lr, Li, true_or, or_true, true_and, and_true]); omega) | (simp <;> fail) | skip) [runM_nil, i1000]
        refine hK _ _ ?_
        clear hK K
        refine ifT (by simp (disch := first | (refine Ok.mk ?_; (try simp only [Lm, La, Lc, Ln, Lt, Ld, Lr, Li, true_or, or_true, true_and, and_true]); omega) | (simp <;> fail) | skip) [runM_nil]) ?_
        first | refine pwp_sr ?_ | refine pwp_regionM ?_
        intro K hK
        simp (disch := first | (refine Ok.mk ?_; (try simp only [Lm, La, Lc, Ln, Lt, Ld, Lr, Li, true_or, or_true, true_and, and_true]); omega) | (simp <;> fail) | skip) [runM_nil]
        refine hK _ _ ?_
        clear hK K
        refine pwp_ret ⟨.inr rfl, _, _, (by simp [runM_nil, resL]; rfl), .refl _, rfl, [], 0, 5, by simp [resV], fun _ out => ?_, fun h => by cases h⟩
        rw [hgo out, hgo2 out]
        simp [addM, h1000]
      · have i1000 : ¬ (1000 : Int) < cur.length + 1 := by omega
        first | refine pwp_rif ?_ | refine pwp_rifE ?_
        intro K hK
        simp (disch := first | (refine Ok.mk ?_; (try simp only [Lm, La, Lc, Ln, Lt, Ld, Lr, Li, true_or, or_true, true_and, and_true]); omega) | (simp <;> fail) | skip) [runM_nil, i1000]
        refine hK _ _ ?_
        clear hK K
        refine ifF (by simp [runM_nil, i1000]) (pwp_skip ?_)
        refine ⟨_, by omega, _, .refl _, k + 1, cur ++ [c], by omega, by omega, by rw [List.length_append]; simp; omega, fun x hx => ?_, fun out => ?_, rfl, rfl, by simp [keepL_MS, keepA, getS]⟩
        · rcases List.mem_append.1 hx with hx | hx
          · exact hcw x hx
          · simp only [List.mem_singleton] at hx
            omega
        · rw [hgo out, hgo2 out]
          simp [addM, h1000]
  · obtain rfl : k = b.length := by omega
    refine pwp_seq ?_
    first | refine pwp_sr ?_ | refine pwp_regionM ?_
    intro K hK
    simp (disch := first | (refine Ok.mk ?_; (try simp only [Lm, La, Lc, Ln, Lt, Ld, Lr, Li, true_or, or_true, true_and, and_true]); omega) | (simp <;> fail) | skip) [runM_nil, hxl]
    refine hK _ _ ?_
    clear hK K
    refine pwp_cF (by simp) (pwp_exit ?_)
    first | refine pwp_sr ?_ | refine pwp_regionM ?_
    intro K hK
    simp (disch := first | (refine Ok.mk ?_; (try simp only [Lm, La, Lc, Ln, Lt, Ld, Lr, Li, true_or, or_true, true_and, and_true]); omega) | (simp <;> fail) | skip) [runM_nil]
    refine hK _ _ ?_
    clear hK K
    refine pwp_ret ⟨.inr rfl, _, _, (by simp [runM_nil, resL]; rfl), .refl _, rfl, [], 0, 3, by simp [resV], fun _ out => ?_, fun h => by cases h⟩
    rw [hgo out, List.drop_length, goM]
    simp
end Go.Proofs.Ytdphjapaoaokmaa.E
