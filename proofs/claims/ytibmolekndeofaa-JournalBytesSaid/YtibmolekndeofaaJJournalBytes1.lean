/- Part 1 of the proof of JournalBytes: what the program's functions come to. -/
import Derived.Test.YtibmolekndeofaaL3
import Derived.Test.YtibmolekndeofaaProg
/- Varints and sums over bytes, in plain terms: no program in sight. -/
namespace Go.Proofs.Ytibmolekndeofaa.E
open Go Go.RowKit
set_option linter.unusedVariables false
set_option linter.unusedSimpArgs false
theorem xor_lt8 {a b : Nat} (ha : a < 256) (hb : b < 256) : a ^^^ b < 256 := Nat.xor_lt_two_pow (n := 8) ha hb
theorem xor_lt32 {a b : Nat} (ha : a < 4294967296) (hb : b < 4294967296) : a ^^^ b < 4294967296 := Nat.xor_lt_two_pow (n := 32) ha hb
theorem ci_length (l : List Nat) : (ci l).length = l.length := List.length_map _
theorem ci_append (a b : List Nat) : ci (a ++ b) = ci a ++ ci b := List.map_append
theorem ci_nil : ci [] = [] := rfl
theorem ci_cons (a : Nat) (l : List Nat) : ci (a :: l) = (a : Int) :: ci l := rfl
theorem ci_take (l : List Nat) (n : Nat) : (ci l).take n = ci (l.take n) := by simp [ci, List.map_take]
theorem ci_drop (l : List Nat) (n : Nat) : (ci l).drop n = ci (l.drop n) := by simp [ci, List.map_drop]
theorem ci_set (l : List Nat) (n x : Nat) : (ci l).set n (x : Int) = ci (l.set n x) := by simp [ci, List.map_set]
theorem ci_inj {a b : List Nat} (h : ci a = ci b) : a = b := by
  have := congrArg (List.map Int.toNat) h
  simpa [ci, List.map_map, Function.comp_def] using this
theorem to_ci {l : List Int} {b : Nat} (h : ∀ x ∈ l, 0 ≤ x ∧ x < (b : Int)) : ∃ m : List Nat, l = ci m ∧ ∀ x ∈ m, x < b := by
  refine ⟨l.map Int.toNat, ?_, ?_⟩
  · simp only [ci, List.map_map]
    conv => lhs; rw [← List.map_id l]
    refine List.map_congr_left (fun x hx => ?_)
    have := h x hx
    simp
    omega
  · intro x hx
    obtain ⟨y, hy, rfl⟩ := List.mem_map.1 hx
    have := h y hy
    omega
theorem getD_lt {l : List Nat} {b i : Nat} (h : ∀ x ∈ l, x < b) (hb : 0 < b) : l.getD i 0 < b := by
  rw [List.getD_eq_getElem?_getD]
  cases hg : l[i]? with
  | none => exact hb
  | some x => exact h x (List.mem_of_getElem? hg)
def vb (n : Nat) : List Nat := if n < 128 then [n] else (n % 128 + 128) :: vb (n / 128)
termination_by n
decreasing_by omega
theorem vb_small {n : Nat} (h : n < 128) : vb n = [n] := by rw [vb, if_pos h]
theorem vb_big {n : Nat} (h : ¬ n < 128) : vb n = (n % 128 + 128) :: vb (n / 128) := by rw [vb, if_neg h]
theorem vb_lt (n : Nat) : ∀ x ∈ vb n, x < 256 := by
  induction n using Nat.strongRecOn with
  | ind n ih =>
    intro x hx
    by_cases h : n < 128
    · rw [vb_small h, List.mem_singleton] at hx; omega
    · rw [vb_big h, List.mem_cons] at hx
      rcases hx with rfl | hx
      · omega
      · exact ih (n / 128) (by omega) x hx
theorem vb_length_pos (n : Nat) : 1 ≤ (vb n).length := by
  by_cases h : n < 128
  · rw [vb_small h]; simp
  · rw [vb_big h]; simp
theorem vb_len_le : ∀ (s n : Nat), 1 ≤ s → n < 128 ^ s → (vb n).length ≤ s
  | 0, n, h, _ => absurd h (by omega)
  | s + 1, n, _, h => by
    by_cases h1 : n < 128
    · rw [vb_small h1]; simp
    · rw [vb_big h1, List.length_cons]
      have hs : 1 ≤ s := by
        rcases Nat.eq_zero_or_pos s with rfl | hs
        · exact absurd (by simpa using h) h1
        · exact hs
      have := vb_len_le s (n / 128) hs (by rw [Nat.pow_succ] at h; exact Nat.div_lt_of_lt_mul (by rw [Nat.mul_comm]; exact h))
      omega
theorem vb_len_ge : ∀ (s n : Nat), 128 ^ s ≤ n → s + 1 ≤ (vb n).length
  | 0, n, _ => vb_length_pos n
  | s + 1, n, h => by
    have hp : 1 ≤ 128 ^ s := Nat.pow_pos (by omega)
    have h1 : ¬ n < 128 := by rw [Nat.pow_succ] at h; omega
    rw [vb_big h1, List.length_cons]
    have := vb_len_ge s (n / 128) (by rw [Nat.pow_succ] at h; exact (Nat.le_div_iff_mul_le (by omega)).2 h)
    omega
theorem vb_length_le10 {n : Nat} (h : n < 18446744073709551616) : (vb n).length ≤ 10 := vb_len_le 10 n (by omega) (Nat.lt_of_lt_of_le h (by decide))
theorem vb_length_mono {n m : Nat} (h : (vb n).length < (vb m).length) : n < m := by
  rcases Nat.lt_or_ge n m with h1 | h1
  · exact h1
  exfalso
  have : ∀ (a b : Nat), b ≤ a → (vb b).length ≤ (vb a).length := by
    intro a
    induction a using Nat.strongRecOn with
    | ind a ih =>
      intro b hb
      by_cases hb1 : b < 128
      · rw [vb_small hb1]; exact vb_length_pos a
      · rw [vb_big hb1, vb_big (show ¬ a < 128 by omega), List.length_cons, List.length_cons]
        exact Nat.succ_le_succ (ih (a / 128) (by omega) (b / 128) (by omega))
  have := this n m h1
  omega
def num : List Nat → Nat
  | [] => 0
  | x :: s => x % 128 + 128 * num s
theorem num_snoc : ∀ (p : List Nat) (x : Nat), num (p ++ [x]) = num p + x % 128 * 128 ^ p.length
  | [], x => by simp [num]
  | y :: p, x => by
    rw [List.cons_append, num, num, num_snoc p x, List.length_cons, Nat.pow_succ, Nat.mul_add, ← Nat.add_assoc, Nat.mul_left_comm, Nat.mul_comm 128 (128 ^ p.length)]
theorem num_lt : ∀ p : List Nat, num p < 128 ^ p.length
  | [] => by simp [num]
  | y :: p => by
    have := num_lt p
    rw [num, List.length_cons, Nat.pow_succ]
    omega
theorem num_vb (n : Nat) : num (vb n) = n := by
  induction n using Nat.strongRecOn with
  | ind n ih =>
    by_cases h : n < 128
    · rw [vb_small h, num, num]; omega
    · rw [vb_big h, num, ih (n / 128) (by omega)]; omega
theorem vb_num : ∀ (q : List Nat) (x : Nat), (∀ y ∈ q, 128 ≤ y ∧ y < 256) → x < 128 → (q = [] ∨ x ≠ 0) → vb (num (q ++ [x])) = q ++ [x]
  | [], x, _, hx, _ => by
    rw [List.nil_append, num, num, show x % 128 + 128 * 0 = x by omega, vb_small hx]
  | y :: q, x, hq, hx, h => by
    have h0 : x ≠ 0 := h.resolve_left (by simp)
    have hy := hq y (List.mem_cons_self ..)
    have hp : 1 ≤ 128 ^ q.length := Nat.pow_pos (by omega)
    have h1 : 1 ≤ num (q ++ [x]) := by
      rw [num_snoc, Nat.mod_eq_of_lt hx]
      have : 1 * 1 ≤ x * 128 ^ q.length := Nat.mul_le_mul (by omega) hp
      omega
    rw [List.cons_append, num, vb_big (by omega)]
    rw [show (y % 128 + 128 * num (q ++ [x])) % 128 + 128 = y by omega, show (y % 128 + 128 * num (q ++ [x])) / 128 = num (q ++ [x]) by omega]
    rw [vb_num q x (fun z hz => hq z (List.mem_cons_of_mem _ hz)) hx (Or.inr h0)]
def lead : List Nat → Nat
  | [] => 0
  | x :: s => if 128 ≤ x then lead s + 1 else 0
theorem lead_le : ∀ s : List Nat, lead s ≤ s.length
  | [] => Nat.le_refl _
  | x :: s => by
    rw [lead]
    split
    · simpa using lead_le s
    · simp
theorem lead_hi : ∀ (s : List Nat) (j : Nat), j < lead s → 128 ≤ s.getD j 0
  | [], j, h => absurd h (by simp [lead])
  | x :: s, 0, h => by
    rw [lead] at h
    split at h
    · assumption
    · omega
  | x :: s, j + 1, h => by
    rw [lead] at h
    split at h
    · simpa using lead_hi s j (by omega)
    · omega
theorem lead_lo : ∀ s : List Nat, lead s < s.length → s.getD (lead s) 0 < 128
  | [], h => absurd h (by simp)
  | x :: s, h => by
    by_cases hx : 128 ≤ x
    · rw [lead, if_pos hx] at h ⊢
      simpa using lead_lo s (by simpa using h)
    · rw [lead, if_neg hx]
      simpa using Nat.lt_of_not_le hx
theorem lead_vb : ∀ (s n : Nat) (r : List Nat), (vb n).length = s → lead (vb n ++ r) + 1 = (vb n).length
  | 0, n, r, h => by have := vb_length_pos n; omega
  | s + 1, n, r, h => by
    by_cases h1 : n < 128
    · rw [vb_small h1]; simp only [List.cons_append, lead, if_neg (show ¬ 128 ≤ n by omega), List.length_cons, List.length_nil]
    · rw [vb_big h1, List.length_cons] at h ⊢
      rw [List.cons_append, lead, if_pos (by omega), lead_vb s (n / 128) r (by omega)]
def vbad (s : List Nat) (i : Nat) : Prop := (s.getD i 0 = 0 ∧ 0 < i) ∨ (i = 9 ∧ 1 < s.getD i 0)
instance (s : List Nat) (i : Nat) : Decidable (vbad s i) := by unfold vbad; infer_instance
def vtake (s : List Nat) : Nat × List Nat × Nat :=
  if 10 ≤ lead s then (0, [], 3) else if lead s = s.length then (0, [], 2) else if vbad s (lead s) then (0, [], 3)
  else (num (s.take (lead s + 1)), s.drop (lead s + 1), 0)
theorem take_snoc {s : List Nat} {i : Nat} (h : i < s.length) : s.take (i + 1) = s.take i ++ [s.getD i 0] := by
  rw [List.take_succ_eq_append_getElem h, List.getD_eq_getElem?_getD, List.getElem?_eq_getElem h]; rfl
theorem take_hi {s : List Nat} {i : Nat} (hs : ∀ x ∈ s, x < 256) (hi : i ≤ lead s) : ∀ y ∈ s.take i, 128 ≤ y ∧ y < 256 := by
  intro y hy
  refine ⟨?_, hs y (List.mem_of_mem_take hy)⟩
  obtain ⟨j, hj, rfl⟩ := List.mem_iff_getElem.1 hy
  rw [List.length_take] at hj
  have := lead_hi s j (by omega)
  rw [List.getD_eq_getElem?_getD, List.getElem?_eq_getElem (by omega)] at this
  rw [List.getElem_take]
  exact this
theorem canon {s : List Nat} (hs : ∀ x ∈ s, x < 256) (h10 : lead s < 10) (hl : lead s < s.length) (hb : ¬ vbad s (lead s)) :
    num (s.take (lead s + 1)) < 18446744073709551616 ∧ vb (num (s.take (lead s + 1))) = s.take (lead s + 1) := by
  have hx := lead_lo s hl
  have hn := num_lt (s.take (lead s))
  rw [List.length_take, Nat.min_eq_left (by omega)] at hn
  unfold vbad at hb
  refine ⟨?_, ?_⟩
  · rw [take_snoc hl, num_snoc, List.length_take, Nat.min_eq_left (by omega), Nat.mod_eq_of_lt hx]
    rcases Nat.lt_or_ge (lead s) 9 with h9 | h9
    · have h3 : (128 : Nat) ^ (lead s) ≤ 128 ^ 8 := Nat.pow_le_pow_right (by omega) (by omega)
      have h4 : s.getD (lead s) 0 * 128 ^ (lead s) ≤ 127 * 128 ^ 8 := Nat.mul_le_mul (by omega) h3
      omega
    · have h9' : lead s = 9 := by omega
      have h5 : s.getD (lead s) 0 ≤ 1 := by omega
      have h4 : s.getD (lead s) 0 * 128 ^ (lead s) ≤ 1 * 128 ^ 9 := Nat.mul_le_mul h5 (by rw [h9']; exact Nat.le_refl _)
      rw [h9'] at hn h4 ⊢
      omega
  · rw [take_snoc hl]
    refine vb_num _ _ (take_hi hs (Nat.le_refl _)) hx ?_
    by_cases h0 : lead s = 0
    · left; rw [h0]; rfl
    · right; omega
theorem not_canon {s : List Nat} (h10 : lead s < 10) (hl : lead s < s.length) (hb : vbad s (lead s)) :
    vb (num (s.take (lead s + 1)) % 18446744073709551616) ≠ s.take (lead s + 1) := by
  intro h
  have hx := lead_lo s hl
  have e := congrArg num h
  rw [num_vb] at e
  have hlen := congrArg List.length h
  rw [List.length_take, Nat.min_eq_left (by omega)] at hlen
  rcases hb with ⟨h0, hi⟩ | ⟨h9, h1⟩
  · have h2 : num (s.take (lead s + 1)) < 128 ^ lead s := by
      rw [take_snoc hl, h0, num_snoc]
      have := num_lt (s.take (lead s))
      rw [List.length_take, Nat.min_eq_left (by omega)] at this
      simpa using this
    rw [← e] at h2
    have := vb_len_le (lead s) _ hi h2
    omega
  · have h2 : 2 * 128 ^ 9 ≤ num (s.take (lead s + 1)) := by
      rw [take_snoc hl, num_snoc, List.length_take, Nat.min_eq_left (by omega), Nat.mod_eq_of_lt hx, h9]
      have : 2 * 128 ^ 9 ≤ s.getD 9 0 * 128 ^ 9 := Nat.mul_le_mul (by rw [h9] at h1; omega) (Nat.le_refl _)
      omega
    have h3 : num (s.take (lead s + 1)) % 18446744073709551616 < 18446744073709551616 := Nat.mod_lt _ (by omega)
    omega
theorem vtake_vb {n : Nat} (h : n < 18446744073709551616) (r : List Nat) : vtake (vb n ++ r) = (n, r, 0) := by
  have hl := lead_vb _ n r rfl
  have h10 := vb_length_le10 h
  have hp := vb_length_pos n
  have e1 : (vb n ++ r).take (lead (vb n ++ r) + 1) = vb n := by rw [hl, List.take_left]
  have hlt : lead (vb n ++ r) < (vb n ++ r).length := by rw [List.length_append]; omega
  unfold vtake
  rw [if_neg (by omega), if_neg (by omega), if_neg, hl, List.take_left, List.drop_left, num_vb]
  intro hb
  refine not_canon (by omega) hlt hb ?_
  rw [e1, num_vb, Nat.mod_eq_of_lt h]
theorem vtake_ok {s : List Nat} (hs : ∀ x ∈ s, x < 256) (h : (vtake s).2.2 = 0) : (vtake s).1 < 18446744073709551616 ∧ vb (vtake s).1 ++ (vtake s).2.1 = s := by
  unfold vtake at h ⊢
  by_cases h1 : 10 ≤ lead s
  · rw [if_pos h1] at h; exact absurd h (by simp)
  rw [if_neg h1] at h ⊢
  by_cases h2 : lead s = s.length
  · rw [if_pos h2] at h; exact absurd h (by simp)
  rw [if_neg h2] at h ⊢
  by_cases h3 : vbad s (lead s)
  · rw [if_pos h3] at h; exact absurd h (by simp)
  rw [if_neg h3]
  obtain ⟨c1, c2⟩ := canon hs (by omega) (Nat.lt_of_le_of_ne (lead_le s) h2) h3
  refine ⟨c1, ?_⟩
  rw [c2, List.take_append_drop]
theorem vtake_rest {s : List Nat} : (vtake s).2.1.length ≤ s.length ∧ ∀ x ∈ (vtake s).2.1, x ∈ s := by
  unfold vtake
  split
  · simp
  split
  · simp
  split
  · simp
  · refine ⟨by simp, fun x hx => List.mem_of_mem_drop hx⟩
theorem vtake_lt {s : List Nat} (hs : ∀ x ∈ s, x < 256) : (vtake s).1 < 18446744073709551616 := by
  unfold vtake
  split
  · simp
  split
  · simp
  split
  · simp
  · have := lead_le s
    exact (canon hs (by omega) (by omega) (by assumption)).1
def isLen (n l : Nat) : Prop := n < 2 ^ l ∧ (l = 0 ∨ 2 ^ (l - 1) ≤ n)
instance (n l : Nat) : Decidable (isLen n l) := by unfold isLen; infer_instance
theorem isLen_up {n l m : Nat} (hn : 2 ^ m ≤ n) (h : isLen (n / 2 ^ m) l) : isLen n (l + m) := by
  obtain ⟨h1, h2⟩ := h
  have hp : 0 < 2 ^ m := Nat.two_pow_pos m
  have hq : 1 ≤ n / 2 ^ m := (Nat.le_div_iff_mul_le hp).2 (by omega)
  have hl : l ≠ 0 := by
    intro h0
    rw [h0] at h1
    omega
  refine ⟨?_, Or.inr ?_⟩
  · rw [Nat.pow_add]; exact (Nat.div_lt_iff_lt_mul hp).1 h1
  · have h3 := h2.resolve_left hl
    rw [show l + m - 1 = (l - 1) + m by omega, Nat.pow_add]
    exact (Nat.le_div_iff_mul_le hp).1 h3
theorem isLen_vb {n l : Nat} (h : isLen n l) : ((vb n).length : Int) = if 1 < (l + 6) / 7 then (((l + 6) / 7 : Nat) : Int) else 1 := by
  obtain ⟨h1, h2⟩ := h
  have hle : n < 128 ^ ((l + 6) / 7) := by
    rw [show (128 : Nat) = 2 ^ 7 from rfl, ← Nat.pow_mul]
    exact Nat.lt_of_lt_of_le h1 (Nat.pow_le_pow_right (by omega) (by omega))
  split
  · next hs =>
    have hge : 128 ^ ((l + 6) / 7 - 1) ≤ n := by
      rw [show (128 : Nat) = 2 ^ 7 from rfl, ← Nat.pow_mul]
      exact Nat.le_trans (Nat.pow_le_pow_right (by omega) (by omega)) (h2.resolve_left (by omega))
    have a := vb_len_le _ n (by omega) hle
    have b := vb_len_ge _ n hge
    omega
  · next hs =>
    have h128 : n < 128 := by
      refine Nat.lt_of_lt_of_le hle ?_
      exact Nat.le_trans (Nat.pow_le_pow_right (by omega) (show (l + 6) / 7 ≤ 1 by omega)) (by simp)
    rw [vb_small h128]; rfl
def stp (c : Nat) : Nat := if c % 2 = 1 then (c / 2) ^^^ 3988292384 else c / 2
def ent (i : Nat) : Nat := stp (stp (stp (stp (stp (stp (stp (stp i)))))))
def tbl : List Nat := (List.range 256).map ent
def mor (t : List Nat) : Nat → List Nat → Nat
  | c, [] => c
  | c, x :: b => mor t (t.getD ((c % 256) ^^^ x) 0 ^^^ (c / 256)) b
def csum (t b : List Nat) : Nat := mor t 4294967295 b ^^^ 4294967295
theorem tbl_length : tbl.length = 256 := by simp [tbl]
theorem tbl_lt : ∀ x ∈ tbl, x < 4294967296 := by decide +kernel
theorem nxt_lt {t : List Nat} (ht : ∀ x ∈ t, x < 4294967296) (c x : Nat) (hc : c < 4294967296) : t.getD ((c % 256) ^^^ x) 0 ^^^ (c / 256) < 4294967296 :=
  xor_lt32 (getD_lt ht (by omega)) (by omega)
theorem mor_lt {t : List Nat} (ht : ∀ x ∈ t, x < 4294967296) : ∀ (b : List Nat) (c : Nat), c < 4294967296 → mor t c b < 4294967296
  | [], c, hc => hc
  | x :: b, c, hc => mor_lt ht b _ (nxt_lt ht c x hc)
theorem mor_append (t : List Nat) : ∀ (a b : List Nat) (c : Nat), mor t c (a ++ b) = mor t (mor t c a) b
  | [], b, c => rfl
  | x :: a, b, c => mor_append t a b _
theorem csum_lt {t : List Nat} (ht : ∀ x ∈ t, x < 4294967296) (b : List Nat) : csum t b < 4294967296 := xor_lt32 (mor_lt ht b _ (by omega)) (by omega)
theorem tbl_at {j : Nat} (h : j < 256) : tbl.getD j 0 = ent j := by
  simp only [tbl, List.getD_eq_getElem?_getD, List.getElem?_map, List.getElem?_range h, Option.map_some, Option.getD_some]
theorem xor_mod256 {c x : Nat} (hx : x < 256) : (c ^^^ x) % 256 = (c % 256) ^^^ x := by
  have := Nat.xor_mod_two_pow (a := c) (b := x) (n := 8)
  rw [show (2 : Nat) ^ 8 = 256 from rfl, Nat.mod_eq_of_lt hx] at this
  exact this
def four (c : Nat) : List Nat := [c % 256, c / 256 % 256, c / 65536 % 256, c / 16777216 % 256]
theorem four_lt (c : Nat) : ∀ x ∈ four c, x < 256 := by
  intro x hx
  simp only [four, List.mem_cons, List.not_mem_nil, or_false] at hx
  omega
theorem four_length (c : Nat) : (four c).length = 4 := rfl
def sealed (t b : List Nat) : List Nat := b ++ four (csum t b)
theorem sealed_length (t b : List Nat) : (sealed t b).length = b.length + 4 := by simp [sealed, four_length]
theorem sealed_lt (t : List Nat) {b : List Nat} (hb : ∀ x ∈ b, x < 256) : ∀ x ∈ sealed t b, x < 256 := by
  intro x hx
  rcases List.mem_append.1 hx with h | h
  · exact hb x h
  · exact four_lt _ x h
def opened (t s : List Nat) : List Nat × Nat := if s.length < 4 then ([], 2) else if four (csum t (s.take (s.length - 4))) = s.drop (s.length - 4) then (s.take (s.length - 4), 0) else ([], 4)
theorem open_sealed (t b : List Nat) : opened t (sealed t b) = (b, 0) := by
  unfold opened
  rw [sealed_length, if_neg (by omega), show b.length + 4 - 4 = b.length by omega]
  unfold sealed
  rw [List.take_left, List.drop_left, if_pos rfl]
/-- The lengths of bytes in bits. -/
def lenL : List Int := [0, 1, 2, 2, 3, 3, 3, 3, 4, 4, 4, 4, 4, 4, 4, 4, 5, 5, 5, 5, 5, 5, 5, 5, 5, 5, 5, 5, 5, 5, 5, 5, 6, 6, 6, 6, 6, 6, 6, 6, 6, 6, 6, 6, 6, 6, 6, 6, 6, 6, 6, 6, 6, 6, 6, 6, 6, 6, 6, 6, 6, 6, 6, 6, 7, 7, 7, 7, 7, 7, 7, 7, 7, 7, 7, 7, 7, 7, 7, 7, 7, 7, 7, 7, 7, 7, 7, 7, 7, 7, 7, 7, 7, 7, 7, 7, 7, 7, 7, 7, 7, 7, 7, 7, 7, 7, 7, 7, 7, 7, 7, 7, 7, 7, 7, 7, 7, 7, 7, 7, 7, 7, 7, 7, 7, 7, 7, 7, 8, 8, 8, 8, 8, 8, 8, 8, 8, 8, 8, 8, 8, 8, 8, 8, 8, 8, 8, 8, 8, 8, 8, 8, 8, 8, 8, 8, 8, 8, 8, 8, 8, 8, 8, 8, 8, 8, 8, 8, 8, 8, 8, 8, 8, 8, 8, 8, 8, 8, 8, 8, 8, 8, 8, 8, 8, 8, 8, 8, 8, 8, 8, 8, 8, 8, 8, 8, 8, 8, 8, 8, 8, 8, 8, 8, 8, 8, 8, 8, 8, 8, 8, 8, 8, 8, 8, 8, 8, 8, 8, 8, 8, 8, 8, 8, 8, 8, 8, 8, 8, 8, 8, 8, 8, 8, 8, 8, 8, 8, 8, 8, 8, 8, 8, 8, 8, 8, 8, 8, 8, 8, 8, 8, 8, 8, 8, 8]
theorem lenL_at : ∀ v ∈ List.range 256, ∃ l ∈ List.range 9, lenL[v]? = some (l : Int) ∧ isLen v l := by decide +kernel
def bl (n : Nat) : Nat := if n = 0 then 0 else bl (n / 2) + 1
termination_by n
decreasing_by omega
theorem isLen_bl (n : Nat) : isLen n (bl n) := by
  induction n using Nat.strongRecOn with
  | ind n ih =>
    by_cases h : n = 0
    · rw [bl, if_pos h, h]; exact ⟨by decide, .inl rfl⟩
    · rw [bl, if_neg h]
      by_cases h1 : n = 1
      · subst h1
        have e : bl (1 / 2) = 0 := by rw [bl]; rfl
        rw [e]; exact ⟨by decide, .inr (by decide)⟩
      · exact isLen_up (m := 1) (by omega) (by simpa using ih (n / 2) (by omega))
theorem isLen_unique {n a b : Nat} (ha : isLen n a) (hb : isLen n b) : a = b := by
  obtain ⟨a1, a2⟩ := ha
  obtain ⟨b1, b2⟩ := hb
  rcases Nat.lt_trichotomy a b with h | h | h
  · have h1 : 2 ^ a ≤ 2 ^ (b - 1) := Nat.pow_le_pow_right (by omega) (by omega)
    have := b2.resolve_left (by omega)
    omega
  · exact h
  · have h1 : 2 ^ b ≤ 2 ^ (a - 1) := Nat.pow_le_pow_right (by omega) (by omega)
    have := a2.resolve_left (by omega)
    omega
def u8 (n : Nat) : PV := .int .u8 n
def u32 (n : Nat) : PV := .int .u32 n
attribute [simp] u8 u32
/-- Bytes. -/
@[simp] abbrev bV (l : List Nat) (o : Bool) : PV := .lst 1 (l.map u8) o
end Go.Proofs.Ytibmolekndeofaa.E
/- The functions of this claim as operations on plain values. -/
namespace Go.Proofs.Ytibmolekndeofaa.E
open Go Go.RowKit Go.Proofs
set_option linter.unusedVariables false
set_option maxRecDepth 100000
def p2 : PFn :=
  ⟨1, [], .region [
     ⟨some 0, none, .callF 1 [] []⟩]⟩
theorem t2 : compF Try.prog {} 2 = some p2 := by kernel_rfl
def p3 : PFn :=
  ⟨155, [.t 6], .seq
    (.region [
      ⟨some 6, none, .mv true (.c (.bool false))⟩])
    (.seq
     (.seq
      (.region [
        ⟨some 17, none, .mv false (.t 0)⟩,
        ⟨some 18, none, .callF 7 [.t 17] []⟩,
        ⟨some 19, none, .un .not (.t 18)⟩,
        ⟨some 20, none, .mv false (.t 19)⟩,
        ⟨some 21, some (20, false), .mv false (.t 2)⟩,
        ⟨some 22, some (20, false), .callF 7 [.t 21] []⟩,
        ⟨some 23, some (20, false), .un .not (.t 22)⟩,
        ⟨some 24, none, .pick (.t 20) (.c (.bool true)) (.t 23)⟩])
      (.cond (.t 24)
       (.seq
        (.region [
          ⟨some 25, none, .callF 8 [] []⟩,
          ⟨some 6, none, .mv true (.t 25)⟩])
        .ret)
       .skip))
     (.seq
      (.region [
        ⟨some 27, none, .mv false (.t 0)⟩,
        ⟨some 28, none, .callF 9 [.t 27] []⟩,
        ⟨some 26, none, .mv true (.t 28)⟩,
        ⟨some 29, none, .ext true (.t 26) 0⟩,
        ⟨some 30, none, .ext false (.t 26) 1⟩,
        ⟨some 7, none, .mv true (.t 29)⟩,
        ⟨some 8, none, .mv true (.t 30)⟩])
      (.seq
       (.region [
         ⟨some 32, none, .mv false (.t 2)⟩,
         ⟨some 33, none, .callF 9 [.t 32] []⟩,
         ⟨some 31, none, .mv true (.t 33)⟩,
         ⟨some 34, none, .ext true (.t 31) 0⟩,
         ⟨some 35, none, .ext false (.t 31) 1⟩,
         ⟨some 9, none, .mv true (.t 34)⟩,
         ⟨some 10, none, .mv true (.t 35)⟩])
       (.seq
        (.seq
         (.region [
           ⟨some 36, none, .mv false (.t 8)⟩,
           ⟨some 37, none, .un .not (.t 36)⟩,
           ⟨some 38, none, .mv false (.t 37)⟩,
           ⟨some 39, some (38, false), .mv false (.t 10)⟩,
           ⟨some 40, some (38, false), .un .not (.t 39)⟩,
           ⟨some 41, none, .pick (.t 38) (.c (.bool true)) (.t 40)⟩])
         (.cond (.t 41)
          (.seq
           (.region [
             ⟨some 6, none, .mv true (.c (.bool false))⟩])
           .ret)
          .skip))
        (.seq
         (.region [
           ⟨some 43, none, .mv false (.t 7)⟩,
           ⟨some 44, none, .callF 10 [.t 43] []⟩,
           ⟨some 42, none, .mv true (.t 44)⟩,
           ⟨some 45, none, .ext true (.t 42) 0⟩,
           ⟨some 46, none, .ext false (.t 42) 1⟩,
           ⟨some 11, none, .mv true (.t 45)⟩,
           ⟨some 12, none, .mv true (.t 46)⟩])
         (.seq
          (.seq
           (.region [
             ⟨some 47, none, .mv false (.t 12)⟩,
             ⟨some 48, none, .mv false (.t 7)⟩,
             ⟨some 49, none, .len false (.t 48)⟩,
             ⟨some 50, none, .bin .neq (.t 47) (.t 49)⟩,
             ⟨some 51, none, .mv false (.t 50)⟩,
             ⟨some 52, some (51, false), .mv false (.t 11)⟩,
             ⟨some 53, some (51, false), .mv false (.t 0)⟩,
             ⟨some 54, some (51, false), .callF 12 [.t 53] []⟩,
             ⟨some 55, some (51, false), .callF 11 [.t 52, .t 54] []⟩,
             ⟨some 56, some (51, false), .un .not (.t 55)⟩,
             ⟨some 57, none, .pick (.t 51) (.c (.bool true)) (.t 56)⟩,
             ⟨some 58, none, .mv false (.t 57)⟩,
             ⟨some 59, some (58, false), .mv false (.t 1)⟩,
             ⟨some 60, some (58, false), .bin .lss (.t 59) (.c (.int .i64 0))⟩,
             ⟨some 61, none, .pick (.t 58) (.c (.bool true)) (.t 60)⟩,
             ⟨some 62, none, .mv false (.t 61)⟩,
             ⟨some 63, some (62, false), .mv false (.t 1)⟩,
             ⟨some 64, some (62, false), .mv false (.t 7)⟩,
             ⟨some 65, some (62, false), .len false (.t 64)⟩,
             ⟨some 66, some (62, false), .bin .gtr (.t 63) (.t 65)⟩,
             ⟨some 67, none, .pick (.t 62) (.c (.bool true)) (.t 66)⟩])
           (.cond (.t 67)
            (.seq
             (.region [
               ⟨some 68, none, .mv false (.t 12)⟩,
               ⟨some 69, none, .mv false (.t 7)⟩,
               ⟨some 70, none, .len false (.t 69)⟩,
               ⟨some 71, none, .bin .eql (.t 68) (.t 70)⟩,
               ⟨some 72, none, .mv false (.t 71)⟩,
               ⟨some 73, some (72, true), .mv false (.t 11)⟩,
               ⟨some 74, some (72, true), .mv false (.t 0)⟩,
               ⟨some 75, some (72, true), .callF 12 [.t 74] []⟩,
               ⟨some 76, some (72, true), .callF 11 [.t 73, .t 75] []⟩,
               ⟨some 77, none, .pick (.t 72) (.t 76) (.c (.bool false))⟩,
               ⟨some 78, none, .mv false (.t 77)⟩,
               ⟨some 79, some (78, true), .callF 8 [] []⟩,
               ⟨some 80, none, .pick (.t 78) (.t 79) (.c (.bool false))⟩,
               ⟨some 6, none, .mv true (.t 80)⟩])
             .ret)
            .skip))
          (.seq
           (.region [
             ⟨some 82, none, .mv false (.t 7)⟩,
             ⟨some 83, none, .mv false (.t 1)⟩,
             ⟨some 84, none, .sli 1 (.t 82) none (some (.t 83)) none⟩,
             ⟨some 85, none, .callF 10 [.t 84] []⟩,
             ⟨some 81, none, .mv true (.t 85)⟩,
             ⟨some 86, none, .ext true (.t 81) 0⟩,
             ⟨some 87, none, .ext false (.t 81) 1⟩,
             ⟨some 13, none, .mv true (.t 86)⟩,
             ⟨some 14, none, .mv true (.t 87)⟩])
           (.seq
            (.seq
             (.region [
               ⟨some 88, none, .mv false (.t 14)⟩,
               ⟨some 89, none, .mv false (.t 1)⟩,
               ⟨some 90, none, .bin .gtr (.t 88) (.t 89)⟩,
               ⟨some 91, none, .mv false (.t 90)⟩,
               ⟨some 92, some (91, false), .mv false (.t 14)⟩,
               ⟨some 93, some (91, false), .bin .lss (.t 92) (.c (.int .i64 0))⟩,
               ⟨some 94, none, .pick (.t 91) (.c (.bool true)) (.t 93)⟩,
               ⟨some 95, none, .mv false (.t 94)⟩,
               ⟨some 96, some (95, false), .mv false (.t 13)⟩,
               ⟨some 97, some (95, false), .len false (.t 96)⟩,
               ⟨some 98, some (95, false), .mv false (.t 0)⟩,
               ⟨some 99, some (95, false), .len false (.t 98)⟩,
               ⟨some 100, some (95, false), .bin .gtr (.t 97) (.t 99)⟩,
               ⟨some 101, none, .pick (.t 95) (.c (.bool true)) (.t 100)⟩,
               ⟨some 102, none, .mv false (.t 101)⟩,
               ⟨some 103, some (102, false), .mv false (.t 13)⟩,
               ⟨some 104, some (102, false), .mv false (.t 0)⟩,
               ⟨some 105, some (102, false), .mv false (.t 13)⟩,
               ⟨some 106, some (102, false), .len false (.t 105)⟩,
               ⟨some 107, some (102, false), .sli 4 (.t 104) none (some (.t 106)) none⟩,
               ⟨some 108, some (102, false), .callF 12 [.t 107] []⟩,
               ⟨some 109, some (102, false), .callF 11 [.t 103, .t 108] []⟩,
               ⟨some 110, some (102, false), .un .not (.t 109)⟩,
               ⟨some 111, none, .pick (.t 102) (.c (.bool true)) (.t 110)⟩,
               ⟨some 112, none, .mv false (.t 111)⟩,
               ⟨some 113, some (112, false), .mv false (.t 1)⟩,
               ⟨some 114, some (112, false), .mv false (.t 7)⟩,
               ⟨some 115, some (112, false), .len false (.t 114)⟩,
               ⟨some 116, some (112, false), .bin .eql (.t 113) (.t 115)⟩,
               ⟨some 117, some (112, false), .mv false (.t 116)⟩,
               ⟨some 118, some (117, true), .mv false (.t 13)⟩,
               ⟨some 119, some (117, true), .len false (.t 118)⟩,
               ⟨some 120, some (117, true), .mv false (.t 0)⟩,
               ⟨some 121, some (117, true), .len false (.t 120)⟩,
               ⟨some 122, some (117, true), .bin .neq (.t 119) (.t 121)⟩,
               ⟨some 123, some (112, false), .pick (.t 117) (.t 122) (.c (.bool false))⟩,
               ⟨some 124, none, .pick (.t 112) (.c (.bool true)) (.t 123)⟩])
             (.cond (.t 124)
              (.seq
               (.region [
                 ⟨some 6, none, .mv true (.c (.bool false))⟩])
               .ret)
              .skip))
            (.seq
             (.region [
               ⟨some 126, none, .bsl 1 0 false [] [] false⟩,
               ⟨some 127, none, .mv false (.t 7)⟩,
               ⟨some 128, none, .mv false (.t 14)⟩,
               ⟨some 129, none, .sli 1 (.t 127) none (some (.t 128)) none⟩,
               ⟨some 130, none, .app 1 1 (.t 126) (.t 129)⟩,
               ⟨some 131, none, .mv false (.t 9)⟩,
               ⟨some 132, none, .app 1 1 (.t 130) (.t 131)⟩,
               ⟨some 133, none, .callF 10 [.t 132] []⟩,
               ⟨some 125, none, .mv true (.t 133)⟩,
               ⟨some 134, none, .ext true (.t 125) 0⟩,
               ⟨some 135, none, .ext false (.t 125) 1⟩,
               ⟨some 15, none, .mv true (.t 134)⟩,
               ⟨some 16, none, .mv true (.t 135)⟩])
             (.seq
              (.region [
                ⟨some 136, none, .callF 8 [] []⟩,
                ⟨some 137, none, .mv false (.t 136)⟩,
                ⟨some 138, some (137, true), .mv false (.t 16)⟩,
                ⟨some 139, some (137, true), .mv false (.t 14)⟩,
                ⟨some 140, some (137, true), .mv false (.t 9)⟩,
                ⟨some 141, some (137, true), .len false (.t 140)⟩,
                ⟨some 142, some (137, true), .bin .add (.t 139) (.t 141)⟩,
                ⟨some 143, some (137, true), .bin .eql (.t 138) (.t 142)⟩,
                ⟨some 144, none, .pick (.t 137) (.t 143) (.c (.bool false))⟩,
                ⟨some 145, none, .mv false (.t 144)⟩,
                ⟨some 146, some (145, true), .mv false (.t 15)⟩,
                ⟨some 147, some (145, true), .bsl 4 0 true [] [] false⟩,
                ⟨some 148, some (145, true), .mv false (.t 13)⟩,
                ⟨some 149, some (145, true), .app 4 32 (.t 147) (.t 148)⟩,
                ⟨some 150, some (145, true), .mv false (.t 2)⟩,
                ⟨some 151, some (145, true), .app 4 32 (.t 149) (.t 150)⟩,
                ⟨some 152, some (145, true), .callF 12 [.t 151] []⟩,
                ⟨some 153, some (145, true), .callF 11 [.t 146, .t 152] []⟩,
                ⟨some 154, none, .pick (.t 145) (.t 153) (.c (.bool false))⟩,
                ⟨some 6, none, .mv true (.t 154)⟩])
              .ret))))))))))⟩
theorem t3 : compF Try.prog {} 3 = some p3 := by kernel_rfl
def p4 : PFn :=
  ⟨136, [.t 2], .seq
    (.region [
      ⟨some 2, none, .mv true (.c (.bool false))⟩])
    (.seq
     (.seq
      (.region [
        ⟨some 8, none, .mv false (.t 0)⟩,
        ⟨some 9, none, .callF 7 [.t 8] []⟩,
        ⟨some 10, none, .un .not (.t 9)⟩])
      (.cond (.t 10)
       (.seq
        (.region [
          ⟨some 11, none, .callF 8 [] []⟩,
          ⟨some 2, none, .mv true (.t 11)⟩])
        .ret)
       .skip))
     (.seq
      (.seq
       (.region [
         ⟨some 3, none, .mv true (.c (.int .i64 0))⟩])
       (.block 0
        (.loop
         (.seq
          (.seq
           (.region [
             ⟨some 12, none, .mv false (.t 3)⟩,
             ⟨some 13, none, .mv false (.t 0)⟩,
             ⟨some 14, none, .len false (.t 13)⟩,
             ⟨some 15, none, .bin .lss (.t 12) (.t 14)⟩])
           (.cond (.t 15)
            .skip
            (.exit 0)))
          (.seq
           (.block 1
            (.seq
             (.drawN [
               ⟨some 18, none, .mv false (.t 0)⟩,
               ⟨some 19, none, .mv false (.t 3)⟩,
               ⟨some 20, none, .sli 4 (.t 18) none (some (.t 19)) none⟩,
               ⟨some 21, none, .callF 13 [.t 20] []⟩,
               ⟨some 22, none, .mv false (.t 0)⟩,
               ⟨some 23, none, .mv false (.t 3)⟩,
               ⟨some 24, none, .bin .add (.t 23) (.c (.int .i64 1))⟩,
               ⟨some 25, none, .sli 4 (.t 22) none (some (.t 24)) none⟩,
               ⟨some 26, none, .callF 13 [.t 25] []⟩,
               ⟨some 4, none, .mv false (.c .unit)⟩,
               ⟨some 5, none, .mv false (.c .unit)⟩,
               ⟨some 4, none, .mvc 8 (.t 21)⟩,
               ⟨some 5, none, .mvc 8 (.t 26)⟩] [] [(9, (11, (4, 8))), (10, (12, (5, 8)))])
             (.seq
              (.seq
               (.region [
                 ⟨some 27, none, .fad 0 (.t 4)⟩,
                 ⟨some 28, none, .ld 1 false false (.t 27)⟩,
                 ⟨some 29, none, .mv false (.t 28)⟩,
                 ⟨some 30, some (29, true), .fad 0 (.t 5)⟩,
                 ⟨some 31, some (29, true), .ld 1 false false (.t 30)⟩,
                 ⟨some 32, some (29, true), .un .not (.t 31)⟩,
                 ⟨some 33, some (29, true), .mv false (.t 32)⟩,
                 ⟨some 34, some (33, false), .fad 1 (.t 4)⟩,
                 ⟨some 35, some (33, false), .ld 1 false false (.t 34)⟩,
                 ⟨some 36, some (33, false), .fad 1 (.t 5)⟩,
                 ⟨some 37, some (33, false), .ld 1 false false (.t 36)⟩,
                 ⟨some 38, some (33, false), .bin .neq (.t 35) (.t 37)⟩,
                 ⟨some 39, some (29, true), .pick (.t 33) (.c (.bool true)) (.t 38)⟩,
                 ⟨some 40, some (29, true), .mv false (.t 39)⟩,
                 ⟨some 41, some (40, false), .fad 2 (.t 4)⟩,
                 ⟨some 42, some (40, false), .ld 1 false false (.t 41)⟩,
                 ⟨some 43, some (40, false), .fad 2 (.t 5)⟩,
                 ⟨some 44, some (40, false), .ld 1 false false (.t 43)⟩,
                 ⟨some 45, some (40, false), .bin .neq (.t 42) (.t 44)⟩,
                 ⟨some 46, some (29, true), .pick (.t 40) (.c (.bool true)) (.t 45)⟩,
                 ⟨some 47, some (29, true), .mv false (.t 46)⟩,
                 ⟨some 48, some (47, false), .fad 5 (.t 5)⟩,
                 ⟨some 49, some (47, false), .ld 1 false false (.t 48)⟩,
                 ⟨some 50, some (47, false), .len false (.t 49)⟩,
                 ⟨some 51, some (47, false), .fad 2 (.t 4)⟩,
                 ⟨some 52, some (47, false), .ld 1 false false (.t 51)⟩,
                 ⟨some 53, some (47, false), .bin .neq (.t 50) (.t 52)⟩,
                 ⟨some 54, some (29, true), .pick (.t 47) (.c (.bool true)) (.t 53)⟩,
                 ⟨some 55, none, .pick (.t 29) (.t 54) (.c (.bool false))⟩,
                 ⟨some 56, none, .mv false (.t 55)⟩,
                 ⟨some 57, some (56, false), .fad 6 (.t 4)⟩,
                 ⟨some 58, some (56, false), .ld 1 false false (.t 57)⟩,
                 ⟨some 59, some (56, false), .bin .neq (.t 58) (.c (.int .i64 0))⟩,
                 ⟨some 60, some (56, false), .mv false (.t 59)⟩,
                 ⟨some 61, some (60, true), .fad 6 (.t 4)⟩,
                 ⟨some 62, some (60, true), .ld 1 false false (.t 61)⟩,
                 ⟨some 63, some (60, true), .fad 6 (.t 5)⟩,
                 ⟨some 64, some (60, true), .ld 1 false false (.t 63)⟩,
                 ⟨some 65, some (60, true), .bin .neq (.t 62) (.t 64)⟩,
                 ⟨some 66, some (60, true), .mv false (.t 65)⟩,
                 ⟨some 67, some (66, false), .fad 7 (.t 4)⟩,
                 ⟨some 68, some (66, false), .ld 1 false false (.t 67)⟩,
                 ⟨some 69, some (66, false), .fad 7 (.t 5)⟩,
                 ⟨some 70, some (66, false), .ld 1 false false (.t 69)⟩,
                 ⟨some 71, some (66, false), .bin .neq (.t 68) (.t 70)⟩,
                 ⟨some 72, some (60, true), .pick (.t 66) (.c (.bool true)) (.t 71)⟩,
                 ⟨some 73, some (56, false), .pick (.t 60) (.t 72) (.c (.bool false))⟩,
                 ⟨some 74, none, .pick (.t 56) (.c (.bool true)) (.t 73)⟩])
               (.cond (.t 74)
                (.seq
                 (.region [
                   ⟨some 2, none, .mv true (.c (.bool false))⟩])
                 .ret)
                .skip))
              (.seq
               (.seq
                (.region [
                  ⟨some 6, none, .mv true (.c (.int .i64 0))⟩])
                (.block 2
                 (.loop
                  (.seq
                   (.seq
                    (.region [
                      ⟨some 75, none, .mv false (.t 6)⟩,
                      ⟨some 76, none, .fad 5 (.t 4)⟩,
                      ⟨some 77, none, .ld 1 false false (.t 76)⟩,
                      ⟨some 78, none, .len false (.t 77)⟩,
                      ⟨some 79, none, .bin .lss (.t 75) (.t 78)⟩,
                      ⟨some 80, none, .mv false (.t 79)⟩,
                      ⟨some 81, some (80, true), .mv false (.t 6)⟩,
                      ⟨some 82, some (80, true), .fad 5 (.t 5)⟩,
                      ⟨some 83, some (80, true), .ld 1 false false (.t 82)⟩,
                      ⟨some 84, some (80, true), .len false (.t 83)⟩,
                      ⟨some 85, some (80, true), .bin .lss (.t 81) (.t 84)⟩,
                      ⟨some 86, none, .pick (.t 80) (.t 85) (.c (.bool false))⟩])
                    (.cond (.t 86)
                     .skip
                     (.exit 2)))
                   (.seq
                    (.block 3
                     (.seq
                      (.draw [
                        ⟨some 89, none, .fad 5 (.t 4)⟩,
                        ⟨some 90, none, .ld 1 false false (.t 89)⟩,
                        ⟨some 91, none, .mv false (.t 6)⟩,
                        ⟨some 92, none, .iad 1 (.t 90) (.t 91)⟩,
                        ⟨some 93, none, .ld 1 false false (.t 92)⟩,
                        ⟨some 94, none, .bin .geq (.t 93) (.c (.int .i64 0))⟩,
                        ⟨some 95, none, .mv false (.t 94)⟩,
                        ⟨some 96, some (95, true), .fad 5 (.t 4)⟩,
                        ⟨some 97, some (95, true), .ld 1 false false (.t 96)⟩,
                        ⟨some 98, some (95, true), .mv false (.t 6)⟩,
                        ⟨some 99, some (95, true), .iad 1 (.t 97) (.t 98)⟩,
                        ⟨some 100, some (95, true), .ld 1 false false (.t 99)⟩,
                        ⟨some 101, some (95, true), .fad 5 (.t 5)⟩,
                        ⟨some 102, some (95, true), .ld 1 false false (.t 101)⟩,
                        ⟨some 103, some (95, true), .mv false (.t 6)⟩,
                        ⟨some 104, some (95, true), .iad 1 (.t 102) (.t 103)⟩,
                        ⟨some 105, some (95, true), .ld 1 false false (.t 104)⟩,
                        ⟨some 106, some (95, true), .bin .neq (.t 100) (.t 105)⟩,
                        ⟨some 107, none, .pick (.t 95) (.t 106) (.c (.bool false))⟩] [])
                      (.cond (.t 107)
                       (.seq
                        (.region [
                          ⟨some 2, none, .mv true (.c (.bool false))⟩])
                        .ret)
                       .skip)))
                    (.region [
                      ⟨some 87, none, .mv false (.t 6)⟩,
                      ⟨some 88, none, .bin .add (.t 87) (.c (.int .i64 1))⟩,
                      ⟨some 6, none, .mv true (.t 88)⟩]))))))
               (.seq
                (.region [
                  ⟨some 7, none, .mv true (.c (.int .i64 0))⟩])
                (.block 4
                 (.loop
                  (.seq
                   (.seq
                    (.region [
                      ⟨some 108, none, .mv false (.t 7)⟩,
                      ⟨some 109, none, .fad 3 (.t 5)⟩,
                      ⟨some 110, none, .ld 1 false false (.t 109)⟩,
                      ⟨some 111, none, .len false (.t 110)⟩,
                      ⟨some 112, none, .bin .lss (.t 108) (.t 111)⟩])
                    (.cond (.t 112)
                     .skip
                     (.exit 4)))
                   (.seq
                    (.block 5
                     (.seq
                      (.draw [
                        ⟨some 115, none, .fad 3 (.t 5)⟩,
                        ⟨some 116, none, .ld 1 false false (.t 115)⟩,
                        ⟨some 117, none, .mv false (.t 7)⟩,
                        ⟨some 118, none, .iad 1 (.t 116) (.t 117)⟩,
                        ⟨some 119, none, .ld 1 false false (.t 118)⟩,
                        ⟨some 120, none, .bin .geq (.t 119) (.c (.int .i64 0))⟩,
                        ⟨some 121, none, .mv false (.t 120)⟩,
                        ⟨some 122, some (121, true), .mv false (.t 0)⟩,
                        ⟨some 123, some (121, true), .mv false (.t 3)⟩,
                        ⟨some 124, some (121, true), .bin .add (.t 123) (.c (.int .i64 1))⟩,
                        ⟨some 125, some (121, true), .sli 4 (.t 122) none (some (.t 124)) none⟩,
                        ⟨some 126, some (121, true), .mv false (.t 7)⟩,
                        ⟨some 127, some (121, true), .fad 3 (.t 5)⟩,
                        ⟨some 128, some (121, true), .ld 1 false false (.t 127)⟩,
                        ⟨some 129, some (121, true), .mv false (.t 7)⟩,
                        ⟨some 130, some (121, true), .iad 1 (.t 128) (.t 129)⟩,
                        ⟨some 131, some (121, true), .ld 1 false false (.t 130)⟩,
                        ⟨some 132, some (121, true), .callF 14 [.t 125, .t 126, .t 131] []⟩,
                        ⟨some 133, some (121, true), .un .not (.t 132)⟩,
                        ⟨some 134, none, .pick (.t 121) (.t 133) (.c (.bool false))⟩] [])
                      (.cond (.t 134)
                       (.seq
                        (.region [
                          ⟨some 2, none, .mv true (.c (.bool false))⟩])
                        .ret)
                       .skip)))
                    (.region [
                      ⟨some 113, none, .mv false (.t 7)⟩,
                      ⟨some 114, none, .bin .add (.t 113) (.c (.int .i64 1))⟩,
                      ⟨some 7, none, .mv true (.t 114)⟩]))))))))))
           (.region [
             ⟨some 16, none, .mv false (.t 3)⟩,
             ⟨some 17, none, .bin .add (.t 16) (.c (.int .i64 1))⟩,
             ⟨some 3, none, .mv true (.t 17)⟩]))))))
      (.seq
       (.region [
         ⟨some 135, none, .callF 8 [] []⟩,
         ⟨some 2, none, .mv true (.t 135)⟩])
       .ret)))⟩
theorem t4 : compF Try.prog {} 4 = some p4 := by kernel_rfl
def p5 : PFn :=
  ⟨107, [.t 4], .seq
    (.region [
      ⟨some 2, none, .bxI 4 (.t 0)⟩,
      ⟨some 4, none, .mv true (.c (.bool false))⟩])
    (.seq
     (.seq
      (.region [
        ⟨some 18, none, .mv false (.t 1)⟩,
        ⟨some 19, none, .len false (.t 18)⟩,
        ⟨some 20, none, .bin .gtr (.t 19) (.c (.int .i64 1500))⟩])
      (.cond (.t 20)
       (.seq
        (.region [
          ⟨some 21, none, .callF 8 [] []⟩,
          ⟨some 4, none, .mv true (.t 21)⟩])
        .ret)
       .skip))
     (.seq
      (.region [
        ⟨some 22, none, .bsl 1 0 false [] [] false⟩,
        ⟨some 23, none, .mv false (.t 1)⟩,
        ⟨some 24, none, .app 1 1 (.t 22) (.t 23)⟩,
        ⟨some 5, none, .mv true (.t 24)⟩])
      (.seq
       (.region [
         ⟨some 26, none, .mv false (.t 5)⟩,
         ⟨some 27, none, .ld 4 true false (.t 2)⟩,
         ⟨some 28, none, .callF 15 [.t 26, .t 27] []⟩,
         ⟨some 25, none, .mv true (.t 28)⟩,
         ⟨some 29, none, .ext true (.t 25) 0⟩,
         ⟨some 30, none, .ext false (.t 25) 1⟩,
         ⟨some 6, none, .mv true (.t 29)⟩,
         ⟨some 7, none, .mv true (.t 30)⟩])
       (.seq
        (.region [
          ⟨some 32, none, .mv false (.t 1)⟩,
          ⟨some 33, none, .ld 4 true false (.t 2)⟩,
          ⟨some 34, none, .callF 17 [.t 33] []⟩,
          ⟨some 35, none, .callF 16 [.t 32, .t 34] []⟩,
          ⟨some 31, none, .mv true (.t 35)⟩,
          ⟨some 36, none, .ext true (.t 31) 0⟩,
          ⟨some 37, none, .ext false (.t 31) 1⟩,
          ⟨some 8, none, .mv true (.t 36)⟩,
          ⟨some 9, none, .mv true (.t 37)⟩])
        (.seq
         (.region [
           ⟨some 39, none, .mv false (.t 5)⟩,
           ⟨some 40, none, .callF 10 [.t 39] []⟩,
           ⟨some 38, none, .mv true (.t 40)⟩,
           ⟨some 41, none, .ext true (.t 38) 0⟩,
           ⟨some 42, none, .ext false (.t 38) 1⟩,
           ⟨some 10, none, .mv true (.t 41)⟩,
           ⟨some 11, none, .mv true (.t 42)⟩])
         (.seq
          (.region [
            ⟨some 44, none, .mv false (.t 1)⟩,
            ⟨some 45, none, .callF 18 [.t 44] []⟩,
            ⟨some 43, none, .mv true (.t 45)⟩,
            ⟨some 46, none, .ext true (.t 43) 0⟩,
            ⟨some 47, none, .ext false (.t 43) 1⟩,
            ⟨some 12, none, .mv true (.t 46)⟩,
            ⟨some 13, none, .mv true (.t 47)⟩])
          (.seq
           (.region [
             ⟨some 49, none, .mv false (.t 5)⟩,
             ⟨some 50, none, .callF 19 [.t 49] []⟩,
             ⟨some 48, none, .mv true (.t 50)⟩,
             ⟨some 51, none, .ext true (.t 48) 0⟩,
             ⟨some 52, none, .ext false (.t 48) 1⟩,
             ⟨some 14, none, .al [.bool false, .int .i64 0, .int .i64 0, .lst 0 [] true, .lst 0 [] true, .lst 0 [] true, .int .i64 0, .int .i64 0]⟩,
             ⟨none, none, .sto 8 (.t 14) (.t 51)⟩,
             ⟨some 15, none, .mv true (.t 52)⟩])
           (.seq
            (.region [
              ⟨some 54, none, .mv false (.t 1)⟩,
              ⟨some 55, none, .callF 20 [.t 54] []⟩,
              ⟨some 53, none, .mv true (.t 55)⟩,
              ⟨some 56, none, .ext true (.t 53) 0⟩,
              ⟨some 57, none, .ext false (.t 53) 1⟩,
              ⟨some 16, none, .al [.bool false, .int .i64 0, .int .i64 0, .lst 0 [] true, .lst 0 [] true, .lst 0 [] true, .int .i64 0, .int .i64 0]⟩,
              ⟨none, none, .sto 8 (.t 16) (.t 56)⟩,
              ⟨some 17, none, .mv true (.t 57)⟩])
            (.seq
             (.draw [
               ⟨some 58, none, .callF 8 [] []⟩,
               ⟨some 59, none, .mv false (.t 58)⟩,
               ⟨some 60, some (59, true), .mv false (.t 6)⟩,
               ⟨some 61, some (59, true), .cvS (.t 60)⟩,
               ⟨some 62, some (59, true), .mv false (.t 8)⟩,
               ⟨some 63, some (59, true), .cvS (.t 62)⟩,
               ⟨some 64, some (59, true), .bin .eql (.t 61) (.t 63)⟩,
               ⟨some 65, none, .pick (.t 59) (.t 64) (.c (.bool false))⟩,
               ⟨some 66, none, .mv false (.t 65)⟩,
               ⟨some 67, some (66, true), .mv false (.t 7)⟩,
               ⟨some 68, some (66, true), .mv false (.t 9)⟩,
               ⟨some 69, some (66, true), .bin .eql (.t 67) (.t 68)⟩,
               ⟨some 70, none, .pick (.t 66) (.t 69) (.c (.bool false))⟩,
               ⟨some 71, none, .mv false (.t 70)⟩,
               ⟨some 72, some (71, true), .mv false (.t 10)⟩,
               ⟨some 73, some (71, true), .mv false (.t 12)⟩,
               ⟨some 74, some (71, true), .callF 11 [.t 72, .t 73] []⟩,
               ⟨some 75, none, .pick (.t 71) (.t 74) (.c (.bool false))⟩,
               ⟨some 76, none, .mv false (.t 75)⟩,
               ⟨some 77, some (76, true), .mv false (.t 11)⟩,
               ⟨some 78, some (76, true), .mv false (.t 13)⟩,
               ⟨some 79, some (76, true), .bin .eql (.t 77) (.t 78)⟩,
               ⟨some 80, none, .pick (.t 76) (.t 79) (.c (.bool false))⟩,
               ⟨some 81, none, .mv false (.t 80)⟩,
               ⟨some 82, some (81, true), .ld 8 true false (.t 14)⟩,
               ⟨some 83, some (81, true), .callF 22 [.t 82] []⟩,
               ⟨some 84, some (81, true), .ld 8 true false (.t 16)⟩,
               ⟨some 85, some (81, true), .callF 21 [.t 83, .t 84] []⟩,
               ⟨some 86, none, .pick (.t 81) (.t 85) (.c (.bool false))⟩,
               ⟨some 87, none, .mv false (.t 86)⟩,
               ⟨some 88, some (87, true), .mv false (.t 15)⟩,
               ⟨some 89, some (87, true), .mv false (.t 17)⟩,
               ⟨some 90, some (87, true), .bin .eql (.t 88) (.t 89)⟩,
               ⟨some 91, none, .pick (.t 87) (.t 90) (.c (.bool false))⟩,
               ⟨some 92, none, .mv false (.t 91)⟩,
               ⟨some 93, some (92, true), .ld 4 true false (.t 2)⟩,
               ⟨some 94, some (92, true), .callF 23 [.t 93] []⟩,
               ⟨some 95, some (92, true), .ld 4 true false (.t 2)⟩,
               ⟨some 96, some (92, true), .callF 17 [.t 95] []⟩,
               ⟨some 97, some (92, true), .callF 24 [.t 96] []⟩,
               ⟨some 98, some (92, true), .binB false (.t 94) (.t 97)⟩,
               ⟨some 99, none, .pick (.t 92) (.t 98) (.c (.bool false))⟩,
               ⟨some 100, none, .mv false (.t 99)⟩,
               ⟨some 101, some (100, true), .mv false (.t 5)⟩,
               ⟨some 102, some (100, true), .cvS (.t 101)⟩,
               ⟨some 103, some (100, true), .mv false (.t 1)⟩,
               ⟨some 104, some (100, true), .cvS (.t 103)⟩,
               ⟨some 105, some (100, true), .bin .eql (.t 102) (.t 104)⟩,
               ⟨some 106, none, .pick (.t 100) (.t 105) (.c (.bool false))⟩,
               ⟨some 4, none, .mv true (.t 106)⟩] [])
             .ret)))))))))⟩
theorem t5 : compF Try.prog { ros := [2] } 5 = some p5 := by kernel_rfl
def p6 : PFn :=
  ⟨45, [.t 4], .seq
    (.region [
      ⟨some 4, none, .mv true (.c (.bool false))⟩])
    (.seq
     (.seq
      (.region [
        ⟨some 7, none, .mv false (.t 0)⟩,
        ⟨some 8, none, .callF 7 [.t 7] []⟩,
        ⟨some 9, none, .un .not (.t 8)⟩,
        ⟨some 10, none, .mv false (.t 9)⟩,
        ⟨some 11, some (10, false), .mv false (.t 1)⟩,
        ⟨some 12, some (10, false), .callF 7 [.t 11] []⟩,
        ⟨some 13, some (10, false), .un .not (.t 12)⟩,
        ⟨some 14, none, .pick (.t 10) (.c (.bool true)) (.t 13)⟩])
      (.cond (.t 14)
       (.seq
        (.region [
          ⟨some 15, none, .callF 8 [] []⟩,
          ⟨some 4, none, .mv true (.t 15)⟩])
        .ret)
       .skip))
     (.seq
      (.region [
        ⟨some 16, none, .mv false (.t 0)⟩,
        ⟨some 17, none, .callF 13 [.t 16] []⟩,
        ⟨some 18, none, .mv false (.t 1)⟩,
        ⟨some 19, none, .callF 13 [.t 18] []⟩,
        ⟨some 5, none, .al [.bool false, .int .i64 0, .int .i64 0, .lst 0 [] true, .lst 0 [] true, .lst 0 [] true, .int .i64 0, .int .i64 0]⟩,
        ⟨some 6, none, .al [.bool false, .int .i64 0, .int .i64 0, .lst 0 [] true, .lst 0 [] true, .lst 0 [] true, .int .i64 0, .int .i64 0]⟩,
        ⟨none, none, .sto 8 (.t 5) (.t 17)⟩,
        ⟨none, none, .sto 8 (.t 6) (.t 19)⟩])
      (.seq
       (.draw [
         ⟨some 20, none, .callF 8 [] []⟩,
         ⟨some 21, none, .mv false (.t 20)⟩,
         ⟨some 22, some (21, true), .ld 8 true false (.t 5)⟩,
         ⟨some 23, some (21, true), .callF 22 [.t 22] []⟩,
         ⟨some 24, some (21, true), .mv false (.t 0)⟩,
         ⟨some 25, some (21, true), .callF 12 [.t 24] []⟩,
         ⟨some 26, some (21, true), .callF 25 [.t 25] []⟩,
         ⟨some 27, some (21, true), .callF 21 [.t 23, .t 26] []⟩,
         ⟨some 28, none, .pick (.t 21) (.t 27) (.c (.bool false))⟩,
         ⟨some 29, none, .mv false (.t 28)⟩,
         ⟨some 30, some (29, true), .ld 8 true false (.t 5)⟩,
         ⟨some 31, some (29, true), .ld 8 true false (.t 6)⟩,
         ⟨some 32, some (29, true), .callF 26 [.t 30, .t 31] []⟩,
         ⟨some 33, some (29, true), .ld 8 true false (.t 5)⟩,
         ⟨some 34, some (29, true), .callF 22 [.t 33] []⟩,
         ⟨some 35, some (29, true), .ld 8 true false (.t 6)⟩,
         ⟨some 36, some (29, true), .callF 22 [.t 35] []⟩,
         ⟨some 37, some (29, true), .callF 21 [.t 34, .t 36] []⟩,
         ⟨some 38, some (29, true), .binB false (.t 32) (.t 37)⟩,
         ⟨some 39, none, .pick (.t 29) (.t 38) (.c (.bool false))⟩,
         ⟨some 40, none, .mv false (.t 39)⟩,
         ⟨some 41, some (40, true), .ld 8 true false (.t 5)⟩,
         ⟨some 42, some (40, true), .ld 8 true false (.t 5)⟩,
         ⟨some 43, some (40, true), .callF 26 [.t 41, .t 42] []⟩,
         ⟨some 44, none, .pick (.t 40) (.t 43) (.c (.bool false))⟩,
         ⟨some 4, none, .mv true (.t 44)⟩] [])
       .ret)))⟩
theorem t6 : compF Try.prog {} 6 = some p6 := by kernel_rfl
def p7 : PFn :=
  ⟨45, [.t 2], .seq
    (.region [
      ⟨some 2, none, .mv true (.c (.bool false))⟩])
    (.seq
     (.seq
      (.region [
        ⟨some 3, none, .mv true (.c (.int .i64 0))⟩])
      (.block 0
       (.loop
        (.seq
         (.seq
          (.region [
            ⟨some 4, none, .mv false (.t 3)⟩,
            ⟨some 5, none, .mv false (.t 0)⟩,
            ⟨some 6, none, .len false (.t 5)⟩,
            ⟨some 7, none, .bin .lss (.t 4) (.t 6)⟩])
          (.cond (.t 7)
           .skip
           (.exit 0)))
         (.seq
          (.block 1
           (.seq
            (.region [
              ⟨some 10, none, .mv false (.t 3)⟩,
              ⟨some 11, none, .bin .eql (.t 10) (.c (.int .i64 60))⟩,
              ⟨some 12, none, .mv false (.t 11)⟩,
              ⟨some 13, some (12, false), .mv false (.t 0)⟩,
              ⟨some 14, some (12, false), .mv false (.t 3)⟩,
              ⟨some 15, some (12, false), .iad 4 (.t 13) (.t 14)⟩,
              ⟨some 16, some (12, false), .fad 0 (.t 15)⟩,
              ⟨some 17, some (12, false), .ld 1 false false (.t 16)⟩,
              ⟨some 18, some (12, false), .bin .eql (.t 17) (.c (.int .i64 1))⟩,
              ⟨some 19, some (12, false), .mv false (.t 18)⟩,
              ⟨some 20, some (19, true), .mv false (.t 0)⟩,
              ⟨some 21, some (19, true), .mv false (.t 3)⟩,
              ⟨some 22, some (19, true), .iad 4 (.t 20) (.t 21)⟩,
              ⟨some 23, some (19, true), .fad 1 (.t 22)⟩,
              ⟨some 24, some (19, true), .ld 1 false false (.t 23)⟩,
              ⟨some 25, some (19, true), .bin .gtr (.t 24) (.c (.int .i64 1000))⟩,
              ⟨some 26, some (19, true), .mv false (.t 25)⟩,
              ⟨some 27, some (26, false), .mv false (.t 0)⟩,
              ⟨some 28, some (26, false), .mv false (.t 3)⟩,
              ⟨some 29, some (26, false), .iad 4 (.t 27) (.t 28)⟩,
              ⟨some 30, some (26, false), .fad 2 (.t 29)⟩,
              ⟨some 31, some (26, false), .ld 1 false false (.t 30)⟩,
              ⟨some 32, some (26, false), .bin .gtr (.t 31) (.c (.int .i64 1000))⟩,
              ⟨some 33, some (19, true), .pick (.t 26) (.c (.bool true)) (.t 32)⟩,
              ⟨some 34, some (12, false), .pick (.t 19) (.t 33) (.c (.bool false))⟩,
              ⟨some 35, none, .pick (.t 12) (.c (.bool true)) (.t 34)⟩,
              ⟨some 36, none, .mv false (.t 35)⟩,
              ⟨some 37, some (36, false), .mv false (.t 0)⟩,
              ⟨some 38, some (36, false), .mv false (.t 3)⟩,
              ⟨some 39, some (36, false), .iad 4 (.t 37) (.t 38)⟩,
              ⟨some 40, some (36, false), .ld 4 true false (.t 39)⟩,
              ⟨some 41, some (36, false), .callF 17 [.t 40] []⟩,
              ⟨some 42, some (36, false), .callF 24 [.t 41] []⟩,
              ⟨some 43, some (36, false), .un .not (.t 42)⟩,
              ⟨some 44, none, .pick (.t 36) (.c (.bool true)) (.t 43)⟩])
            (.cond (.t 44)
             (.seq
              (.region [
                ⟨some 2, none, .mv true (.c (.bool false))⟩])
              .ret)
             .skip)))
          (.region [
            ⟨some 8, none, .mv false (.t 3)⟩,
            ⟨some 9, none, .bin .add (.t 8) (.c (.int .i64 1))⟩,
            ⟨some 3, none, .mv true (.t 9)⟩]))))))
     (.seq
      (.region [
        ⟨some 2, none, .mv true (.c (.bool true))⟩])
      .ret))⟩
theorem t7 : compF Try.prog {} 7 = some p7 := by kernel_rfl
def p8 : PFn :=
  ⟨71, [.t 0], .seq
    (.region [
      ⟨some 0, none, .mv true (.c (.bool false))⟩])
    (.seq
     (.region [
       ⟨some 8, none, .build [.int .i64 0, .int .i64 0, .int .i64 0, .int .i64 0] [(0, (1, .c (.int .i64 1))), (1, (1, .c (.int .i64 2))), (2, (1, .c (.int .i64 1)))]⟩,
       ⟨some 9, none, .build [.int .i64 0, .int .i64 0, .int .i64 0, .int .i64 0] [(0, (1, .c (.int .i64 2))), (1, (1, .c (.int .i64 1))), (3, (1, .c (.int .i64 3)))]⟩,
       ⟨some 10, none, .bsl 4 2 true [.int .i64 0, .int .i64 0, .int .i64 0, .int .i64 0, .int .i64 0, .int .i64 0, .int .i64 0, .int .i64 0] [(0, .t 8), (4, .t 9)] false⟩,
       ⟨some 11, none, .callF 13 [.t 10] []⟩,
       ⟨some 1, none, .al [.bool false, .int .i64 0, .int .i64 0, .lst 0 [] true, .lst 0 [] true, .lst 0 [] true, .int .i64 0, .int .i64 0]⟩,
       ⟨none, none, .sto 8 (.t 1) (.t 11)⟩])
     (.seq
      (.region [
        ⟨some 13, none, .build [.int .i64 0, .int .i64 0, .int .i64 0, .int .i64 0] [(0, (1, .c (.int .i64 5)))]⟩,
        ⟨some 14, none, .callF 15 [.c (.lst 0 [] true), .t 13] []⟩,
        ⟨some 12, none, .mv true (.t 14)⟩,
        ⟨some 15, none, .ext true (.t 12) 0⟩,
        ⟨some 16, none, .ext false (.t 12) 1⟩,
        ⟨some 2, none, .mv true (.t 15)⟩,
        ⟨some 3, none, .mv true (.t 16)⟩])
      (.seq
       (.region [
         ⟨some 18, none, .build [.int .i64 0, .int .i64 0, .int .i64 0, .int .i64 0] []⟩,
         ⟨some 19, none, .callF 15 [.c (.lst 0 [] true), .t 18] []⟩,
         ⟨some 17, none, .mv true (.t 19)⟩,
         ⟨some 20, none, .ext true (.t 17) 0⟩,
         ⟨some 21, none, .ext false (.t 17) 1⟩,
         ⟨some 4, none, .mv true (.t 20)⟩,
         ⟨some 5, none, .mv true (.t 21)⟩])
       (.seq
        (.region [
          ⟨some 23, none, .mv false (.t 2)⟩,
          ⟨some 24, none, .callF 10 [.t 23] []⟩,
          ⟨some 22, none, .mv true (.t 24)⟩,
          ⟨some 25, none, .ext true (.t 22) 0⟩,
          ⟨some 26, none, .ext false (.t 22) 1⟩,
          ⟨some 6, none, .mv true (.t 25)⟩,
          ⟨some 7, none, .mv true (.t 26)⟩])
        (.seq
         (.region [
           ⟨some 27, none, .fad 3 (.t 1)⟩,
           ⟨some 28, none, .ld 1 false false (.t 27)⟩,
           ⟨some 29, none, .len false (.t 28)⟩,
           ⟨some 30, none, .bin .eql (.t 29) (.c (.int .i64 2))⟩,
           ⟨some 31, none, .mv false (.t 30)⟩,
           ⟨some 32, some (31, true), .fad 3 (.t 1)⟩,
           ⟨some 33, some (31, true), .ld 1 false false (.t 32)⟩,
           ⟨some 34, some (31, true), .iad 1 (.t 33) (.c (.int .i64 0))⟩,
           ⟨some 35, some (31, true), .ld 1 false false (.t 34)⟩,
           ⟨some 36, some (31, true), .bin .eql (.t 35) (.c (.int .i64 (-1)))⟩,
           ⟨some 37, none, .pick (.t 31) (.t 36) (.c (.bool false))⟩,
           ⟨some 38, none, .mv false (.t 37)⟩,
           ⟨some 39, some (38, true), .fad 3 (.t 1)⟩,
           ⟨some 40, some (38, true), .ld 1 false false (.t 39)⟩,
           ⟨some 41, some (38, true), .iad 1 (.t 40) (.c (.int .i64 1))⟩,
           ⟨some 42, some (38, true), .ld 1 false false (.t 41)⟩,
           ⟨some 43, some (38, true), .bin .eql (.t 42) (.c (.int .i64 0))⟩,
           ⟨some 44, none, .pick (.t 38) (.t 43) (.c (.bool false))⟩,
           ⟨some 45, none, .mv false (.t 44)⟩,
           ⟨some 46, some (45, true), .fad 4 (.t 1)⟩,
           ⟨some 47, some (45, true), .ld 1 false false (.t 46)⟩,
           ⟨some 48, some (45, true), .iad 1 (.t 47) (.c (.int .i64 1))⟩,
           ⟨some 49, some (45, true), .ld 1 false false (.t 48)⟩,
           ⟨some 50, some (45, true), .bin .eql (.t 49) (.c (.int .i64 3))⟩,
           ⟨some 51, none, .pick (.t 45) (.t 50) (.c (.bool false))⟩,
           ⟨some 52, none, .mv false (.t 51)⟩,
           ⟨some 53, some (52, true), .mv false (.t 3)⟩,
           ⟨some 54, some (52, true), .bin .eql (.t 53) (.c (.int .i64 0))⟩,
           ⟨some 55, none, .pick (.t 52) (.t 54) (.c (.bool false))⟩,
           ⟨some 56, none, .mv false (.t 55)⟩,
           ⟨some 57, some (56, true), .mv false (.t 5)⟩,
           ⟨some 58, some (56, true), .bin .eql (.t 57) (.c (.int .i64 1))⟩,
           ⟨some 59, none, .pick (.t 56) (.t 58) (.c (.bool false))⟩,
           ⟨some 60, none, .mv false (.t 59)⟩,
           ⟨some 61, some (60, true), .mv false (.t 6)⟩,
           ⟨some 62, some (60, true), .len false (.t 61)⟩,
           ⟨some 63, some (60, true), .bin .eql (.t 62) (.c (.int .i64 1))⟩,
           ⟨some 64, none, .pick (.t 60) (.t 63) (.c (.bool false))⟩,
           ⟨some 65, none, .mv false (.t 64)⟩,
           ⟨some 66, some (65, true), .mv false (.t 7)⟩,
           ⟨some 67, some (65, true), .mv false (.t 2)⟩,
           ⟨some 68, some (65, true), .len false (.t 67)⟩,
           ⟨some 69, some (65, true), .bin .eql (.t 66) (.t 68)⟩,
           ⟨some 70, none, .pick (.t 65) (.t 69) (.c (.bool false))⟩,
           ⟨some 0, none, .mv true (.t 70)⟩])
         .ret)))))⟩
theorem t8 : compF Try.prog {} 8 = some p8 := by kernel_rfl
def p9 : PFn :=
  ⟨28, [.t 2, .t 3], .seq
    (.region [
      ⟨some 2, none, .mv true (.c (.lst 0 [] true))⟩,
      ⟨some 3, none, .mv true (.c (.bool false))⟩])
    (.seq
     (.region [
       ⟨some 8, none, .bsl 1 0 false [] [] false⟩,
       ⟨some 4, none, .mv true (.t 8)⟩])
     (.seq
      (.seq
       (.region [
         ⟨some 5, none, .mv true (.c (.int .i64 0))⟩])
       (.block 0
        (.loop
         (.seq
          (.seq
           (.region [
             ⟨some 9, none, .mv false (.t 5)⟩,
             ⟨some 10, none, .mv false (.t 0)⟩,
             ⟨some 11, none, .len false (.t 10)⟩,
             ⟨some 12, none, .bin .lss (.t 9) (.t 11)⟩])
           (.cond (.t 12)
            .skip
            (.exit 0)))
          (.seq
           (.block 1
            (.seq
             (.region [
               ⟨some 16, none, .mv false (.t 4)⟩,
               ⟨some 17, none, .mv false (.t 0)⟩,
               ⟨some 18, none, .mv false (.t 5)⟩,
               ⟨some 19, none, .iad 4 (.t 17) (.t 18)⟩,
               ⟨some 20, none, .ld 4 true false (.t 19)⟩,
               ⟨some 21, none, .callF 15 [.t 16, .t 20] []⟩,
               ⟨some 15, none, .mv true (.t 21)⟩,
               ⟨some 22, none, .ext true (.t 15) 0⟩,
               ⟨some 23, none, .ext false (.t 15) 1⟩,
               ⟨some 6, none, .mv true (.t 22)⟩,
               ⟨some 7, none, .mv true (.t 23)⟩])
             (.seq
              (.seq
               (.region [
                 ⟨some 24, none, .mv false (.t 7)⟩,
                 ⟨some 25, none, .bin .neq (.t 24) (.c (.int .i64 0))⟩])
               (.cond (.t 25)
                (.seq
                 (.region [
                   ⟨some 2, none, .mv true (.c (.lst 0 [] true))⟩,
                   ⟨some 3, none, .mv true (.c (.bool false))⟩])
                 .ret)
                .skip))
              (.region [
                ⟨some 26, none, .mv true (.t 6)⟩,
                ⟨some 4, none, .mv true (.t 26)⟩]))))
           (.region [
             ⟨some 13, none, .mv false (.t 5)⟩,
             ⟨some 14, none, .bin .add (.t 13) (.c (.int .i64 1))⟩,
             ⟨some 5, none, .mv true (.t 14)⟩]))))))
      (.seq
       (.region [
         ⟨some 27, none, .mv true (.t 4)⟩,
         ⟨some 2, none, .mv true (.t 27)⟩,
         ⟨some 3, none, .mv true (.c (.bool true))⟩])
       .ret)))⟩
theorem t9 : compF Try.prog {} 9 = some p9 := by kernel_rfl
def p10 : PFn :=
  ⟨46, [.t 2, .t 3], .seq
    (.region [
      ⟨some 2, none, .mv true (.c (.lst 0 [] true))⟩,
      ⟨some 3, none, .mv true (.c (.int .i64 0))⟩])
    (.seq
     (.region [
       ⟨some 4, none, .mv true (.c (.lst 0 [] true))⟩])
     (.seq
      (.region [
        ⟨some 12, none, .callF 27 [] []⟩,
        ⟨some 13, none, .mv true (.t 0)⟩,
        ⟨some 5, none, .mv true (.t 12)⟩,
        ⟨some 6, none, .mv true (.t 13)⟩])
      (.seq
       (.block 0
        (.loop
         (.seq
          (.seq
           (.region [
             ⟨some 14, none, .mv false (.t 6)⟩,
             ⟨some 15, none, .len false (.t 14)⟩,
             ⟨some 16, none, .bin .gtr (.t 15) (.c (.int .i64 0))⟩])
           (.cond (.t 16)
            .skip
            (.exit 0)))
          (.block 1
           (.seq
            (.region [
              ⟨some 18, none, .mv false (.t 6)⟩,
              ⟨some 19, none, .callF 28 [.t 18, .c (.int .i64 100)] []⟩,
              ⟨some 17, none, .mv true (.t 19)⟩,
              ⟨some 20, none, .ext false (.t 17) 0⟩,
              ⟨some 21, none, .ext true (.t 17) 1⟩,
              ⟨some 22, none, .ext false (.t 17) 2⟩,
              ⟨some 7, none, .mv true (.t 20)⟩,
              ⟨some 8, none, .mv true (.t 21)⟩,
              ⟨some 9, none, .mv true (.t 22)⟩])
            (.seq
             (.region [
               ⟨some 24, none, .mv false (.t 7)⟩,
               ⟨some 25, none, .mv false (.t 5)⟩,
               ⟨some 26, none, .callF 29 [.t 24, .t 25] []⟩,
               ⟨some 23, none, .mv true (.t 26)⟩,
               ⟨some 27, none, .ext true (.t 23) 0⟩,
               ⟨some 28, none, .ext false (.t 23) 1⟩,
               ⟨some 10, none, .al [.int .i64 0, .int .i64 0, .int .i64 0, .int .i64 0]⟩,
               ⟨none, none, .sto 4 (.t 10) (.t 27)⟩,
               ⟨some 11, none, .mv true (.t 28)⟩])
             (.seq
              (.seq
               (.region [
                 ⟨some 29, none, .mv false (.t 9)⟩,
                 ⟨some 30, none, .bin .neq (.t 29) (.c (.int .i64 0))⟩,
                 ⟨some 31, none, .mv false (.t 30)⟩,
                 ⟨some 32, some (31, false), .mv false (.t 11)⟩,
                 ⟨some 33, some (31, false), .un .not (.t 32)⟩,
                 ⟨some 34, none, .pick (.t 31) (.c (.bool true)) (.t 33)⟩])
               (.cond (.t 34)
                (.exit 0)
                .skip))
              (.region [
                ⟨some 35, none, .mv true (.t 4)⟩,
                ⟨some 36, none, .ld 4 true false (.t 10)⟩,
                ⟨some 37, none, .bsl 4 1 true [.int .i64 0, .int .i64 0, .int .i64 0, .int .i64 0] [(0, .t 36)] false⟩,
                ⟨some 38, none, .app 4 32 (.t 35) (.t 37)⟩,
                ⟨some 39, none, .mv true (.t 8)⟩,
                ⟨some 4, none, .mv true (.t 38)⟩,
                ⟨some 6, none, .mv true (.t 39)⟩]))))))))
       (.seq
        (.region [
          ⟨some 40, none, .mv true (.t 4)⟩,
          ⟨some 41, none, .mv false (.t 0)⟩,
          ⟨some 42, none, .len false (.t 41)⟩,
          ⟨some 43, none, .mv false (.t 6)⟩,
          ⟨some 44, none, .len false (.t 43)⟩,
          ⟨some 45, none, .bin .sub (.t 42) (.t 44)⟩,
          ⟨some 2, none, .mv true (.t 40)⟩,
          ⟨some 3, none, .mv true (.t 45)⟩])
        .ret))))⟩
theorem t10 : compF Try.prog {} 10 = some p10 := by kernel_rfl
def p11 : PFn :=
  ⟨27, [.t 4], .seq
    (.region [
      ⟨some 4, none, .mv true (.c (.bool false))⟩])
    (.seq
     (.seq
      (.region [
        ⟨some 6, none, .mv false (.t 0)⟩,
        ⟨some 7, none, .len false (.t 6)⟩,
        ⟨some 8, none, .mv false (.t 1)⟩,
        ⟨some 9, none, .len false (.t 8)⟩,
        ⟨some 10, none, .bin .neq (.t 7) (.t 9)⟩])
      (.cond (.t 10)
       (.seq
        (.region [
          ⟨some 4, none, .mv true (.c (.bool false))⟩])
        .ret)
       .skip))
     (.seq
      (.seq
       (.region [
         ⟨some 5, none, .mv true (.c (.int .i64 0))⟩])
       (.block 0
        (.loop
         (.seq
          (.seq
           (.region [
             ⟨some 11, none, .mv false (.t 5)⟩,
             ⟨some 12, none, .mv false (.t 0)⟩,
             ⟨some 13, none, .len false (.t 12)⟩,
             ⟨some 14, none, .bin .lss (.t 11) (.t 13)⟩])
           (.cond (.t 14)
            .skip
            (.exit 0)))
          (.seq
           (.block 1
            (.seq
             (.draw [
               ⟨some 17, none, .mv false (.t 0)⟩,
               ⟨some 18, none, .mv false (.t 5)⟩,
               ⟨some 19, none, .iad 4 (.t 17) (.t 18)⟩,
               ⟨some 20, none, .ld 4 true false (.t 19)⟩,
               ⟨some 21, none, .callF 17 [.t 20] []⟩,
               ⟨some 22, none, .mv false (.t 1)⟩,
               ⟨some 23, none, .mv false (.t 5)⟩,
               ⟨some 24, none, .iad 4 (.t 22) (.t 23)⟩,
               ⟨some 25, none, .ld 4 true false (.t 24)⟩,
               ⟨some 26, none, .eqS true [0, 0, 0, 0] (.t 21) (.t 25)⟩] [])
             (.cond (.t 26)
              (.seq
               (.region [
                 ⟨some 4, none, .mv true (.c (.bool false))⟩])
               .ret)
              .skip)))
           (.region [
             ⟨some 15, none, .mv false (.t 5)⟩,
             ⟨some 16, none, .bin .add (.t 15) (.c (.int .i64 1))⟩,
             ⟨some 5, none, .mv true (.t 16)⟩]))))))
      (.seq
       (.region [
         ⟨some 4, none, .mv true (.c (.bool true))⟩])
       .ret)))⟩
theorem t11 : compF Try.prog {} 11 = some p11 := by kernel_rfl
def p12 : PFn :=
  ⟨21, [.t 2], .seq
    (.region [
      ⟨some 2, none, .mv true (.c (.lst 0 [] true))⟩])
    (.seq
     (.region [
       ⟨some 5, none, .bsl 4 0 true [] [] false⟩,
       ⟨some 3, none, .mv true (.t 5)⟩])
     (.seq
      (.seq
       (.region [
         ⟨some 4, none, .mv true (.c (.int .i64 0))⟩])
       (.block 0
        (.loop
         (.seq
          (.seq
           (.region [
             ⟨some 6, none, .mv false (.t 4)⟩,
             ⟨some 7, none, .mv false (.t 0)⟩,
             ⟨some 8, none, .len false (.t 7)⟩,
             ⟨some 9, none, .bin .lss (.t 6) (.t 8)⟩])
           (.cond (.t 9)
            .skip
            (.exit 0)))
          (.seq
           (.block 1
            (.region [
              ⟨some 12, none, .mv true (.t 3)⟩,
              ⟨some 13, none, .mv false (.t 0)⟩,
              ⟨some 14, none, .mv false (.t 4)⟩,
              ⟨some 15, none, .iad 4 (.t 13) (.t 14)⟩,
              ⟨some 16, none, .ld 4 true false (.t 15)⟩,
              ⟨some 17, none, .callF 17 [.t 16] []⟩,
              ⟨some 18, none, .bsl 4 1 true [.int .i64 0, .int .i64 0, .int .i64 0, .int .i64 0] [(0, .t 17)] false⟩,
              ⟨some 19, none, .app 4 32 (.t 12) (.t 18)⟩,
              ⟨some 3, none, .mv true (.t 19)⟩]))
           (.region [
             ⟨some 10, none, .mv false (.t 4)⟩,
             ⟨some 11, none, .bin .add (.t 10) (.c (.int .i64 1))⟩,
             ⟨some 4, none, .mv true (.t 11)⟩]))))))
      (.seq
       (.region [
         ⟨some 20, none, .mv true (.t 3)⟩,
         ⟨some 2, none, .mv true (.t 20)⟩])
       .ret)))⟩
theorem t12 : compF Try.prog {} 12 = some p12 := by kernel_rfl
def p13 : PFn :=
  ⟨42, [.c 2 8 true], .seq
    (.region [
      ⟨some 2, none, .al [.bool false, .int .i64 0, .int .i64 0, .lst 0 [] true, .lst 0 [] true, .lst 0 [] true, .int .i64 0, .int .i64 0]⟩])
    (.seq
     (.region [
       ⟨some 6, none, .build [.bool false, .int .i64 0, .int .i64 0, .lst 0 [] true, .lst 0 [] true, .lst 0 [] true, .int .i64 0, .int .i64 0] []⟩,
       ⟨some 7, none, .bx 8 (.t 6)⟩,
       ⟨some 3, none, .mv true (.t 7)⟩])
     (.seq
      (.seq
       (.region [
         ⟨some 8, none, .mv false (.t 0)⟩,
         ⟨some 9, none, .len false (.t 8)⟩,
         ⟨some 10, none, .mv false (.c (.int .i64 0))⟩])
       (.block 0
        (.loop
         (.seq
          (.region [
            ⟨some 11, none, .bin .lss (.t 10) (.t 9)⟩])
          (.seq
           (.cond (.t 11)
            .skip
            (.exit 0))
           (.seq
            (.block 1
             (.seq
              (.region [
                ⟨some 12, none, .iad 4 (.t 8) (.t 10)⟩,
                ⟨some 13, none, .ld 4 true false (.t 12)⟩,
                ⟨some 5, none, .al [.int .i64 0, .int .i64 0, .int .i64 0, .int .i64 0]⟩,
                ⟨none, none, .sto 4 (.t 5) (.t 13)⟩])
              (.seq
               (.region [
                 ⟨some 14, none, .fad 0 (.t 5)⟩,
                 ⟨some 15, none, .ld 1 false false (.t 14)⟩])
               (.block 2
                (.seq
                 (.region [
                   ⟨some 17, none, .bin .eql (.t 15) (.c (.int .i64 1))⟩,
                   ⟨some 16, none, .mv true (.t 17)⟩])
                 (.cond (.t 16)
                  (.region [
                    ⟨some 18, none, .mv false (.t 3)⟩,
                    ⟨some 19, none, .ld 4 true false (.t 5)⟩,
                    ⟨some 20, none, .callF 30 [.t 18, .t 19] []⟩])
                  (.seq
                   (.seq
                    (.region [
                      ⟨some 22, none, .bin .eql (.t 15) (.c (.int .i64 2))⟩,
                      ⟨some 21, none, .mv true (.t 22)⟩])
                    (.cond (.t 21)
                     .skip
                     (.region [
                       ⟨some 23, none, .bin .eql (.t 15) (.c (.int .i64 3))⟩,
                       ⟨some 21, none, .mv true (.t 23)⟩])))
                   (.cond (.t 21)
                    (.region [
                      ⟨some 24, none, .mv false (.t 3)⟩,
                      ⟨some 25, none, .ld 4 true false (.t 5)⟩,
                      ⟨some 26, none, .callF 31 [.t 24, .t 25] []⟩])
                    (.seq
                     (.region [
                       ⟨some 28, none, .bin .eql (.t 15) (.c (.int .i64 4))⟩,
                       ⟨some 27, none, .mv true (.t 28)⟩])
                     (.cond (.t 27)
                      (.region [
                        ⟨some 29, none, .mv false (.t 3)⟩,
                        ⟨some 30, none, .ld 4 true false (.t 5)⟩,
                        ⟨some 31, none, .callF 32 [.t 29, .t 30] []⟩])
                      (.seq
                       (.seq
                        (.region [
                          ⟨some 33, none, .bin .eql (.t 15) (.c (.int .i64 5))⟩,
                          ⟨some 32, none, .mv true (.t 33)⟩])
                        (.cond (.t 32)
                         .skip
                         (.region [
                           ⟨some 34, none, .bin .eql (.t 15) (.c (.int .i64 6))⟩,
                           ⟨some 32, none, .mv true (.t 34)⟩])))
                       (.cond (.t 32)
                        (.region [
                          ⟨some 35, none, .mv false (.t 3)⟩,
                          ⟨some 36, none, .ld 4 true false (.t 5)⟩,
                          ⟨some 37, none, .callF 33 [.t 35, .t 36] []⟩])
                        .skip))))))))))))
            (.region [
              ⟨some 38, none, .bin .add (.t 10) (.c (.int .i64 1))⟩,
              ⟨some 10, none, .mv false (.t 38)⟩])))))))
      (.seq
       (.region [
         ⟨some 39, none, .mv false (.t 3)⟩,
         ⟨some 40, none, .nck (.t 39)⟩,
         ⟨some 41, none, .ld 8 true false (.t 40)⟩,
         ⟨none, none, .sto 8 (.t 2) (.t 41)⟩])
       .ret)))⟩
theorem t13 : compF Try.prog {} 13 = some p13 := by kernel_rfl
def p14 : PFn :=
  ⟨38, [.t 6], .seq
    (.region [
      ⟨some 6, none, .mv true (.c (.bool false))⟩])
    (.seq
     (.seq
      (.region [
        ⟨some 7, none, .mv true (.c (.int .i64 0))⟩])
      (.block 0
       (.loop
        (.seq
         (.seq
          (.region [
            ⟨some 8, none, .mv false (.t 7)⟩,
            ⟨some 9, none, .mv false (.t 0)⟩,
            ⟨some 10, none, .len false (.t 9)⟩,
            ⟨some 11, none, .bin .lss (.t 8) (.t 10)⟩])
          (.cond (.t 11)
           .skip
           (.exit 0)))
         (.seq
          (.block 1
           (.seq
            (.region [
              ⟨some 14, none, .mv false (.t 0)⟩,
              ⟨some 15, none, .mv false (.t 7)⟩,
              ⟨some 16, none, .iad 4 (.t 14) (.t 15)⟩,
              ⟨some 17, none, .fad 0 (.t 16)⟩,
              ⟨some 18, none, .ld 1 false false (.t 17)⟩,
              ⟨some 19, none, .bin .eql (.t 18) (.c (.int .i64 2))⟩,
              ⟨some 20, none, .mv false (.t 19)⟩,
              ⟨some 21, some (20, true), .mv false (.t 0)⟩,
              ⟨some 22, some (20, true), .mv false (.t 7)⟩,
              ⟨some 23, some (20, true), .iad 4 (.t 21) (.t 22)⟩,
              ⟨some 24, some (20, true), .fad 1 (.t 23)⟩,
              ⟨some 25, some (20, true), .ld 1 false false (.t 24)⟩,
              ⟨some 26, some (20, true), .mv false (.t 1)⟩,
              ⟨some 27, some (20, true), .bin .eql (.t 25) (.t 26)⟩,
              ⟨some 28, none, .pick (.t 20) (.t 27) (.c (.bool false))⟩,
              ⟨some 29, none, .mv false (.t 28)⟩,
              ⟨some 30, some (29, true), .mv false (.t 0)⟩,
              ⟨some 31, some (29, true), .mv false (.t 7)⟩,
              ⟨some 32, some (29, true), .iad 4 (.t 30) (.t 31)⟩,
              ⟨some 33, some (29, true), .fad 2 (.t 32)⟩,
              ⟨some 34, some (29, true), .ld 1 false false (.t 33)⟩,
              ⟨some 35, some (29, true), .mv false (.t 2)⟩,
              ⟨some 36, some (29, true), .bin .eql (.t 34) (.t 35)⟩,
              ⟨some 37, none, .pick (.t 29) (.t 36) (.c (.bool false))⟩])
            (.cond (.t 37)
             (.seq
              (.region [
                ⟨some 6, none, .mv true (.c (.bool true))⟩])
              .ret)
             .skip)))
          (.region [
            ⟨some 12, none, .mv false (.t 7)⟩,
            ⟨some 13, none, .bin .add (.t 12) (.c (.int .i64 1))⟩,
            ⟨some 7, none, .mv true (.t 13)⟩]))))))
     (.seq
      (.region [
        ⟨some 6, none, .mv true (.c (.bool false))⟩])
      .ret))⟩
theorem t14 : compF Try.prog {} 14 = some p14 := by kernel_rfl
def p15 : PFn :=
  ⟨38, [.t 4, .t 5], .seq
    (.region [
      ⟨some 3, none, .bxI 4 (.t 1)⟩,
      ⟨some 4, none, .mv true (.c (.lst 0 [] true))⟩,
      ⟨some 5, none, .mv true (.c (.int .i64 0))⟩])
    (.seq
     (.seq
      (.region [
        ⟨some 9, none, .ld 4 true false (.t 3)⟩,
        ⟨some 10, none, .callF 23 [.t 9] []⟩,
        ⟨some 11, none, .un .not (.t 10)⟩])
      (.cond (.t 11)
       (.seq
        (.region [
          ⟨some 4, none, .mv true (.c (.lst 0 [] true))⟩,
          ⟨some 5, none, .mv true (.c (.int .i64 1))⟩])
        .ret)
       .skip))
     (.seq
      (.region [
        ⟨some 12, none, .fad 0 (.t 3)⟩,
        ⟨some 13, none, .ld 1 false false (.t 12)⟩,
        ⟨some 14, none, .cvI .u8 (.t 13)⟩,
        ⟨some 15, none, .bsl 1 1 false [.int .u8 0] [(0, .t 14)] false⟩,
        ⟨some 6, none, .mv true (.t 15)⟩])
      (.seq
       (.seq
        (.region [
          ⟨some 16, none, .ld 4 true false (.t 3)⟩,
          ⟨some 17, none, .callF 34 [.t 16] []⟩,
          ⟨some 18, none, .len false (.t 17)⟩,
          ⟨some 19, none, .mv false (.c (.int .i64 0))⟩])
        (.block 0
         (.loop
          (.seq
           (.region [
             ⟨some 20, none, .bin .lss (.t 19) (.t 18)⟩])
           (.seq
            (.cond (.t 20)
             .skip
             (.exit 0))
            (.seq
             (.block 1
              (.seq
               (.region [
                 ⟨some 21, none, .iad 1 (.t 17) (.t 19)⟩,
                 ⟨some 22, none, .ld 1 false false (.t 21)⟩,
                 ⟨some 8, none, .mv true (.t 22)⟩])
               (.region [
                 ⟨some 23, none, .mv false (.t 6)⟩,
                 ⟨some 24, none, .mv false (.t 8)⟩,
                 ⟨some 25, none, .cvI .u64 (.t 24)⟩,
                 ⟨some 26, none, .callF 35 [.t 23, .t 25] []⟩,
                 ⟨some 6, none, .mv true (.t 26)⟩])))
             (.region [
               ⟨some 27, none, .bin .add (.t 19) (.c (.int .i64 1))⟩,
               ⟨some 19, none, .mv false (.t 27)⟩])))))))
       (.seq
        (.region [
          ⟨some 29, none, .callF 27 [] []⟩,
          ⟨some 30, none, .mv false (.t 6)⟩,
          ⟨some 31, none, .callF 36 [.t 29, .t 30] []⟩,
          ⟨some 28, none, .mv true (.t 31)⟩,
          ⟨some 32, none, .ext true (.t 28) 0⟩,
          ⟨some 33, none, .ext false (.t 28) 1⟩,
          ⟨some 6, none, .mv true (.t 32)⟩])
        (.seq
         (.region [
           ⟨some 34, none, .mv false (.t 0)⟩,
           ⟨some 35, none, .mv false (.t 6)⟩,
           ⟨some 36, none, .cvS (.t 35)⟩,
           ⟨some 37, none, .callF 37 [.t 34, .t 36] []⟩,
           ⟨some 4, none, .mv true (.t 37)⟩,
           ⟨some 5, none, .mv true (.c (.int .i64 0))⟩])
         .ret)))))⟩
theorem t15 : compF Try.prog { ros := [3] } 15 = some p15 := by kernel_rfl
def p16 : PFn :=
  ⟨34, [.t 4, .t 5], .seq
    (.region [
      ⟨some 3, none, .bxI 4 (.t 1)⟩,
      ⟨some 4, none, .mv true (.c (.lst 0 [] true))⟩,
      ⟨some 5, none, .mv true (.c (.int .i64 0))⟩])
    (.seq
     (.seq
      (.region [
        ⟨some 7, none, .ld 4 true false (.t 3)⟩,
        ⟨some 8, none, .callF 24 [.t 7] []⟩,
        ⟨some 9, none, .un .not (.t 8)⟩])
      (.cond (.t 9)
       (.seq
        (.region [
          ⟨some 4, none, .mv true (.c (.lst 0 [] true))⟩,
          ⟨some 5, none, .mv true (.c (.int .i64 1))⟩])
        .ret)
       .skip))
     (.seq
      (.region [
        ⟨some 10, none, .fad 0 (.t 3)⟩,
        ⟨some 11, none, .ld 1 false false (.t 10)⟩,
        ⟨some 12, none, .cvI .u8 (.t 11)⟩,
        ⟨some 13, none, .bsl 1 1 false [.int .u8 0] [(0, .t 12)] false⟩,
        ⟨some 6, none, .mv true (.t 13)⟩])
      (.seq
       (.region [
         ⟨some 14, none, .mv false (.t 6)⟩,
         ⟨some 15, none, .fad 1 (.t 3)⟩,
         ⟨some 16, none, .ld 1 false false (.t 15)⟩,
         ⟨some 17, none, .cvI .u64 (.t 16)⟩,
         ⟨some 18, none, .callF 38 [.t 14, .t 17] []⟩,
         ⟨some 6, none, .mv true (.t 18)⟩])
       (.seq
        (.region [
          ⟨some 19, none, .mv false (.t 6)⟩,
          ⟨some 20, none, .fad 2 (.t 3)⟩,
          ⟨some 21, none, .ld 1 false false (.t 20)⟩,
          ⟨some 22, none, .cvI .u64 (.t 21)⟩,
          ⟨some 23, none, .callF 38 [.t 19, .t 22] []⟩,
          ⟨some 6, none, .mv true (.t 23)⟩])
        (.seq
         (.region [
           ⟨some 24, none, .mv false (.t 6)⟩,
           ⟨some 25, none, .fad 3 (.t 3)⟩,
           ⟨some 26, none, .ld 1 false false (.t 25)⟩,
           ⟨some 27, none, .cvI .u64 (.t 26)⟩,
           ⟨some 28, none, .callF 38 [.t 24, .t 27] []⟩,
           ⟨some 6, none, .mv true (.t 28)⟩])
         (.seq
          (.region [
            ⟨some 29, none, .mv false (.t 0)⟩,
            ⟨some 30, none, .mv false (.t 6)⟩,
            ⟨some 31, none, .callF 40 [.t 30] []⟩,
            ⟨some 32, none, .cvS (.t 31)⟩,
            ⟨some 33, none, .callF 39 [.t 29, .t 32] []⟩,
            ⟨some 4, none, .mv true (.t 33)⟩,
            ⟨some 5, none, .mv true (.c (.int .i64 0))⟩])
          .ret))))))⟩
theorem t16 : compF Try.prog { ros := [3] } 16 = some p16 := by kernel_rfl
def p17 : PFn :=
  ⟨12, [.c 2 4 true], .seq
    (.region [
      ⟨some 1, none, .bxI 4 (.t 0)⟩,
      ⟨some 2, none, .al [.int .i64 0, .int .i64 0, .int .i64 0, .int .i64 0]⟩])
    (.seq
     (.region [
       ⟨some 3, none, .fad 0 (.t 1)⟩,
       ⟨some 4, none, .ld 1 false false (.t 3)⟩,
       ⟨some 5, none, .fad 1 (.t 1)⟩,
       ⟨some 6, none, .ld 1 false false (.t 5)⟩,
       ⟨some 7, none, .fad 2 (.t 1)⟩,
       ⟨some 8, none, .ld 1 false false (.t 7)⟩,
       ⟨some 9, none, .fad 3 (.t 1)⟩,
       ⟨some 10, none, .ld 1 false false (.t 9)⟩,
       ⟨some 11, none, .build [.int .i64 0, .int .i64 0, .int .i64 0, .int .i64 0] [(0, (1, .t 4)), (1, (1, .t 6)), (2, (1, .t 8)), (3, (1, .t 10))]⟩,
       ⟨none, none, .sto 4 (.t 2) (.t 11)⟩])
     .ret)⟩
theorem t17 : compF Try.prog { ros := [1] } 17 = some p17 := by kernel_rfl
def p18 : PFn :=
  ⟨42, [.t 2, .t 3], .seq
    (.region [
      ⟨some 2, none, .mv true (.c (.lst 0 [] true))⟩,
      ⟨some 3, none, .mv true (.c (.int .i64 0))⟩])
    (.seq
     (.region [
       ⟨some 11, none, .bsl 4 0 true [] [] false⟩,
       ⟨some 4, none, .mv true (.t 11)⟩])
     (.seq
      (.region [
        ⟨some 12, none, .mv true (.t 0)⟩,
        ⟨some 5, none, .mv true (.t 12)⟩])
      (.seq
       (.block 0
        (.loop
         (.seq
          (.seq
           (.region [
             ⟨some 13, none, .mv false (.t 5)⟩,
             ⟨some 14, none, .len false (.t 13)⟩,
             ⟨some 15, none, .bin .gtr (.t 14) (.c (.int .i64 0))⟩])
           (.cond (.t 15)
            .skip
            (.exit 0)))
          (.block 1
           (.seq
            (.region [
              ⟨some 17, none, .mv false (.t 5)⟩,
              ⟨some 18, none, .callF 41 [.t 17, .c (.int .i64 100)] []⟩,
              ⟨some 16, none, .mv true (.t 18)⟩,
              ⟨some 19, none, .ext false (.t 16) 0⟩,
              ⟨some 20, none, .ext true (.t 16) 1⟩,
              ⟨some 21, none, .ext false (.t 16) 2⟩,
              ⟨some 6, none, .mv true (.t 19)⟩,
              ⟨some 7, none, .mv true (.t 20)⟩,
              ⟨some 8, none, .mv true (.t 21)⟩])
            (.seq
             (.seq
              (.region [
                ⟨some 22, none, .mv false (.t 8)⟩,
                ⟨some 23, none, .bin .neq (.t 22) (.c (.int .i64 0))⟩])
              (.cond (.t 23)
               (.exit 0)
               .skip))
             (.seq
              (.region [
                ⟨some 25, none, .mv false (.t 6)⟩,
                ⟨some 26, none, .callF 42 [.t 25] []⟩,
                ⟨some 24, none, .mv true (.t 26)⟩,
                ⟨some 27, none, .ext true (.t 24) 0⟩,
                ⟨some 28, none, .ext false (.t 24) 1⟩,
                ⟨some 9, none, .al [.int .i64 0, .int .i64 0, .int .i64 0, .int .i64 0]⟩,
                ⟨none, none, .sto 4 (.t 9) (.t 27)⟩,
                ⟨some 10, none, .mv true (.t 28)⟩])
              (.seq
               (.seq
                (.region [
                  ⟨some 29, none, .mv false (.t 10)⟩,
                  ⟨some 30, none, .un .not (.t 29)⟩])
                (.cond (.t 30)
                 (.exit 0)
                 .skip))
               (.seq
                (.region [
                  ⟨some 31, none, .mv true (.t 4)⟩,
                  ⟨some 32, none, .ld 4 true false (.t 9)⟩,
                  ⟨some 33, none, .bsl 4 1 true [.int .i64 0, .int .i64 0, .int .i64 0, .int .i64 0] [(0, .t 32)] false⟩,
                  ⟨some 34, none, .app 4 32 (.t 31) (.t 33)⟩,
                  ⟨some 4, none, .mv true (.t 34)⟩])
                (.region [
                  ⟨some 35, none, .mv true (.t 7)⟩,
                  ⟨some 5, none, .mv true (.t 35)⟩]))))))))))
       (.seq
        (.region [
          ⟨some 36, none, .mv true (.t 4)⟩,
          ⟨some 37, none, .mv false (.t 0)⟩,
          ⟨some 38, none, .len false (.t 37)⟩,
          ⟨some 39, none, .mv false (.t 5)⟩,
          ⟨some 40, none, .len false (.t 39)⟩,
          ⟨some 41, none, .bin .sub (.t 38) (.t 40)⟩,
          ⟨some 2, none, .mv true (.t 36)⟩,
          ⟨some 3, none, .mv true (.t 41)⟩])
        .ret))))⟩
theorem t18 : compF Try.prog {} 18 = some p18 := by kernel_rfl
def p19 : PFn :=
  ⟨14, [.c 2 8 true, .t 3], .seq
    (.region [
      ⟨some 2, none, .al [.bool false, .int .i64 0, .int .i64 0, .lst 0 [] true, .lst 0 [] true, .lst 0 [] true, .int .i64 0, .int .i64 0]⟩,
      ⟨some 3, none, .mv true (.c (.int .i64 0))⟩])
    (.seq
     (.region [
       ⟨some 7, none, .mv false (.t 0)⟩,
       ⟨some 8, none, .callF 10 [.t 7] []⟩,
       ⟨some 6, none, .mv true (.t 8)⟩,
       ⟨some 9, none, .ext true (.t 6) 0⟩,
       ⟨some 10, none, .ext false (.t 6) 1⟩,
       ⟨some 4, none, .mv true (.t 9)⟩,
       ⟨some 5, none, .mv true (.t 10)⟩])
     (.seq
      (.region [
        ⟨some 11, none, .mv false (.t 4)⟩,
        ⟨some 12, none, .callF 13 [.t 11] []⟩,
        ⟨some 13, none, .mv true (.t 5)⟩,
        ⟨none, none, .sto 8 (.t 2) (.t 12)⟩,
        ⟨some 3, none, .mv true (.t 13)⟩])
      .ret))⟩
theorem t19 : compF Try.prog {} 19 = some p19 := by kernel_rfl
def p20 : PFn :=
  ⟨14, [.c 2 8 true, .t 3], .seq
    (.region [
      ⟨some 2, none, .al [.bool false, .int .i64 0, .int .i64 0, .lst 0 [] true, .lst 0 [] true, .lst 0 [] true, .int .i64 0, .int .i64 0]⟩,
      ⟨some 3, none, .mv true (.c (.int .i64 0))⟩])
    (.seq
     (.region [
       ⟨some 7, none, .mv false (.t 0)⟩,
       ⟨some 8, none, .callF 18 [.t 7] []⟩,
       ⟨some 6, none, .mv true (.t 8)⟩,
       ⟨some 9, none, .ext true (.t 6) 0⟩,
       ⟨some 10, none, .ext false (.t 6) 1⟩,
       ⟨some 4, none, .mv true (.t 9)⟩,
       ⟨some 5, none, .mv true (.t 10)⟩])
     (.seq
      (.region [
        ⟨some 11, none, .mv false (.t 4)⟩,
        ⟨some 12, none, .callF 25 [.t 11] []⟩,
        ⟨some 13, none, .mv true (.t 5)⟩,
        ⟨none, none, .sto 8 (.t 2) (.t 12)⟩,
        ⟨some 3, none, .mv true (.t 13)⟩])
      .ret))⟩
theorem t20 : compF Try.prog {} 20 = some p20 := by kernel_rfl
def p21 : PFn :=
  ⟨61, [.t 4], .seq
    (.region [
      ⟨some 2, none, .bxI 8 (.t 0)⟩,
      ⟨some 3, none, .bxI 8 (.t 1)⟩,
      ⟨some 4, none, .mv true (.c (.bool false))⟩])
    (.seq
     (.region [
       ⟨some 6, none, .fad 0 (.t 2)⟩,
       ⟨some 7, none, .ld 1 false false (.t 6)⟩,
       ⟨some 8, none, .fad 0 (.t 3)⟩,
       ⟨some 9, none, .ld 1 false false (.t 8)⟩,
       ⟨some 10, none, .binB false (.t 7) (.t 9)⟩,
       ⟨some 11, none, .mv false (.t 10)⟩,
       ⟨some 12, some (11, true), .fad 1 (.t 2)⟩,
       ⟨some 13, some (11, true), .ld 1 false false (.t 12)⟩,
       ⟨some 14, some (11, true), .fad 1 (.t 3)⟩,
       ⟨some 15, some (11, true), .ld 1 false false (.t 14)⟩,
       ⟨some 16, some (11, true), .bin .eql (.t 13) (.t 15)⟩,
       ⟨some 17, none, .pick (.t 11) (.t 16) (.c (.bool false))⟩,
       ⟨some 18, none, .mv false (.t 17)⟩,
       ⟨some 19, some (18, true), .fad 2 (.t 2)⟩,
       ⟨some 20, some (18, true), .ld 1 false false (.t 19)⟩,
       ⟨some 21, some (18, true), .fad 2 (.t 3)⟩,
       ⟨some 22, some (18, true), .ld 1 false false (.t 21)⟩,
       ⟨some 23, some (18, true), .bin .eql (.t 20) (.t 22)⟩,
       ⟨some 24, none, .pick (.t 18) (.t 23) (.c (.bool false))⟩,
       ⟨some 25, none, .mv false (.t 24)⟩,
       ⟨some 26, some (25, true), .fad 6 (.t 2)⟩,
       ⟨some 27, some (25, true), .ld 1 false false (.t 26)⟩,
       ⟨some 28, some (25, true), .fad 6 (.t 3)⟩,
       ⟨some 29, some (25, true), .ld 1 false false (.t 28)⟩,
       ⟨some 30, some (25, true), .bin .eql (.t 27) (.t 29)⟩,
       ⟨some 31, none, .pick (.t 25) (.t 30) (.c (.bool false))⟩,
       ⟨some 32, none, .mv false (.t 31)⟩,
       ⟨some 33, some (32, true), .fad 7 (.t 2)⟩,
       ⟨some 34, some (32, true), .ld 1 false false (.t 33)⟩,
       ⟨some 35, some (32, true), .fad 7 (.t 3)⟩,
       ⟨some 36, some (32, true), .ld 1 false false (.t 35)⟩,
       ⟨some 37, some (32, true), .bin .eql (.t 34) (.t 36)⟩,
       ⟨some 38, none, .pick (.t 32) (.t 37) (.c (.bool false))⟩,
       ⟨some 5, none, .mv true (.t 38)⟩])
     (.seq
      (.region [
        ⟨some 39, none, .mv false (.t 5)⟩,
        ⟨some 40, none, .mv false (.t 39)⟩,
        ⟨some 41, some (40, true), .fad 3 (.t 2)⟩,
        ⟨some 42, some (40, true), .ld 1 false false (.t 41)⟩,
        ⟨some 43, some (40, true), .fad 3 (.t 3)⟩,
        ⟨some 44, some (40, true), .ld 1 false false (.t 43)⟩,
        ⟨some 45, some (40, true), .callF 43 [.t 42, .t 44] []⟩,
        ⟨some 46, none, .pick (.t 40) (.t 45) (.c (.bool false))⟩,
        ⟨some 47, none, .mv false (.t 46)⟩,
        ⟨some 48, some (47, true), .fad 4 (.t 2)⟩,
        ⟨some 49, some (47, true), .ld 1 false false (.t 48)⟩,
        ⟨some 50, some (47, true), .fad 4 (.t 3)⟩,
        ⟨some 51, some (47, true), .ld 1 false false (.t 50)⟩,
        ⟨some 52, some (47, true), .callF 43 [.t 49, .t 51] []⟩,
        ⟨some 53, none, .pick (.t 47) (.t 52) (.c (.bool false))⟩,
        ⟨some 54, none, .mv false (.t 53)⟩,
        ⟨some 55, some (54, true), .fad 5 (.t 2)⟩,
        ⟨some 56, some (54, true), .ld 1 false false (.t 55)⟩,
        ⟨some 57, some (54, true), .fad 5 (.t 3)⟩,
        ⟨some 58, some (54, true), .ld 1 false false (.t 57)⟩,
        ⟨some 59, some (54, true), .callF 43 [.t 56, .t 58] []⟩,
        ⟨some 60, none, .pick (.t 54) (.t 59) (.c (.bool false))⟩,
        ⟨some 4, none, .mv true (.t 60)⟩])
      .ret))⟩
theorem t21 : compF Try.prog { ros := [2, 3] } 21 = some p21 := by kernel_rfl
def p22 : PFn :=
  ⟨20, [.c 2 8 true], .seq
    (.region [
      ⟨some 1, none, .bxI 8 (.t 0)⟩,
      ⟨some 2, none, .al [.bool false, .int .i64 0, .int .i64 0, .lst 0 [] true, .lst 0 [] true, .lst 0 [] true, .int .i64 0, .int .i64 0]⟩])
    (.seq
     (.region [
       ⟨some 3, none, .fad 0 (.t 1)⟩,
       ⟨some 4, none, .ld 1 false false (.t 3)⟩,
       ⟨some 5, none, .fad 1 (.t 1)⟩,
       ⟨some 6, none, .ld 1 false false (.t 5)⟩,
       ⟨some 7, none, .fad 2 (.t 1)⟩,
       ⟨some 8, none, .ld 1 false false (.t 7)⟩,
       ⟨some 9, none, .fad 3 (.t 1)⟩,
       ⟨some 10, none, .ld 1 false false (.t 9)⟩,
       ⟨some 11, none, .fad 4 (.t 1)⟩,
       ⟨some 12, none, .ld 1 false false (.t 11)⟩,
       ⟨some 13, none, .fad 5 (.t 1)⟩,
       ⟨some 14, none, .ld 1 false false (.t 13)⟩,
       ⟨some 15, none, .fad 6 (.t 1)⟩,
       ⟨some 16, none, .ld 1 false false (.t 15)⟩,
       ⟨some 17, none, .fad 7 (.t 1)⟩,
       ⟨some 18, none, .ld 1 false false (.t 17)⟩,
       ⟨some 19, none, .build [.bool false, .int .i64 0, .int .i64 0, .lst 0 [] true, .lst 0 [] true, .lst 0 [] true, .int .i64 0, .int .i64 0] [(0, (1, .t 4)), (1, (1, .t 6)), (2, (1, .t 8)), (3, (1, .t 10)), (4, (1, .t 12)), (5, (1, .t 14)), (6, (1, .t 16)), (7, (1, .t 18))]⟩,
       ⟨none, none, .sto 8 (.t 2) (.t 19)⟩])
     .ret)⟩
theorem t22 : compF Try.prog { ros := [1] } 22 = some p22 := by kernel_rfl
def p23 : PFn :=
  ⟨19, [.t 2], .seq
    (.region [
      ⟨some 1, none, .bxI 4 (.t 0)⟩,
      ⟨some 2, none, .mv true (.c (.bool false))⟩])
    (.seq
     (.region [
       ⟨some 3, none, .mv true (.c (.fn (.func 44) [] []))⟩])
     (.seq
      (.region [
        ⟨some 4, none, .fad 0 (.t 1)⟩,
        ⟨some 5, none, .ld 1 false false (.t 4)⟩,
        ⟨some 6, none, .bin .geq (.t 5) (.c (.int .i64 1))⟩,
        ⟨some 7, none, .mv false (.t 6)⟩,
        ⟨some 8, some (7, true), .fad 0 (.t 1)⟩,
        ⟨some 9, some (7, true), .ld 1 false false (.t 8)⟩,
        ⟨some 10, some (7, true), .bin .leq (.t 9) (.c (.int .i64 6))⟩,
        ⟨some 11, none, .pick (.t 7) (.t 10) (.c (.bool false))⟩,
        ⟨some 12, none, .mv false (.t 11)⟩,
        ⟨some 13, some (12, true), .ld 4 true false (.t 1)⟩,
        ⟨some 14, some (12, true), .callF 34 [.t 13] []⟩,
        ⟨some 15, some (12, true), .mv false (.t 3)⟩,
        ⟨some 16, some (12, true), .callF 45 [.t 14, .t 15] []⟩,
        ⟨some 17, some (12, true), .un .not (.t 16)⟩,
        ⟨some 18, none, .pick (.t 12) (.t 17) (.c (.bool false))⟩,
        ⟨some 2, none, .mv true (.t 18)⟩])
      .ret))⟩
theorem t23 : compF Try.prog { ros := [1] } 23 = some p23 := by kernel_rfl
def p24 : PFn :=
  ⟨26, [.t 2], .seq
    (.region [
      ⟨some 1, none, .bxI 4 (.t 0)⟩,
      ⟨some 2, none, .mv true (.c (.bool false))⟩])
    (.seq
     (.region [
       ⟨some 3, none, .fad 0 (.t 1)⟩,
       ⟨some 4, none, .ld 1 false false (.t 3)⟩,
       ⟨some 5, none, .bin .geq (.t 4) (.c (.int .i64 1))⟩,
       ⟨some 6, none, .mv false (.t 5)⟩,
       ⟨some 7, some (6, true), .fad 0 (.t 1)⟩,
       ⟨some 8, some (6, true), .ld 1 false false (.t 7)⟩,
       ⟨some 9, some (6, true), .bin .leq (.t 8) (.c (.int .i64 6))⟩,
       ⟨some 10, none, .pick (.t 6) (.t 9) (.c (.bool false))⟩,
       ⟨some 11, none, .mv false (.t 10)⟩,
       ⟨some 12, some (11, true), .fad 1 (.t 1)⟩,
       ⟨some 13, some (11, true), .ld 1 false false (.t 12)⟩,
       ⟨some 14, some (11, true), .callF 46 [.t 13] []⟩,
       ⟨some 15, none, .pick (.t 11) (.t 14) (.c (.bool false))⟩,
       ⟨some 16, none, .mv false (.t 15)⟩,
       ⟨some 17, some (16, true), .fad 2 (.t 1)⟩,
       ⟨some 18, some (16, true), .ld 1 false false (.t 17)⟩,
       ⟨some 19, some (16, true), .callF 46 [.t 18] []⟩,
       ⟨some 20, none, .pick (.t 16) (.t 19) (.c (.bool false))⟩,
       ⟨some 21, none, .mv false (.t 20)⟩,
       ⟨some 22, some (21, true), .fad 3 (.t 1)⟩,
       ⟨some 23, some (21, true), .ld 1 false false (.t 22)⟩,
       ⟨some 24, some (21, true), .callF 46 [.t 23] []⟩,
       ⟨some 25, none, .pick (.t 21) (.t 24) (.c (.bool false))⟩,
       ⟨some 2, none, .mv true (.t 25)⟩])
     .ret)⟩
theorem t24 : compF Try.prog { ros := [1] } 24 = some p24 := by kernel_rfl
def p25 : PFn :=
  ⟨158, [.c 2 8 true], .seq
    (.region [
      ⟨some 2, none, .al [.bool false, .int .i64 0, .int .i64 0, .lst 0 [] true, .lst 0 [] true, .lst 0 [] true, .int .i64 0, .int .i64 0]⟩])
    (.seq
     (.region [
       ⟨some 7, none, .mv false (.t 0)⟩,
       ⟨some 8, none, .callF 47 [.t 7] []⟩,
       ⟨some 3, none, .mv true (.t 8)⟩])
     (.seq
      (.seq
       (.region [
         ⟨some 9, none, .mv false (.t 3)⟩,
         ⟨some 10, none, .mv false (.t 0)⟩,
         ⟨some 11, none, .len false (.t 10)⟩,
         ⟨some 12, none, .bin .eql (.t 9) (.t 11)⟩])
       (.cond (.t 12)
        (.seq
         (.region [
           ⟨some 13, none, .build [.bool false, .int .i64 0, .int .i64 0, .lst 0 [] true, .lst 0 [] true, .lst 0 [] true, .int .i64 0, .int .i64 0] []⟩,
           ⟨none, none, .sto 8 (.t 2) (.t 13)⟩])
         .ret)
        .skip))
      (.seq
       (.drawN [
         ⟨some 14, none, .mv false (.t 0)⟩,
         ⟨some 15, none, .mv false (.t 3)⟩,
         ⟨some 16, none, .iad 4 (.t 14) (.t 15)⟩,
         ⟨some 17, none, .fad 1 (.t 16)⟩,
         ⟨some 18, none, .ld 1 false false (.t 17)⟩,
         ⟨some 19, none, .mv false (.t 0)⟩,
         ⟨some 20, none, .mv false (.t 3)⟩,
         ⟨some 21, none, .iad 4 (.t 19) (.t 20)⟩,
         ⟨some 22, none, .fad 2 (.t 21)⟩,
         ⟨some 23, none, .ld 1 false false (.t 22)⟩,
         ⟨some 24, none, .mv false (.t 0)⟩,
         ⟨some 25, none, .mv false (.t 3)⟩,
         ⟨some 26, none, .iad 4 (.t 24) (.t 25)⟩,
         ⟨some 27, none, .fad 1 (.t 26)⟩,
         ⟨some 28, none, .ld 1 false false (.t 27)⟩,
         ⟨some 29, none, .callF 48 [.t 28, .c (.int .i64 (-1))] []⟩,
         ⟨some 30, none, .mv false (.t 0)⟩,
         ⟨some 31, none, .mv false (.t 3)⟩,
         ⟨some 32, none, .iad 4 (.t 30) (.t 31)⟩,
         ⟨some 33, none, .fad 1 (.t 32)⟩,
         ⟨some 34, none, .ld 1 false false (.t 33)⟩,
         ⟨some 35, none, .callF 48 [.t 34, .c (.int .i64 (-1))] []⟩,
         ⟨some 36, none, .mv false (.t 0)⟩,
         ⟨some 37, none, .mv false (.t 3)⟩,
         ⟨some 38, none, .iad 4 (.t 36) (.t 37)⟩,
         ⟨some 39, none, .fad 2 (.t 38)⟩,
         ⟨some 40, none, .ld 1 false false (.t 39)⟩,
         ⟨some 41, none, .callF 48 [.t 40, .c (.int .i64 (-1))] []⟩,
         ⟨some 42, none, .build [.bool false, .int .i64 0, .int .i64 0, .lst 0 [] true, .lst 0 [] true, .lst 0 [] true, .int .i64 0, .int .i64 0] [(0, (1, .c (.bool true))), (1, (1, .t 18)), (2, (1, .t 23)), (3, (1, .t 29)), (4, (1, .t 35)), (5, (1, .t 41))]⟩,
         ⟨some 4, none, .mv false (.c .unit)⟩,
         ⟨some 4, none, .mvc 8 (.t 42)⟩] [] [(29, (30, (4, 8)))])
       (.seq
        (.seq
         (.region [
           ⟨some 43, none, .mv false (.t 3)⟩,
           ⟨some 44, none, .bin .add (.t 43) (.c (.int .i64 1))⟩,
           ⟨some 5, none, .mv true (.t 44)⟩])
         (.block 0
          (.loop
           (.seq
            (.seq
             (.region [
               ⟨some 45, none, .mv false (.t 5)⟩,
               ⟨some 46, none, .mv false (.t 0)⟩,
               ⟨some 47, none, .len false (.t 46)⟩,
               ⟨some 48, none, .bin .lss (.t 45) (.t 47)⟩])
             (.cond (.t 48)
              .skip
              (.exit 0)))
            (.seq
             (.block 1
              (.seq
               (.region [
                 ⟨some 51, none, .mv false (.t 0)⟩,
                 ⟨some 52, none, .mv false (.t 5)⟩,
                 ⟨some 53, none, .iad 4 (.t 51) (.t 52)⟩,
                 ⟨some 54, none, .ld 4 true false (.t 53)⟩,
                 ⟨some 6, none, .al [.int .i64 0, .int .i64 0, .int .i64 0, .int .i64 0]⟩,
                 ⟨none, none, .sto 4 (.t 6) (.t 54)⟩])
               (.block 2
                (.seq
                 (.region [
                   ⟨some 56, none, .fad 0 (.t 6)⟩,
                   ⟨some 57, none, .ld 1 false false (.t 56)⟩,
                   ⟨some 58, none, .bin .eql (.t 57) (.c (.int .i64 2))⟩,
                   ⟨some 59, none, .mv false (.t 58)⟩,
                   ⟨some 60, some (59, true), .fad 1 (.t 6)⟩,
                   ⟨some 61, some (59, true), .ld 1 false false (.t 60)⟩,
                   ⟨some 62, some (59, true), .fad 1 (.t 4)⟩,
                   ⟨some 63, some (59, true), .ld 1 false false (.t 62)⟩,
                   ⟨some 64, some (59, true), .bin .lss (.t 61) (.t 63)⟩,
                   ⟨some 65, none, .pick (.t 59) (.t 64) (.c (.bool false))⟩,
                   ⟨some 55, none, .mv true (.t 65)⟩])
                 (.cond (.t 55)
                  (.seq
                   (.region [
                     ⟨some 66, none, .fad 3 (.t 4)⟩,
                     ⟨some 67, none, .ld 1 false false (.t 66)⟩,
                     ⟨some 68, none, .fad 1 (.t 6)⟩,
                     ⟨some 69, none, .ld 1 false false (.t 68)⟩,
                     ⟨some 70, none, .fad 2 (.t 6)⟩,
                     ⟨some 71, none, .ld 1 false false (.t 70)⟩,
                     ⟨some 72, none, .iad 1 (.t 67) (.t 69)⟩,
                     ⟨none, none, .sto 1 (.t 72) (.t 71)⟩])
                   (.region [
                     ⟨some 73, none, .fad 4 (.t 4)⟩,
                     ⟨some 74, none, .ld 1 false false (.t 73)⟩,
                     ⟨some 75, none, .fad 1 (.t 6)⟩,
                     ⟨some 76, none, .ld 1 false false (.t 75)⟩,
                     ⟨some 77, none, .fad 3 (.t 6)⟩,
                     ⟨some 78, none, .ld 1 false false (.t 77)⟩,
                     ⟨some 79, none, .iad 1 (.t 74) (.t 76)⟩,
                     ⟨none, none, .sto 1 (.t 79) (.t 78)⟩]))
                  (.seq
                   (.draw [
                     ⟨some 81, none, .fad 0 (.t 6)⟩,
                     ⟨some 82, none, .ld 1 false false (.t 81)⟩,
                     ⟨some 83, none, .bin .eql (.t 82) (.c (.int .i64 3))⟩,
                     ⟨some 84, none, .mv false (.t 83)⟩,
                     ⟨some 85, some (84, true), .fad 1 (.t 6)⟩,
                     ⟨some 86, some (84, true), .ld 1 false false (.t 85)⟩,
                     ⟨some 87, some (84, true), .fad 1 (.t 4)⟩,
                     ⟨some 88, some (84, true), .ld 1 false false (.t 87)⟩,
                     ⟨some 89, some (84, true), .bin .lss (.t 86) (.t 88)⟩,
                     ⟨some 90, none, .pick (.t 84) (.t 89) (.c (.bool false))⟩,
                     ⟨some 91, none, .mv false (.t 90)⟩,
                     ⟨some 92, some (91, true), .fad 3 (.t 4)⟩,
                     ⟨some 93, some (91, true), .ld 1 false false (.t 92)⟩,
                     ⟨some 94, some (91, true), .fad 1 (.t 6)⟩,
                     ⟨some 95, some (91, true), .ld 1 false false (.t 94)⟩,
                     ⟨some 96, some (91, true), .iad 1 (.t 93) (.t 95)⟩,
                     ⟨some 97, some (91, true), .ld 1 false false (.t 96)⟩,
                     ⟨some 98, some (91, true), .fad 2 (.t 6)⟩,
                     ⟨some 99, some (91, true), .ld 1 false false (.t 98)⟩,
                     ⟨some 100, some (91, true), .bin .eql (.t 97) (.t 99)⟩,
                     ⟨some 101, none, .pick (.t 91) (.t 100) (.c (.bool false))⟩,
                     ⟨some 80, none, .mv true (.t 101)⟩] [])
                   (.cond (.t 80)
                    (.seq
                     (.region [
                       ⟨some 102, none, .fad 3 (.t 4)⟩,
                       ⟨some 103, none, .ld 1 false false (.t 102)⟩,
                       ⟨some 104, none, .fad 1 (.t 6)⟩,
                       ⟨some 105, none, .ld 1 false false (.t 104)⟩,
                       ⟨some 106, none, .iad 1 (.t 103) (.t 105)⟩,
                       ⟨none, none, .sto 1 (.t 106) (.c (.int .i64 (-1)))⟩])
                     (.region [
                       ⟨some 107, none, .fad 4 (.t 4)⟩,
                       ⟨some 108, none, .ld 1 false false (.t 107)⟩,
                       ⟨some 109, none, .fad 1 (.t 6)⟩,
                       ⟨some 110, none, .ld 1 false false (.t 109)⟩,
                       ⟨some 111, none, .iad 1 (.t 108) (.t 110)⟩,
                       ⟨none, none, .sto 1 (.t 111) (.c (.int .i64 (-1)))⟩]))
                    (.seq
                     (.region [
                       ⟨some 113, none, .fad 0 (.t 6)⟩,
                       ⟨some 114, none, .ld 1 false false (.t 113)⟩,
                       ⟨some 115, none, .bin .eql (.t 114) (.c (.int .i64 4))⟩,
                       ⟨some 116, none, .mv false (.t 115)⟩,
                       ⟨some 117, some (116, true), .fad 1 (.t 6)⟩,
                       ⟨some 118, some (116, true), .ld 1 false false (.t 117)⟩,
                       ⟨some 119, some (116, true), .fad 2 (.t 4)⟩,
                       ⟨some 120, some (116, true), .ld 1 false false (.t 119)⟩,
                       ⟨some 121, some (116, true), .bin .lss (.t 118) (.t 120)⟩,
                       ⟨some 122, none, .pick (.t 116) (.t 121) (.c (.bool false))⟩,
                       ⟨some 123, none, .mv false (.t 122)⟩,
                       ⟨some 124, some (123, true), .fad 5 (.t 4)⟩,
                       ⟨some 125, some (123, true), .ld 1 false false (.t 124)⟩,
                       ⟨some 126, some (123, true), .fad 1 (.t 6)⟩,
                       ⟨some 127, some (123, true), .ld 1 false false (.t 126)⟩,
                       ⟨some 128, some (123, true), .iad 1 (.t 125) (.t 127)⟩,
                       ⟨some 129, some (123, true), .ld 1 false false (.t 128)⟩,
                       ⟨some 130, some (123, true), .bin .lss (.t 129) (.c (.int .i64 0))⟩,
                       ⟨some 131, none, .pick (.t 123) (.t 130) (.c (.bool false))⟩,
                       ⟨some 112, none, .mv true (.t 131)⟩])
                     (.cond (.t 112)
                      (.region [
                        ⟨some 132, none, .fad 5 (.t 4)⟩,
                        ⟨some 133, none, .ld 1 false false (.t 132)⟩,
                        ⟨some 134, none, .fad 1 (.t 6)⟩,
                        ⟨some 135, none, .ld 1 false false (.t 134)⟩,
                        ⟨some 136, none, .fad 2 (.t 6)⟩,
                        ⟨some 137, none, .ld 1 false false (.t 136)⟩,
                        ⟨some 138, none, .iad 1 (.t 133) (.t 135)⟩,
                        ⟨none, none, .sto 1 (.t 138) (.t 137)⟩])
                      (.seq
                       (.region [
                         ⟨some 140, none, .fad 0 (.t 6)⟩,
                         ⟨some 141, none, .ld 1 false false (.t 140)⟩,
                         ⟨some 142, none, .bin .geq (.t 141) (.c (.int .i64 5))⟩,
                         ⟨some 143, none, .mv false (.t 142)⟩,
                         ⟨some 144, some (143, true), .fad 6 (.t 4)⟩,
                         ⟨some 145, some (143, true), .ld 1 false false (.t 144)⟩,
                         ⟨some 146, some (143, true), .bin .eql (.t 145) (.c (.int .i64 0))⟩,
                         ⟨some 147, none, .pick (.t 143) (.t 146) (.c (.bool false))⟩,
                         ⟨some 139, none, .mv true (.t 147)⟩])
                       (.cond (.t 139)
                        (.seq
                         (.region [
                           ⟨some 148, none, .fad 0 (.t 6)⟩,
                           ⟨some 149, none, .ld 1 false false (.t 148)⟩,
                           ⟨some 150, none, .fad 6 (.t 4)⟩,
                           ⟨none, none, .sto 1 (.t 150) (.t 149)⟩])
                         (.seq
                          (.region [
                            ⟨some 151, none, .fad 0 (.t 6)⟩,
                            ⟨some 152, none, .ld 1 false false (.t 151)⟩,
                            ⟨some 153, none, .bin .eql (.t 152) (.c (.int .i64 6))⟩])
                          (.cond (.t 153)
                           (.region [
                             ⟨some 154, none, .fad 2 (.t 6)⟩,
                             ⟨some 155, none, .ld 1 false false (.t 154)⟩,
                             ⟨some 156, none, .fad 7 (.t 4)⟩,
                             ⟨none, none, .sto 1 (.t 156) (.t 155)⟩])
                           .skip)))
                        .skip)))))))))))
             (.region [
               ⟨some 49, none, .mv false (.t 5)⟩,
               ⟨some 50, none, .bin .add (.t 49) (.c (.int .i64 1))⟩,
               ⟨some 5, none, .mv true (.t 50)⟩]))))))
        (.seq
         (.region [
           ⟨some 157, none, .ld 8 true false (.t 4)⟩,
           ⟨none, none, .sto 8 (.t 2) (.t 157)⟩])
         .ret)))))⟩
theorem t25 : compF Try.prog {} 25 = some p25 := by kernel_rfl
def p26 : PFn :=
  ⟨61, [.t 4], .seq
    (.region [
      ⟨some 2, none, .bxI 8 (.t 0)⟩,
      ⟨some 3, none, .bxI 8 (.t 1)⟩,
      ⟨some 4, none, .mv true (.c (.bool false))⟩])
    (.seq
     (.region [
       ⟨some 6, none, .fad 0 (.t 2)⟩,
       ⟨some 7, none, .ld 1 false false (.t 6)⟩,
       ⟨some 8, none, .fad 0 (.t 3)⟩,
       ⟨some 9, none, .ld 1 false false (.t 8)⟩,
       ⟨some 10, none, .binB false (.t 7) (.t 9)⟩,
       ⟨some 11, none, .mv false (.t 10)⟩,
       ⟨some 12, some (11, true), .fad 1 (.t 2)⟩,
       ⟨some 13, some (11, true), .ld 1 false false (.t 12)⟩,
       ⟨some 14, some (11, true), .fad 1 (.t 3)⟩,
       ⟨some 15, some (11, true), .ld 1 false false (.t 14)⟩,
       ⟨some 16, some (11, true), .bin .eql (.t 13) (.t 15)⟩,
       ⟨some 17, none, .pick (.t 11) (.t 16) (.c (.bool false))⟩,
       ⟨some 18, none, .mv false (.t 17)⟩,
       ⟨some 19, some (18, true), .fad 2 (.t 2)⟩,
       ⟨some 20, some (18, true), .ld 1 false false (.t 19)⟩,
       ⟨some 21, some (18, true), .fad 2 (.t 3)⟩,
       ⟨some 22, some (18, true), .ld 1 false false (.t 21)⟩,
       ⟨some 23, some (18, true), .bin .eql (.t 20) (.t 22)⟩,
       ⟨some 24, none, .pick (.t 18) (.t 23) (.c (.bool false))⟩,
       ⟨some 25, none, .mv false (.t 24)⟩,
       ⟨some 26, some (25, true), .fad 6 (.t 2)⟩,
       ⟨some 27, some (25, true), .ld 1 false false (.t 26)⟩,
       ⟨some 28, some (25, true), .fad 6 (.t 3)⟩,
       ⟨some 29, some (25, true), .ld 1 false false (.t 28)⟩,
       ⟨some 30, some (25, true), .bin .eql (.t 27) (.t 29)⟩,
       ⟨some 31, none, .pick (.t 25) (.t 30) (.c (.bool false))⟩,
       ⟨some 32, none, .mv false (.t 31)⟩,
       ⟨some 33, some (32, true), .fad 7 (.t 2)⟩,
       ⟨some 34, some (32, true), .ld 1 false false (.t 33)⟩,
       ⟨some 35, some (32, true), .fad 7 (.t 3)⟩,
       ⟨some 36, some (32, true), .ld 1 false false (.t 35)⟩,
       ⟨some 37, some (32, true), .bin .eql (.t 34) (.t 36)⟩,
       ⟨some 38, none, .pick (.t 32) (.t 37) (.c (.bool false))⟩,
       ⟨some 5, none, .mv true (.t 38)⟩])
     (.seq
      (.region [
        ⟨some 39, none, .mv false (.t 5)⟩,
        ⟨some 40, none, .mv false (.t 39)⟩,
        ⟨some 41, some (40, true), .fad 3 (.t 2)⟩,
        ⟨some 42, some (40, true), .ld 1 false false (.t 41)⟩,
        ⟨some 43, some (40, true), .fad 3 (.t 3)⟩,
        ⟨some 44, some (40, true), .ld 1 false false (.t 43)⟩,
        ⟨some 45, some (40, true), .callF 49 [.t 42, .t 44] []⟩,
        ⟨some 46, none, .pick (.t 40) (.t 45) (.c (.bool false))⟩,
        ⟨some 47, none, .mv false (.t 46)⟩,
        ⟨some 48, some (47, true), .fad 4 (.t 2)⟩,
        ⟨some 49, some (47, true), .ld 1 false false (.t 48)⟩,
        ⟨some 50, some (47, true), .fad 4 (.t 3)⟩,
        ⟨some 51, some (47, true), .ld 1 false false (.t 50)⟩,
        ⟨some 52, some (47, true), .callF 49 [.t 49, .t 51] []⟩,
        ⟨some 53, none, .pick (.t 47) (.t 52) (.c (.bool false))⟩,
        ⟨some 54, none, .mv false (.t 53)⟩,
        ⟨some 55, some (54, true), .fad 5 (.t 2)⟩,
        ⟨some 56, some (54, true), .ld 1 false false (.t 55)⟩,
        ⟨some 57, some (54, true), .fad 5 (.t 3)⟩,
        ⟨some 58, some (54, true), .ld 1 false false (.t 57)⟩,
        ⟨some 59, some (54, true), .callF 49 [.t 56, .t 58] []⟩,
        ⟨some 60, none, .pick (.t 54) (.t 59) (.c (.bool false))⟩,
        ⟨some 4, none, .mv true (.t 60)⟩])
      .ret))⟩
theorem t26 : compF Try.prog { ros := [2, 3] } 26 = some p26 := by kernel_rfl
def p27 : PFn :=
  ⟨23, [.t 0], .seq
    (.region [
      ⟨some 0, none, .mv true (.c (.lst 0 [] true))⟩])
    (.seq
     (.region [
       ⟨some 4, none, .mk 1 4 false [.int .u32 0] (.c (.int .i64 256)) (.c (.int .i64 256)) false⟩,
       ⟨some 1, none, .mv true (.t 4)⟩])
     (.seq
      (.seq
       (.region [
         ⟨some 5, none, .mv false (.t 1)⟩,
         ⟨some 6, none, .len false (.t 5)⟩,
         ⟨some 7, none, .mv false (.c (.int .i64 0))⟩])
       (.block 0
        (.loop
         (.seq
          (.region [
            ⟨some 8, none, .bin .lss (.t 7) (.t 6)⟩])
          (.seq
           (.cond (.t 8)
            .skip
            (.exit 0))
           (.seq
            (.block 1
             (.seq
              (.region [
                ⟨some 9, none, .mv true (.t 7)⟩,
                ⟨some 2, none, .mv true (.t 9)⟩])
              (.seq
               (.region [
                 ⟨some 10, none, .mv false (.t 2)⟩,
                 ⟨some 11, none, .cvI .u32 (.t 10)⟩,
                 ⟨some 3, none, .mv true (.t 11)⟩])
               (.seq
                (.seq
                 (.region [
                   ⟨some 12, none, .mv false (.c (.int .i64 0))⟩])
                 (.block 2
                  (.loop
                   (.seq
                    (.region [
                      ⟨some 13, none, .bin .lss (.t 12) (.c (.int .i64 8))⟩])
                    (.seq
                     (.cond (.t 13)
                      .skip
                      (.exit 2))
                     (.seq
                      (.block 3
                       (.region [
                         ⟨some 14, none, .mv false (.t 3)⟩,
                         ⟨some 15, none, .callF 50 [.t 14] []⟩,
                         ⟨some 3, none, .mv true (.t 15)⟩]))
                      (.region [
                        ⟨some 16, none, .bin .add (.t 12) (.c (.int .i64 1))⟩,
                        ⟨some 12, none, .mv false (.t 16)⟩])))))))
                (.region [
                  ⟨some 17, none, .mv false (.t 1)⟩,
                  ⟨some 18, none, .mv false (.t 2)⟩,
                  ⟨some 19, none, .mv true (.t 3)⟩,
                  ⟨some 20, none, .iad 1 (.t 17) (.t 18)⟩,
                  ⟨none, none, .sto 1 (.t 20) (.t 19)⟩])))))
            (.region [
              ⟨some 21, none, .bin .add (.t 7) (.c (.int .i64 1))⟩,
              ⟨some 7, none, .mv false (.t 21)⟩])))))))
      (.seq
       (.region [
         ⟨some 22, none, .mv true (.t 1)⟩,
         ⟨some 0, none, .mv true (.t 22)⟩])
       .ret)))⟩
theorem t27 : compF Try.prog {} 27 = some p27 := by kernel_rfl
def p28 : PFn :=
  ⟨42, [.t 4, .t 5, .t 6], .seq
    (.region [
      ⟨some 4, none, .mv true (.c (.str []))⟩,
      ⟨some 5, none, .mv true (.c (.lst 0 [] true))⟩,
      ⟨some 6, none, .mv true (.c (.int .i64 0))⟩])
    (.seq
     (.region [
       ⟨some 11, none, .mv false (.t 0)⟩,
       ⟨some 12, none, .callF 51 [.t 11] []⟩,
       ⟨some 10, none, .mv true (.t 12)⟩,
       ⟨some 13, none, .ext false (.t 10) 0⟩,
       ⟨some 14, none, .ext true (.t 10) 1⟩,
       ⟨some 15, none, .ext false (.t 10) 2⟩,
       ⟨some 7, none, .mv true (.t 13)⟩,
       ⟨some 8, none, .mv true (.t 14)⟩,
       ⟨some 9, none, .mv true (.t 15)⟩])
     (.seq
      (.block 0
       (.seq
        (.region [
          ⟨some 17, none, .mv false (.t 9)⟩,
          ⟨some 18, none, .bin .neq (.t 17) (.c (.int .i64 0))⟩,
          ⟨some 16, none, .mv true (.t 18)⟩])
        (.cond (.t 16)
         (.seq
          (.region [
            ⟨some 19, none, .mv true (.t 9)⟩,
            ⟨some 4, none, .mv true (.c (.str []))⟩,
            ⟨some 5, none, .mv true (.c (.lst 0 [] true))⟩,
            ⟨some 6, none, .mv true (.t 19)⟩])
          .ret)
         (.seq
          (.region [
            ⟨some 21, none, .mv false (.t 1)⟩,
            ⟨some 22, none, .bin .lss (.t 21) (.c (.int .i64 0))⟩,
            ⟨some 23, none, .mv false (.t 22)⟩,
            ⟨some 24, some (23, false), .mv false (.t 7)⟩,
            ⟨some 25, some (23, false), .mv false (.t 1)⟩,
            ⟨some 26, some (23, false), .cvI .u64 (.t 25)⟩,
            ⟨some 27, some (23, false), .bin .gtr (.t 24) (.t 26)⟩,
            ⟨some 28, none, .pick (.t 23) (.c (.bool true)) (.t 27)⟩,
            ⟨some 20, none, .mv true (.t 28)⟩])
          (.cond (.t 20)
           (.seq
            (.region [
              ⟨some 4, none, .mv true (.c (.str []))⟩,
              ⟨some 5, none, .mv true (.c (.lst 0 [] true))⟩,
              ⟨some 6, none, .mv true (.c (.int .i64 5))⟩])
            .ret)
           (.seq
            (.region [
              ⟨some 30, none, .mv false (.t 7)⟩,
              ⟨some 31, none, .mv false (.t 8)⟩,
              ⟨some 32, none, .len false (.t 31)⟩,
              ⟨some 33, none, .cvI .u64 (.t 32)⟩,
              ⟨some 34, none, .bin .gtr (.t 30) (.t 33)⟩,
              ⟨some 29, none, .mv true (.t 34)⟩])
            (.cond (.t 29)
             (.seq
              (.region [
                ⟨some 4, none, .mv true (.c (.str []))⟩,
                ⟨some 5, none, .mv true (.c (.lst 0 [] true))⟩,
                ⟨some 6, none, .mv true (.c (.int .i64 2))⟩])
              .ret)
             .skip)))))))
      (.seq
       (.draw [
         ⟨some 35, none, .mv false (.t 8)⟩,
         ⟨some 36, none, .mv false (.t 7)⟩,
         ⟨some 37, none, .sli 1 (.t 35) none (some (.t 36)) none⟩,
         ⟨some 38, none, .cvS (.t 37)⟩,
         ⟨some 39, none, .mv false (.t 8)⟩,
         ⟨some 40, none, .mv false (.t 7)⟩,
         ⟨some 41, none, .sli 1 (.t 39) (some (.t 40)) none none⟩,
         ⟨some 4, none, .mv true (.t 38)⟩,
         ⟨some 5, none, .mv true (.t 41)⟩,
         ⟨some 6, none, .mv true (.c (.int .i64 0))⟩] [])
       .ret)))⟩
theorem t28 : compF Try.prog {} 28 = some p28 := by kernel_rfl
def p29 : PFn :=
  ⟨72, [.c 4 4 true, .t 5], .seq
    (.region [
      ⟨some 4, none, .al [.int .i64 0, .int .i64 0, .int .i64 0, .int .i64 0]⟩,
      ⟨some 5, none, .mv true (.c (.bool false))⟩])
    (.seq
     (.region [
       ⟨some 15, none, .mv false (.t 1)⟩,
       ⟨some 16, none, .mv false (.t 0)⟩,
       ⟨some 17, none, .cvB (.t 16)⟩,
       ⟨some 18, none, .callF 52 [.t 15, .t 17] []⟩,
       ⟨some 14, none, .mv true (.t 18)⟩,
       ⟨some 19, none, .ext true (.t 14) 0⟩,
       ⟨some 20, none, .ext false (.t 14) 1⟩,
       ⟨some 6, none, .mv true (.t 19)⟩,
       ⟨some 7, none, .mv true (.t 20)⟩])
     (.seq
      (.seq
       (.region [
         ⟨some 21, none, .mv false (.t 7)⟩,
         ⟨some 22, none, .bin .neq (.t 21) (.c (.int .i64 0))⟩,
         ⟨some 23, none, .mv false (.t 22)⟩,
         ⟨some 24, some (23, false), .mv false (.t 6)⟩,
         ⟨some 25, some (23, false), .len false (.t 24)⟩,
         ⟨some 26, some (23, false), .bin .eql (.t 25) (.c (.int .i64 0))⟩,
         ⟨some 27, none, .pick (.t 23) (.c (.bool true)) (.t 26)⟩])
       (.cond (.t 27)
        (.seq
         (.region [
           ⟨some 28, none, .build [.int .i64 0, .int .i64 0, .int .i64 0, .int .i64 0] []⟩,
           ⟨none, none, .sto 4 (.t 4) (.t 28)⟩,
           ⟨some 5, none, .mv true (.c (.bool false))⟩])
         .ret)
        .skip))
      (.seq
       (.region [
         ⟨some 29, none, .mv false (.t 6)⟩,
         ⟨some 30, none, .iad 1 (.t 29) (.c (.int .i64 0))⟩,
         ⟨some 31, none, .ld 1 false false (.t 30)⟩,
         ⟨some 32, none, .cvI .i64 (.t 31)⟩,
         ⟨some 33, none, .build [.int .i64 0, .int .i64 0, .int .i64 0, .int .i64 0] [(0, (1, .t 32))]⟩,
         ⟨some 8, none, .al [.int .i64 0, .int .i64 0, .int .i64 0, .int .i64 0]⟩,
         ⟨none, none, .sto 4 (.t 8) (.t 33)⟩])
       (.seq
        (.region [
          ⟨some 34, none, .mv false (.t 6)⟩,
          ⟨some 35, none, .sli 1 (.t 34) (some (.c (.int .i64 1))) none none⟩,
          ⟨some 6, none, .mv true (.t 35)⟩])
        (.seq
         (.seq
          (.region [
            ⟨some 36, none, .fad 1 (.t 8)⟩,
            ⟨some 37, none, .fad 2 (.t 8)⟩,
            ⟨some 38, none, .fad 3 (.t 8)⟩,
            ⟨some 39, none, .bsl 1 3 false [.ptr none, .ptr none, .ptr none] [(0, .t 36), (1, .t 37), (2, .t 38)] false⟩,
            ⟨some 40, none, .len false (.t 39)⟩,
            ⟨some 41, none, .mv false (.c (.int .i64 0))⟩])
          (.block 0
           (.loop
            (.seq
             (.region [
               ⟨some 42, none, .bin .lss (.t 41) (.t 40)⟩])
             (.seq
              (.cond (.t 42)
               .skip
               (.exit 0))
              (.seq
               (.block 1
                (.seq
                 (.region [
                   ⟨some 43, none, .iad 1 (.t 39) (.t 41)⟩,
                   ⟨some 44, none, .ld 1 false false (.t 43)⟩,
                   ⟨some 10, none, .mv true (.t 44)⟩])
                 (.seq
                  (.region [
                    ⟨some 46, none, .mv false (.t 6)⟩,
                    ⟨some 47, none, .callF 51 [.t 46] []⟩,
                    ⟨some 45, none, .mv true (.t 47)⟩,
                    ⟨some 48, none, .ext false (.t 45) 0⟩,
                    ⟨some 49, none, .ext true (.t 45) 1⟩,
                    ⟨some 50, none, .ext false (.t 45) 2⟩,
                    ⟨some 11, none, .mv true (.t 48)⟩,
                    ⟨some 12, none, .mv true (.t 49)⟩,
                    ⟨some 13, none, .mv true (.t 50)⟩])
                  (.seq
                   (.seq
                    (.region [
                      ⟨some 51, none, .mv false (.t 13)⟩,
                      ⟨some 52, none, .bin .neq (.t 51) (.c (.int .i64 0))⟩,
                      ⟨some 53, none, .mv false (.t 52)⟩,
                      ⟨some 54, some (53, false), .mv false (.t 11)⟩,
                      ⟨some 55, some (53, false), .bin .gtr (.t 54) (.c (.int .u64 10000))⟩,
                      ⟨some 56, none, .pick (.t 53) (.c (.bool true)) (.t 55)⟩])
                    (.cond (.t 56)
                     (.seq
                      (.region [
                        ⟨some 57, none, .build [.int .i64 0, .int .i64 0, .int .i64 0, .int .i64 0] []⟩,
                        ⟨none, none, .sto 4 (.t 4) (.t 57)⟩,
                        ⟨some 5, none, .mv true (.c (.bool false))⟩])
                      .ret)
                     .skip))
                   (.region [
                     ⟨some 58, none, .mv false (.t 10)⟩,
                     ⟨some 59, none, .mv false (.t 11)⟩,
                     ⟨some 60, none, .cvI .i64 (.t 59)⟩,
                     ⟨some 61, none, .mv true (.t 12)⟩,
                     ⟨some 62, none, .nck (.t 58)⟩,
                     ⟨none, none, .sto 1 (.t 62) (.t 60)⟩,
                     ⟨some 6, none, .mv true (.t 61)⟩])))))
               (.region [
                 ⟨some 63, none, .bin .add (.t 41) (.c (.int .i64 1))⟩,
                 ⟨some 41, none, .mv false (.t 63)⟩])))))))
         (.seq
          (.draw [
            ⟨some 64, none, .ld 4 true false (.t 8)⟩,
            ⟨some 65, none, .mv false (.t 6)⟩,
            ⟨some 66, none, .len false (.t 65)⟩,
            ⟨some 67, none, .bin .eql (.t 66) (.c (.int .i64 0))⟩,
            ⟨some 68, none, .mv false (.t 67)⟩,
            ⟨some 69, some (68, true), .ld 4 true false (.t 8)⟩,
            ⟨some 70, some (68, true), .callF 23 [.t 69] []⟩,
            ⟨some 71, none, .pick (.t 68) (.t 70) (.c (.bool false))⟩,
            ⟨none, none, .sto 4 (.t 4) (.t 64)⟩,
            ⟨some 5, none, .mv true (.t 71)⟩] [])
          .ret))))))⟩
theorem t29 : compF Try.prog {} 29 = some p29 := by kernel_rfl
def p30 : PFn :=
  ⟨27, [], .seq
    (.region [
      ⟨some 3, none, .bxI 4 (.t 1)⟩])
    (.seq
     (.seq
      (.region [
        ⟨some 4, none, .mv false (.t 0)⟩,
        ⟨some 5, none, .nck (.t 4)⟩,
        ⟨some 6, none, .fad 0 (.t 5)⟩,
        ⟨some 7, none, .ld 1 false false (.t 6)⟩])
      (.cond (.t 7)
       .ret
       .skip))
     (.draw [
       ⟨some 8, none, .mv false (.t 0)⟩,
       ⟨some 9, none, .fad 1 (.t 3)⟩,
       ⟨some 10, none, .ld 1 false false (.t 9)⟩,
       ⟨some 11, none, .fad 2 (.t 3)⟩,
       ⟨some 12, none, .ld 1 false false (.t 11)⟩,
       ⟨some 13, none, .bsl 1 1 false [.int .i64 0] [(0, .c (.int .i64 (-1)))] false⟩,
       ⟨some 14, none, .fad 1 (.t 3)⟩,
       ⟨some 15, none, .ld 1 false false (.t 14)⟩,
       ⟨some 16, none, .callF 53 [.t 13, .t 15] []⟩,
       ⟨some 17, none, .bsl 1 1 false [.int .i64 0] [(0, .c (.int .i64 (-1)))] false⟩,
       ⟨some 18, none, .fad 1 (.t 3)⟩,
       ⟨some 19, none, .ld 1 false false (.t 18)⟩,
       ⟨some 20, none, .callF 53 [.t 17, .t 19] []⟩,
       ⟨some 21, none, .bsl 1 1 false [.int .i64 0] [(0, .c (.int .i64 (-1)))] false⟩,
       ⟨some 22, none, .fad 2 (.t 3)⟩,
       ⟨some 23, none, .ld 1 false false (.t 22)⟩,
       ⟨some 24, none, .callF 53 [.t 21, .t 23] []⟩,
       ⟨some 25, none, .build [.bool false, .int .i64 0, .int .i64 0, .lst 0 [] true, .lst 0 [] true, .lst 0 [] true, .int .i64 0, .int .i64 0] [(0, (1, .c (.bool true))), (1, (1, .t 10)), (2, (1, .t 12)), (3, (1, .t 16)), (4, (1, .t 20)), (5, (1, .t 24))]⟩,
       ⟨some 26, none, .nck (.t 8)⟩,
       ⟨none, none, .sto 8 (.t 26) (.t 25)⟩] []))⟩
theorem t30 : compF Try.prog { ros := [3] } 30 = some p30 := by kernel_rfl
def p31 : PFn :=
  ⟨58, [], .seq
    (.region [
      ⟨some 3, none, .bxI 4 (.t 1)⟩])
    (.block 0
     (.seq
      (.region [
        ⟨some 5, none, .mv false (.t 0)⟩,
        ⟨some 6, none, .fad 1 (.t 3)⟩,
        ⟨some 7, none, .ld 1 false false (.t 6)⟩,
        ⟨some 8, none, .callF 54 [.t 5, .t 7] []⟩,
        ⟨some 9, none, .un .not (.t 8)⟩,
        ⟨some 4, none, .mv true (.t 9)⟩])
      (.cond (.t 4)
       .skip
       (.seq
        (.region [
          ⟨some 11, none, .fad 0 (.t 3)⟩,
          ⟨some 12, none, .ld 1 false false (.t 11)⟩,
          ⟨some 13, none, .bin .eql (.t 12) (.c (.int .i64 2))⟩,
          ⟨some 10, none, .mv true (.t 13)⟩])
        (.cond (.t 10)
         (.draw [
           ⟨some 14, none, .mv false (.t 0)⟩,
           ⟨some 15, none, .nck (.t 14)⟩,
           ⟨some 16, none, .fad 3 (.t 15)⟩,
           ⟨some 17, none, .ld 1 false false (.t 16)⟩,
           ⟨some 18, none, .fad 1 (.t 3)⟩,
           ⟨some 19, none, .ld 1 false false (.t 18)⟩,
           ⟨some 20, none, .mv false (.t 0)⟩,
           ⟨some 21, none, .nck (.t 20)⟩,
           ⟨some 22, none, .fad 4 (.t 21)⟩,
           ⟨some 23, none, .ld 1 false false (.t 22)⟩,
           ⟨some 24, none, .fad 1 (.t 3)⟩,
           ⟨some 25, none, .ld 1 false false (.t 24)⟩,
           ⟨some 26, none, .fad 2 (.t 3)⟩,
           ⟨some 27, none, .ld 1 false false (.t 26)⟩,
           ⟨some 28, none, .fad 3 (.t 3)⟩,
           ⟨some 29, none, .ld 1 false false (.t 28)⟩,
           ⟨some 30, none, .iad 1 (.t 17) (.t 19)⟩,
           ⟨none, none, .sto 1 (.t 30) (.t 27)⟩,
           ⟨some 31, none, .iad 1 (.t 23) (.t 25)⟩,
           ⟨none, none, .sto 1 (.t 31) (.t 29)⟩] [(11, 17), (15, 17)])
         (.seq
          (.draw [
            ⟨some 33, none, .mv false (.t 0)⟩,
            ⟨some 34, none, .nck (.t 33)⟩,
            ⟨some 35, none, .fad 3 (.t 34)⟩,
            ⟨some 36, none, .ld 1 false false (.t 35)⟩,
            ⟨some 37, none, .fad 1 (.t 3)⟩,
            ⟨some 38, none, .ld 1 false false (.t 37)⟩,
            ⟨some 39, none, .iad 1 (.t 36) (.t 38)⟩,
            ⟨some 40, none, .ld 1 false false (.t 39)⟩,
            ⟨some 41, none, .fad 2 (.t 3)⟩,
            ⟨some 42, none, .ld 1 false false (.t 41)⟩,
            ⟨some 43, none, .bin .eql (.t 40) (.t 42)⟩,
            ⟨some 32, none, .mv true (.t 43)⟩] [])
          (.cond (.t 32)
           (.draw [
             ⟨some 44, none, .mv false (.t 0)⟩,
             ⟨some 45, none, .nck (.t 44)⟩,
             ⟨some 46, none, .fad 3 (.t 45)⟩,
             ⟨some 47, none, .ld 1 false false (.t 46)⟩,
             ⟨some 48, none, .fad 1 (.t 3)⟩,
             ⟨some 49, none, .ld 1 false false (.t 48)⟩,
             ⟨some 50, none, .mv false (.t 0)⟩,
             ⟨some 51, none, .nck (.t 50)⟩,
             ⟨some 52, none, .fad 4 (.t 51)⟩,
             ⟨some 53, none, .ld 1 false false (.t 52)⟩,
             ⟨some 54, none, .fad 1 (.t 3)⟩,
             ⟨some 55, none, .ld 1 false false (.t 54)⟩,
             ⟨some 56, none, .iad 1 (.t 47) (.t 49)⟩,
             ⟨none, none, .sto 1 (.t 56) (.c (.int .i64 (-1)))⟩,
             ⟨some 57, none, .iad 1 (.t 53) (.t 55)⟩,
             ⟨none, none, .sto 1 (.t 57) (.c (.int .i64 (-1)))⟩] [(11, 13)])
           .skip)))))))⟩
theorem t31 : compF Try.prog { ros := [3] } 31 = some p31 := by kernel_rfl
def p32 : PFn :=
  ⟨42, [], .seq
    (.region [
      ⟨some 3, none, .bxI 4 (.t 1)⟩])
    (.seq
     (.draw [
       ⟨some 4, none, .mv false (.t 0)⟩,
       ⟨some 5, none, .nck (.t 4)⟩,
       ⟨some 6, none, .fad 0 (.t 5)⟩,
       ⟨some 7, none, .ld 1 false false (.t 6)⟩,
       ⟨some 8, none, .mv false (.t 7)⟩,
       ⟨some 9, some (8, true), .fad 1 (.t 3)⟩,
       ⟨some 10, some (8, true), .ld 1 false false (.t 9)⟩,
       ⟨some 11, some (8, true), .bin .geq (.t 10) (.c (.int .i64 0))⟩,
       ⟨some 12, none, .pick (.t 8) (.t 11) (.c (.bool false))⟩,
       ⟨some 13, none, .mv false (.t 12)⟩,
       ⟨some 14, some (13, true), .fad 1 (.t 3)⟩,
       ⟨some 15, some (13, true), .ld 1 false false (.t 14)⟩,
       ⟨some 16, some (13, true), .mv false (.t 0)⟩,
       ⟨some 17, some (13, true), .nck (.t 16)⟩,
       ⟨some 18, some (13, true), .fad 2 (.t 17)⟩,
       ⟨some 19, some (13, true), .ld 1 false false (.t 18)⟩,
       ⟨some 20, some (13, true), .bin .lss (.t 15) (.t 19)⟩,
       ⟨some 21, none, .pick (.t 13) (.t 20) (.c (.bool false))⟩,
       ⟨some 22, none, .mv false (.t 21)⟩,
       ⟨some 23, some (22, true), .mv false (.t 0)⟩,
       ⟨some 24, some (22, true), .nck (.t 23)⟩,
       ⟨some 25, some (22, true), .fad 5 (.t 24)⟩,
       ⟨some 26, some (22, true), .ld 1 false false (.t 25)⟩,
       ⟨some 27, some (22, true), .fad 1 (.t 3)⟩,
       ⟨some 28, some (22, true), .ld 1 false false (.t 27)⟩,
       ⟨some 29, some (22, true), .iad 1 (.t 26) (.t 28)⟩,
       ⟨some 30, some (22, true), .ld 1 false false (.t 29)⟩,
       ⟨some 31, some (22, true), .bin .eql (.t 30) (.c (.int .i64 (-1)))⟩,
       ⟨some 32, none, .pick (.t 22) (.t 31) (.c (.bool false))⟩] [])
     (.cond (.t 32)
      (.draw [
        ⟨some 33, none, .mv false (.t 0)⟩,
        ⟨some 34, none, .nck (.t 33)⟩,
        ⟨some 35, none, .fad 5 (.t 34)⟩,
        ⟨some 36, none, .ld 1 false false (.t 35)⟩,
        ⟨some 37, none, .fad 1 (.t 3)⟩,
        ⟨some 38, none, .ld 1 false false (.t 37)⟩,
        ⟨some 39, none, .fad 2 (.t 3)⟩,
        ⟨some 40, none, .ld 1 false false (.t 39)⟩,
        ⟨some 41, none, .iad 1 (.t 36) (.t 38)⟩,
        ⟨none, none, .sto 1 (.t 41) (.t 40)⟩] [])
      .skip))⟩
theorem t32 : compF Try.prog { ros := [3] } 32 = some p32 := by kernel_rfl
def p33 : PFn :=
  ⟨29, [], .seq
    (.region [
      ⟨some 3, none, .bxI 4 (.t 1)⟩])
    (.seq
     (.seq
      (.region [
        ⟨some 4, none, .mv false (.t 0)⟩,
        ⟨some 5, none, .nck (.t 4)⟩,
        ⟨some 6, none, .fad 0 (.t 5)⟩,
        ⟨some 7, none, .ld 1 false false (.t 6)⟩,
        ⟨some 8, none, .un .not (.t 7)⟩,
        ⟨some 9, none, .mv false (.t 8)⟩,
        ⟨some 10, some (9, false), .mv false (.t 0)⟩,
        ⟨some 11, some (9, false), .nck (.t 10)⟩,
        ⟨some 12, some (9, false), .fad 6 (.t 11)⟩,
        ⟨some 13, some (9, false), .ld 1 false false (.t 12)⟩,
        ⟨some 14, some (9, false), .bin .neq (.t 13) (.c (.int .i64 0))⟩,
        ⟨some 15, none, .pick (.t 9) (.c (.bool true)) (.t 14)⟩])
      (.cond (.t 15)
       .ret
       .skip))
     (.seq
      (.region [
        ⟨some 16, none, .mv false (.t 0)⟩,
        ⟨some 17, none, .fad 0 (.t 3)⟩,
        ⟨some 18, none, .ld 1 false false (.t 17)⟩,
        ⟨some 19, none, .nck (.t 16)⟩,
        ⟨some 20, none, .fad 6 (.t 19)⟩,
        ⟨none, none, .sto 1 (.t 20) (.t 18)⟩])
      (.seq
       (.region [
         ⟨some 21, none, .fad 0 (.t 3)⟩,
         ⟨some 22, none, .ld 1 false false (.t 21)⟩,
         ⟨some 23, none, .bin .eql (.t 22) (.c (.int .i64 6))⟩])
       (.cond (.t 23)
        (.region [
          ⟨some 24, none, .mv false (.t 0)⟩,
          ⟨some 25, none, .fad 2 (.t 3)⟩,
          ⟨some 26, none, .ld 1 false false (.t 25)⟩,
          ⟨some 27, none, .nck (.t 24)⟩,
          ⟨some 28, none, .fad 7 (.t 27)⟩,
          ⟨none, none, .sto 1 (.t 28) (.t 26)⟩])
        .skip))))⟩
theorem t33 : compF Try.prog { ros := [3] } 33 = some p33 := by kernel_rfl
def p34 : PFn :=
  ⟨10, [.t 2], .seq
    (.region [
      ⟨some 1, none, .bxI 4 (.t 0)⟩,
      ⟨some 2, none, .mv true (.c (.lst 0 [] true))⟩])
    (.seq
     (.region [
       ⟨some 3, none, .fad 1 (.t 1)⟩,
       ⟨some 4, none, .ld 1 false false (.t 3)⟩,
       ⟨some 5, none, .fad 2 (.t 1)⟩,
       ⟨some 6, none, .ld 1 false false (.t 5)⟩,
       ⟨some 7, none, .fad 3 (.t 1)⟩,
       ⟨some 8, none, .ld 1 false false (.t 7)⟩,
       ⟨some 9, none, .bsl 1 3 false [.int .i64 0, .int .i64 0, .int .i64 0] [(0, .t 4), (1, .t 6), (2, .t 8)] false⟩,
       ⟨some 2, none, .mv true (.t 9)⟩])
     .ret)⟩
theorem t34 : compF Try.prog { ros := [1] } 34 = some p34 := by kernel_rfl
def p35 : PFn :=
  ⟨29, [.t 4], .seq
    (.region [
      ⟨some 4, none, .mv true (.c (.lst 0 [] true))⟩])
    (.seq
     (.region [
       ⟨some 6, none, .mv false (.t 0)⟩,
       ⟨some 7, none, .len false (.t 6)⟩,
       ⟨some 8, none, .mv false (.t 1)⟩,
       ⟨some 9, none, .callF 55 [.t 8] []⟩,
       ⟨some 10, none, .bin .add (.t 7) (.t 9)⟩,
       ⟨some 11, none, .mk 1 1 false [.int .u8 0] (.c (.int .i64 0)) (.t 10) false⟩,
       ⟨some 12, none, .mv false (.t 0)⟩,
       ⟨some 13, none, .app 1 1 (.t 11) (.t 12)⟩,
       ⟨some 5, none, .mv true (.t 13)⟩])
     (.seq
      (.block 0
       (.loop
        (.seq
         (.seq
          (.region [
            ⟨some 14, none, .mv false (.t 1)⟩,
            ⟨some 15, none, .bin .geq (.t 14) (.c (.int .u64 128))⟩])
          (.cond (.t 15)
           .skip
           (.exit 0)))
         (.seq
          (.block 1
           (.region [
             ⟨some 18, none, .mv true (.t 5)⟩,
             ⟨some 19, none, .mv false (.t 1)⟩,
             ⟨some 20, none, .cvI .u8 (.t 19)⟩,
             ⟨some 21, none, .bin .or (.t 20) (.c (.int .u8 128))⟩,
             ⟨some 22, none, .bsl 1 1 false [.int .u8 0] [(0, .t 21)] false⟩,
             ⟨some 23, none, .app 1 1 (.t 18) (.t 22)⟩,
             ⟨some 5, none, .mv true (.t 23)⟩]))
          (.region [
            ⟨some 16, none, .mv false (.t 1)⟩,
            ⟨some 17, none, .bin .shr (.t 16) (.c (.int .u64 7))⟩,
            ⟨some 1, none, .mv true (.t 17)⟩])))))
      (.seq
       (.region [
         ⟨some 24, none, .mv true (.t 5)⟩,
         ⟨some 25, none, .mv false (.t 1)⟩,
         ⟨some 26, none, .cvI .u8 (.t 25)⟩,
         ⟨some 27, none, .bsl 1 1 false [.int .u8 0] [(0, .t 26)] false⟩,
         ⟨some 28, none, .app 1 1 (.t 24) (.t 27)⟩,
         ⟨some 4, none, .mv true (.t 28)⟩])
       .ret)))⟩
theorem t35 : compF Try.prog {} 35 = some p35 := by kernel_rfl
def p36 : PFn :=
  ⟨22, [.t 4, .t 5], .seq
    (.region [
      ⟨some 4, none, .mv true (.c (.lst 0 [] true))⟩,
      ⟨some 5, none, .mv true (.c (.int .i64 0))⟩])
    (.seq
     (.region [
       ⟨some 9, none, .mv false (.t 0)⟩,
       ⟨some 10, none, .mv false (.t 1)⟩,
       ⟨some 11, none, .callF 56 [.t 9, .t 10] []⟩,
       ⟨some 8, none, .mv true (.t 11)⟩,
       ⟨some 12, none, .ext false (.t 8) 0⟩,
       ⟨some 13, none, .ext false (.t 8) 1⟩,
       ⟨some 6, none, .mv true (.t 12)⟩,
       ⟨some 7, none, .mv true (.t 13)⟩])
     (.seq
      (.seq
       (.region [
         ⟨some 14, none, .mv false (.t 7)⟩,
         ⟨some 15, none, .bin .neq (.t 14) (.c (.int .i64 0))⟩])
       (.cond (.t 15)
        (.seq
         (.region [
           ⟨some 16, none, .mv true (.t 7)⟩,
           ⟨some 4, none, .mv true (.c (.lst 0 [] true))⟩,
           ⟨some 5, none, .mv true (.t 16)⟩])
         .ret)
        .skip))
      (.seq
       (.region [
         ⟨some 17, none, .mv false (.t 1)⟩,
         ⟨some 18, none, .mv false (.t 6)⟩,
         ⟨some 19, none, .callF 58 [.t 18] []⟩,
         ⟨some 20, none, .bsl 1 2 false [.lst 0 [] true, .lst 0 [] true] [(0, .t 17), (1, .t 19)] false⟩,
         ⟨some 21, none, .callF 57 [.t 20] []⟩,
         ⟨some 4, none, .mv true (.t 21)⟩,
         ⟨some 5, none, .mv true (.c (.int .i64 0))⟩])
       .ret)))⟩
theorem t36 : compF Try.prog {} 36 = some p36 := by kernel_rfl
def p37 : PFn :=
  ⟨12, [.t 4], .seq
    (.region [
      ⟨some 4, none, .mv true (.c (.lst 0 [] true))⟩])
    (.seq
     (.region [
       ⟨some 5, none, .mv false (.t 0)⟩,
       ⟨some 6, none, .mv false (.t 1)⟩,
       ⟨some 7, none, .len true (.t 6)⟩,
       ⟨some 8, none, .cvI .u64 (.t 7)⟩,
       ⟨some 9, none, .callF 35 [.t 5, .t 8] []⟩,
       ⟨some 10, none, .mv false (.t 1)⟩,
       ⟨some 11, none, .app 1 1 (.t 9) (.t 10)⟩,
       ⟨some 4, none, .mv true (.t 11)⟩])
     .ret)⟩
theorem t37 : compF Try.prog {} 37 = some p37 := by kernel_rfl
def p38 : PFn :=
  ⟨13, [.t 4], .seq
    (.region [
      ⟨some 4, none, .mv true (.c (.lst 0 [] true))⟩])
    (.seq
     (.region [
       ⟨some 6, none, .bsl 1 0 false [] [] false⟩,
       ⟨some 7, none, .mv false (.t 0)⟩,
       ⟨some 8, none, .app 1 1 (.t 6) (.t 7)⟩,
       ⟨some 5, none, .mv true (.t 8)⟩])
     (.seq
      (.region [
        ⟨some 9, none, .mv true (.t 5)⟩,
        ⟨some 10, none, .mv false (.t 1)⟩,
        ⟨some 11, none, .callF 59 [.t 10] []⟩,
        ⟨some 12, none, .app 1 1 (.t 9) (.t 11)⟩,
        ⟨some 4, none, .mv true (.t 12)⟩])
      .ret))⟩
theorem t38 : compF Try.prog {} 38 = some p38 := by kernel_rfl
def p39 : PFn :=
  ⟨14, [.t 4], .seq
    (.region [
      ⟨some 4, none, .mv true (.c (.lst 0 [] true))⟩])
    (.seq
     (.region [
       ⟨some 6, none, .mv false (.t 0)⟩,
       ⟨some 7, none, .mv false (.t 1)⟩,
       ⟨some 8, none, .len true (.t 7)⟩,
       ⟨some 9, none, .cvI .u64 (.t 8)⟩,
       ⟨some 10, none, .callF 38 [.t 6, .t 9] []⟩,
       ⟨some 5, none, .mv true (.t 10)⟩])
     (.seq
      (.region [
        ⟨some 11, none, .mv true (.t 5)⟩,
        ⟨some 12, none, .mv false (.t 1)⟩,
        ⟨some 13, none, .app 1 1 (.t 11) (.t 12)⟩,
        ⟨some 4, none, .mv true (.t 13)⟩])
      .ret))⟩
theorem t39 : compF Try.prog {} 39 = some p39 := by kernel_rfl
def p40 : PFn :=
  ⟨12, [.t 2], .seq
    (.region [
      ⟨some 2, none, .mv true (.c (.lst 0 [] true))⟩])
    (.seq
     (.region [
       ⟨some 4, none, .bsl 1 0 false [] [] false⟩,
       ⟨some 5, none, .mv false (.t 0)⟩,
       ⟨some 6, none, .app 1 1 (.t 4) (.t 5)⟩,
       ⟨some 3, none, .mv true (.t 6)⟩])
     (.seq
      (.region [
        ⟨some 7, none, .mv true (.t 3)⟩,
        ⟨some 8, none, .mv false (.t 0)⟩,
        ⟨some 9, none, .callF 61 [.t 8] []⟩,
        ⟨some 10, none, .callF 60 [.t 9] []⟩,
        ⟨some 11, none, .app 1 1 (.t 7) (.t 10)⟩,
        ⟨some 2, none, .mv true (.t 11)⟩])
      .ret))⟩
theorem t40 : compF Try.prog {} 40 = some p40 := by kernel_rfl
def p41 : PFn :=
  ⟨41, [.t 4, .t 5, .t 6], .seq
    (.region [
      ⟨some 4, none, .mv true (.c (.str []))⟩,
      ⟨some 5, none, .mv true (.c (.lst 0 [] true))⟩,
      ⟨some 6, none, .mv true (.c (.int .i64 0))⟩])
    (.seq
     (.region [
       ⟨some 11, none, .mv false (.t 0)⟩,
       ⟨some 12, none, .callF 62 [.t 11] []⟩,
       ⟨some 10, none, .mv true (.t 12)⟩,
       ⟨some 13, none, .ext false (.t 10) 0⟩,
       ⟨some 14, none, .ext true (.t 10) 1⟩,
       ⟨some 15, none, .ext false (.t 10) 2⟩,
       ⟨some 7, none, .mv true (.t 13)⟩,
       ⟨some 8, none, .mv true (.t 14)⟩,
       ⟨some 9, none, .mv true (.t 15)⟩])
     (.seq
      (.seq
       (.region [
         ⟨some 16, none, .mv false (.t 9)⟩,
         ⟨some 17, none, .bin .neq (.t 16) (.c (.int .i64 0))⟩])
       (.cond (.t 17)
        (.seq
         (.region [
           ⟨some 18, none, .mv true (.t 9)⟩,
           ⟨some 4, none, .mv true (.c (.str []))⟩,
           ⟨some 5, none, .mv true (.c (.lst 0 [] true))⟩,
           ⟨some 6, none, .mv true (.t 18)⟩])
         .ret)
        .skip))
      (.seq
       (.seq
        (.region [
          ⟨some 19, none, .mv false (.t 1)⟩,
          ⟨some 20, none, .bin .lss (.t 19) (.c (.int .i64 0))⟩,
          ⟨some 21, none, .mv false (.t 20)⟩,
          ⟨some 22, some (21, false), .mv false (.t 7)⟩,
          ⟨some 23, some (21, false), .mv false (.t 1)⟩,
          ⟨some 24, some (21, false), .cvI .u64 (.t 23)⟩,
          ⟨some 25, some (21, false), .bin .gtr (.t 22) (.t 24)⟩,
          ⟨some 26, none, .pick (.t 21) (.c (.bool true)) (.t 25)⟩])
        (.cond (.t 26)
         (.seq
          (.region [
            ⟨some 4, none, .mv true (.c (.str []))⟩,
            ⟨some 5, none, .mv true (.c (.lst 0 [] true))⟩,
            ⟨some 6, none, .mv true (.c (.int .i64 5))⟩])
          .ret)
         .skip))
       (.seq
        (.seq
         (.region [
           ⟨some 27, none, .mv false (.t 7)⟩,
           ⟨some 28, none, .mv false (.t 8)⟩,
           ⟨some 29, none, .len false (.t 28)⟩,
           ⟨some 30, none, .cvI .u64 (.t 29)⟩,
           ⟨some 31, none, .bin .gtr (.t 27) (.t 30)⟩])
         (.cond (.t 31)
          (.seq
           (.region [
             ⟨some 4, none, .mv true (.c (.str []))⟩,
             ⟨some 5, none, .mv true (.c (.lst 0 [] true))⟩,
             ⟨some 6, none, .mv true (.c (.int .i64 2))⟩])
           .ret)
          .skip))
        (.seq
         (.draw [
           ⟨some 32, none, .mv false (.t 8)⟩,
           ⟨some 33, none, .mv false (.t 7)⟩,
           ⟨some 34, none, .sli 1 (.t 32) none (some (.t 33)) none⟩,
           ⟨some 35, none, .cvS (.t 34)⟩,
           ⟨some 36, none, .bsl 1 0 false [] [] false⟩,
           ⟨some 37, none, .mv false (.t 8)⟩,
           ⟨some 38, none, .mv false (.t 7)⟩,
           ⟨some 39, none, .sli 1 (.t 37) (some (.t 38)) none none⟩,
           ⟨some 40, none, .app 1 1 (.t 36) (.t 39)⟩,
           ⟨some 4, none, .mv true (.t 35)⟩,
           ⟨some 5, none, .mv true (.t 40)⟩,
           ⟨some 6, none, .mv true (.c (.int .i64 0))⟩] [])
         .ret)))))⟩
theorem t41 : compF Try.prog {} 41 = some p41 := by kernel_rfl
def p42 : PFn :=
  ⟨91, [.c 2 4 true, .t 3], .seq
    (.region [
      ⟨some 2, none, .al [.int .i64 0, .int .i64 0, .int .i64 0, .int .i64 0]⟩,
      ⟨some 3, none, .mv true (.c (.bool false))⟩])
    (.seq
     (.region [
       ⟨some 14, none, .mv false (.t 0)⟩,
       ⟨some 15, none, .cvB (.t 14)⟩,
       ⟨some 16, none, .callF 63 [.t 15] []⟩,
       ⟨some 13, none, .mv true (.t 16)⟩,
       ⟨some 17, none, .ext true (.t 13) 0⟩,
       ⟨some 18, none, .ext false (.t 13) 1⟩,
       ⟨some 4, none, .mv true (.t 17)⟩,
       ⟨some 5, none, .mv true (.t 18)⟩])
     (.seq
      (.seq
       (.region [
         ⟨some 19, none, .mv false (.t 5)⟩,
         ⟨some 20, none, .bin .neq (.t 19) (.c (.int .i64 0))⟩,
         ⟨some 21, none, .mv false (.t 20)⟩,
         ⟨some 22, some (21, false), .mv false (.t 4)⟩,
         ⟨some 23, some (21, false), .len false (.t 22)⟩,
         ⟨some 24, some (21, false), .bin .eql (.t 23) (.c (.int .i64 0))⟩,
         ⟨some 25, none, .pick (.t 21) (.c (.bool true)) (.t 24)⟩])
       (.cond (.t 25)
        (.seq
         (.region [
           ⟨some 26, none, .build [.int .i64 0, .int .i64 0, .int .i64 0, .int .i64 0] []⟩,
           ⟨none, none, .sto 4 (.t 2) (.t 26)⟩,
           ⟨some 3, none, .mv true (.c (.bool false))⟩])
         .ret)
        .skip))
      (.seq
       (.region [
         ⟨some 27, none, .mv false (.t 4)⟩,
         ⟨some 28, none, .iad 1 (.t 27) (.c (.int .i64 0))⟩,
         ⟨some 29, none, .ld 1 false false (.t 28)⟩,
         ⟨some 30, none, .cvI .i64 (.t 29)⟩,
         ⟨some 31, none, .build [.int .i64 0, .int .i64 0, .int .i64 0, .int .i64 0] [(0, (1, .t 30))]⟩,
         ⟨some 6, none, .al [.int .i64 0, .int .i64 0, .int .i64 0, .int .i64 0]⟩,
         ⟨none, none, .sto 4 (.t 6) (.t 31)⟩])
       (.seq
        (.region [
          ⟨some 33, none, .mv false (.t 4)⟩,
          ⟨some 34, none, .sli 1 (.t 33) (some (.c (.int .i64 1))) none none⟩,
          ⟨some 35, none, .callF 62 [.t 34] []⟩,
          ⟨some 32, none, .mv true (.t 35)⟩,
          ⟨some 36, none, .ext false (.t 32) 0⟩,
          ⟨some 37, none, .ext true (.t 32) 1⟩,
          ⟨some 38, none, .ext false (.t 32) 2⟩,
          ⟨some 7, none, .mv true (.t 36)⟩,
          ⟨some 4, none, .mv true (.t 37)⟩,
          ⟨some 8, none, .mv true (.t 38)⟩])
        (.seq
         (.region [
           ⟨some 40, none, .mv false (.t 4)⟩,
           ⟨some 41, none, .callF 62 [.t 40] []⟩,
           ⟨some 39, none, .mv true (.t 41)⟩,
           ⟨some 42, none, .ext false (.t 39) 0⟩,
           ⟨some 43, none, .ext true (.t 39) 1⟩,
           ⟨some 44, none, .ext false (.t 39) 2⟩,
           ⟨some 9, none, .mv true (.t 42)⟩,
           ⟨some 4, none, .mv true (.t 43)⟩,
           ⟨some 10, none, .mv true (.t 44)⟩])
         (.seq
          (.region [
            ⟨some 46, none, .mv false (.t 4)⟩,
            ⟨some 47, none, .callF 62 [.t 46] []⟩,
            ⟨some 45, none, .mv true (.t 47)⟩,
            ⟨some 48, none, .ext false (.t 45) 0⟩,
            ⟨some 49, none, .ext true (.t 45) 1⟩,
            ⟨some 50, none, .ext false (.t 45) 2⟩,
            ⟨some 11, none, .mv true (.t 48)⟩,
            ⟨some 4, none, .mv true (.t 49)⟩,
            ⟨some 12, none, .mv true (.t 50)⟩])
          (.seq
           (.seq
            (.region [
              ⟨some 51, none, .mv false (.t 8)⟩,
              ⟨some 52, none, .bin .neq (.t 51) (.c (.int .i64 0))⟩,
              ⟨some 53, none, .mv false (.t 52)⟩,
              ⟨some 54, some (53, false), .mv false (.t 10)⟩,
              ⟨some 55, some (53, false), .bin .neq (.t 54) (.c (.int .i64 0))⟩,
              ⟨some 56, none, .pick (.t 53) (.c (.bool true)) (.t 55)⟩,
              ⟨some 57, none, .mv false (.t 56)⟩,
              ⟨some 58, some (57, false), .mv false (.t 12)⟩,
              ⟨some 59, some (57, false), .bin .neq (.t 58) (.c (.int .i64 0))⟩,
              ⟨some 60, none, .pick (.t 57) (.c (.bool true)) (.t 59)⟩,
              ⟨some 61, none, .mv false (.t 60)⟩,
              ⟨some 62, some (61, false), .mv false (.t 4)⟩,
              ⟨some 63, some (61, false), .len false (.t 62)⟩,
              ⟨some 64, some (61, false), .bin .gtr (.t 63) (.c (.int .i64 0))⟩,
              ⟨some 65, none, .pick (.t 61) (.c (.bool true)) (.t 64)⟩,
              ⟨some 66, none, .mv false (.t 65)⟩,
              ⟨some 67, some (66, false), .mv false (.t 7)⟩,
              ⟨some 68, some (66, false), .bin .gtr (.t 67) (.c (.int .u64 10000))⟩,
              ⟨some 69, none, .pick (.t 66) (.c (.bool true)) (.t 68)⟩,
              ⟨some 70, none, .mv false (.t 69)⟩,
              ⟨some 71, some (70, false), .mv false (.t 9)⟩,
              ⟨some 72, some (70, false), .bin .gtr (.t 71) (.c (.int .u64 10000))⟩,
              ⟨some 73, none, .pick (.t 70) (.c (.bool true)) (.t 72)⟩,
              ⟨some 74, none, .mv false (.t 73)⟩,
              ⟨some 75, some (74, false), .mv false (.t 11)⟩,
              ⟨some 76, some (74, false), .bin .gtr (.t 75) (.c (.int .u64 10000))⟩,
              ⟨some 77, none, .pick (.t 74) (.c (.bool true)) (.t 76)⟩])
            (.cond (.t 77)
             (.seq
              (.region [
                ⟨some 78, none, .build [.int .i64 0, .int .i64 0, .int .i64 0, .int .i64 0] []⟩,
                ⟨none, none, .sto 4 (.t 2) (.t 78)⟩,
                ⟨some 3, none, .mv true (.c (.bool false))⟩])
              .ret)
             .skip))
           (.seq
            (.region [
              ⟨some 79, none, .mv false (.t 7)⟩,
              ⟨some 80, none, .cvI .i64 (.t 79)⟩,
              ⟨some 81, none, .fad 1 (.t 6)⟩,
              ⟨none, none, .sto 1 (.t 81) (.t 80)⟩])
            (.seq
             (.region [
               ⟨some 82, none, .mv false (.t 9)⟩,
               ⟨some 83, none, .cvI .i64 (.t 82)⟩,
               ⟨some 84, none, .fad 2 (.t 6)⟩,
               ⟨none, none, .sto 1 (.t 84) (.t 83)⟩])
             (.seq
              (.region [
                ⟨some 85, none, .mv false (.t 11)⟩,
                ⟨some 86, none, .cvI .i64 (.t 85)⟩,
                ⟨some 87, none, .fad 3 (.t 6)⟩,
                ⟨none, none, .sto 1 (.t 87) (.t 86)⟩])
              (.seq
               (.draw [
                 ⟨some 88, none, .ld 4 true false (.t 6)⟩,
                 ⟨some 89, none, .ld 4 true false (.t 6)⟩,
                 ⟨some 90, none, .callF 24 [.t 89] []⟩,
                 ⟨none, none, .sto 4 (.t 2) (.t 88)⟩,
                 ⟨some 3, none, .mv true (.t 90)⟩] [])
               .ret)))))))))))⟩
theorem t42 : compF Try.prog {} 42 = some p42 := by kernel_rfl
def p43 : PFn :=
  ⟨26, [.t 4], .seq
    (.region [
      ⟨some 4, none, .mv true (.c (.bool false))⟩])
    (.seq
     (.seq
      (.region [
        ⟨some 6, none, .mv false (.t 0)⟩,
        ⟨some 7, none, .len false (.t 6)⟩,
        ⟨some 8, none, .mv false (.t 1)⟩,
        ⟨some 9, none, .len false (.t 8)⟩,
        ⟨some 10, none, .bin .neq (.t 7) (.t 9)⟩])
      (.cond (.t 10)
       (.seq
        (.region [
          ⟨some 4, none, .mv true (.c (.bool false))⟩])
        .ret)
       .skip))
     (.seq
      (.seq
       (.region [
         ⟨some 5, none, .mv true (.c (.int .i64 0))⟩])
       (.block 0
        (.loop
         (.seq
          (.seq
           (.region [
             ⟨some 11, none, .mv false (.t 5)⟩,
             ⟨some 12, none, .mv false (.t 0)⟩,
             ⟨some 13, none, .len false (.t 12)⟩,
             ⟨some 14, none, .bin .lss (.t 11) (.t 13)⟩])
           (.cond (.t 14)
            .skip
            (.exit 0)))
          (.seq
           (.block 1
            (.seq
             (.draw [
               ⟨some 17, none, .mv false (.t 0)⟩,
               ⟨some 18, none, .mv false (.t 5)⟩,
               ⟨some 19, none, .iad 1 (.t 17) (.t 18)⟩,
               ⟨some 20, none, .ld 1 false false (.t 19)⟩,
               ⟨some 21, none, .mv false (.t 1)⟩,
               ⟨some 22, none, .mv false (.t 5)⟩,
               ⟨some 23, none, .iad 1 (.t 21) (.t 22)⟩,
               ⟨some 24, none, .ld 1 false false (.t 23)⟩,
               ⟨some 25, none, .bin .neq (.t 20) (.t 24)⟩] [])
             (.cond (.t 25)
              (.seq
               (.region [
                 ⟨some 4, none, .mv true (.c (.bool false))⟩])
               .ret)
              .skip)))
           (.region [
             ⟨some 15, none, .mv false (.t 5)⟩,
             ⟨some 16, none, .bin .add (.t 15) (.c (.int .i64 1))⟩,
             ⟨some 5, none, .mv true (.t 16)⟩]))))))
      (.seq
       (.region [
         ⟨some 4, none, .mv true (.c (.bool true))⟩])
       .ret)))⟩
theorem t43 : compF Try.prog {} 43 = some p43 := by kernel_rfl
def p44 : PFn :=
  ⟨9, [.t 2], .seq
    (.region [
      ⟨some 2, none, .mv true (.c (.bool false))⟩])
    (.seq
     (.region [
       ⟨some 3, none, .mv false (.t 0)⟩,
       ⟨some 4, none, .bin .lss (.t 3) (.c (.int .i64 0))⟩,
       ⟨some 5, none, .mv false (.t 4)⟩,
       ⟨some 6, some (5, false), .mv false (.t 0)⟩,
       ⟨some 7, some (5, false), .bin .gtr (.t 6) (.c (.int .i64 10000))⟩,
       ⟨some 8, none, .pick (.t 5) (.c (.bool true)) (.t 7)⟩,
       ⟨some 2, none, .mv true (.t 8)⟩])
     .ret)⟩
theorem t44 : compF Try.prog {} 44 = some p44 := by kernel_rfl
def p45 : PFn :=
  ⟨9, [.t 4], .seq
    (.region [
      ⟨some 4, none, .mv true (.c (.bool false))⟩])
    (.seq
     (.region [
       ⟨some 5, none, .mv false (.t 0)⟩,
       ⟨some 6, none, .mv false (.t 1)⟩,
       ⟨some 7, none, .callF 64 [.t 5, .t 6] []⟩,
       ⟨some 8, none, .bin .geq (.t 7) (.c (.int .i64 0))⟩,
       ⟨some 4, none, .mv true (.t 8)⟩])
     .ret)⟩
theorem t45 : compF Try.prog {} 45 = some p45 := by kernel_rfl
def p46 : PFn :=
  ⟨9, [.t 2], .seq
    (.region [
      ⟨some 2, none, .mv true (.c (.bool false))⟩])
    (.seq
     (.region [
       ⟨some 3, none, .mv false (.t 0)⟩,
       ⟨some 4, none, .bin .geq (.t 3) (.c (.int .i64 0))⟩,
       ⟨some 5, none, .mv false (.t 4)⟩,
       ⟨some 6, some (5, true), .mv false (.t 0)⟩,
       ⟨some 7, some (5, true), .bin .leq (.t 6) (.c (.int .i64 10000))⟩,
       ⟨some 8, none, .pick (.t 5) (.t 7) (.c (.bool false))⟩,
       ⟨some 2, none, .mv true (.t 8)⟩])
     .ret)⟩
theorem t46 : compF Try.prog {} 46 = some p46 := by kernel_rfl
def p47 : PFn :=
  ⟨19, [.t 2], .seq
    (.region [
      ⟨some 2, none, .mv true (.c (.int .i64 0))⟩])
    (.seq
     (.seq
      (.region [
        ⟨some 3, none, .mv true (.c (.int .i64 0))⟩])
      (.block 0
       (.loop
        (.seq
         (.seq
          (.region [
            ⟨some 4, none, .mv false (.t 3)⟩,
            ⟨some 5, none, .mv false (.t 0)⟩,
            ⟨some 6, none, .len false (.t 5)⟩,
            ⟨some 7, none, .bin .lss (.t 4) (.t 6)⟩])
          (.cond (.t 7)
           .skip
           (.exit 0)))
         (.seq
          (.block 1
           (.seq
            (.region [
              ⟨some 10, none, .mv false (.t 0)⟩,
              ⟨some 11, none, .mv false (.t 3)⟩,
              ⟨some 12, none, .iad 4 (.t 10) (.t 11)⟩,
              ⟨some 13, none, .fad 0 (.t 12)⟩,
              ⟨some 14, none, .ld 1 false false (.t 13)⟩,
              ⟨some 15, none, .bin .eql (.t 14) (.c (.int .i64 1))⟩])
            (.cond (.t 15)
             (.seq
              (.region [
                ⟨some 16, none, .mv true (.t 3)⟩,
                ⟨some 2, none, .mv true (.t 16)⟩])
              .ret)
             .skip)))
          (.region [
            ⟨some 8, none, .mv false (.t 3)⟩,
            ⟨some 9, none, .bin .add (.t 8) (.c (.int .i64 1))⟩,
            ⟨some 3, none, .mv true (.t 9)⟩]))))))
     (.seq
      (.region [
        ⟨some 17, none, .mv false (.t 0)⟩,
        ⟨some 18, none, .len false (.t 17)⟩,
        ⟨some 2, none, .mv true (.t 18)⟩])
      .ret))⟩
theorem t47 : compF Try.prog {} 47 = some p47 := by kernel_rfl
def p48 : PFn :=
  ⟨18, [.t 4], .seq
    (.region [
      ⟨some 4, none, .mv true (.c (.lst 0 [] true))⟩])
    (.seq
     (.region [
       ⟨some 7, none, .bsl 1 0 false [] [] false⟩,
       ⟨some 5, none, .mv true (.t 7)⟩])
     (.seq
      (.seq
       (.region [
         ⟨some 6, none, .mv true (.c (.int .i64 0))⟩])
       (.block 0
        (.loop
         (.seq
          (.seq
           (.region [
             ⟨some 8, none, .mv false (.t 6)⟩,
             ⟨some 9, none, .mv false (.t 0)⟩,
             ⟨some 10, none, .bin .lss (.t 8) (.t 9)⟩])
           (.cond (.t 10)
            .skip
            (.exit 0)))
          (.seq
           (.block 1
            (.region [
              ⟨some 13, none, .mv true (.t 5)⟩,
              ⟨some 14, none, .mv false (.t 1)⟩,
              ⟨some 15, none, .bsl 1 1 false [.int .i64 0] [(0, .t 14)] false⟩,
              ⟨some 16, none, .app 1 8 (.t 13) (.t 15)⟩,
              ⟨some 5, none, .mv true (.t 16)⟩]))
           (.region [
             ⟨some 11, none, .mv false (.t 6)⟩,
             ⟨some 12, none, .bin .add (.t 11) (.c (.int .i64 1))⟩,
             ⟨some 6, none, .mv true (.t 12)⟩]))))))
      (.seq
       (.region [
         ⟨some 17, none, .mv true (.t 5)⟩,
         ⟨some 4, none, .mv true (.t 17)⟩])
       .ret)))⟩
theorem t48 : compF Try.prog {} 48 = some p48 := by kernel_rfl
def p49 : PFn :=
  ⟨26, [.t 4], .seq
    (.region [
      ⟨some 4, none, .mv true (.c (.bool false))⟩])
    (.seq
     (.seq
      (.region [
        ⟨some 6, none, .mv false (.t 0)⟩,
        ⟨some 7, none, .len false (.t 6)⟩,
        ⟨some 8, none, .mv false (.t 1)⟩,
        ⟨some 9, none, .len false (.t 8)⟩,
        ⟨some 10, none, .bin .neq (.t 7) (.t 9)⟩])
      (.cond (.t 10)
       (.seq
        (.region [
          ⟨some 4, none, .mv true (.c (.bool false))⟩])
        .ret)
       .skip))
     (.seq
      (.seq
       (.region [
         ⟨some 11, none, .mv false (.t 0)⟩,
         ⟨some 12, none, .len false (.t 11)⟩,
         ⟨some 13, none, .mv false (.c (.int .i64 0))⟩])
       (.block 0
        (.loop
         (.seq
          (.region [
            ⟨some 14, none, .bin .lss (.t 13) (.t 12)⟩])
          (.seq
           (.cond (.t 14)
            .skip
            (.exit 0))
           (.seq
            (.block 1
             (.seq
              (.region [
                ⟨some 15, none, .mv true (.t 13)⟩,
                ⟨some 5, none, .mv true (.t 15)⟩])
              (.seq
               (.draw [
                 ⟨some 16, none, .mv false (.t 0)⟩,
                 ⟨some 17, none, .mv false (.t 5)⟩,
                 ⟨some 18, none, .iad 1 (.t 16) (.t 17)⟩,
                 ⟨some 19, none, .ld 1 false false (.t 18)⟩,
                 ⟨some 20, none, .mv false (.t 1)⟩,
                 ⟨some 21, none, .mv false (.t 5)⟩,
                 ⟨some 22, none, .iad 1 (.t 20) (.t 21)⟩,
                 ⟨some 23, none, .ld 1 false false (.t 22)⟩,
                 ⟨some 24, none, .bin .neq (.t 19) (.t 23)⟩] [])
               (.cond (.t 24)
                (.seq
                 (.region [
                   ⟨some 4, none, .mv true (.c (.bool false))⟩])
                 .ret)
                .skip))))
            (.region [
              ⟨some 25, none, .bin .add (.t 13) (.c (.int .i64 1))⟩,
              ⟨some 13, none, .mv false (.t 25)⟩])))))))
      (.seq
       (.region [
         ⟨some 4, none, .mv true (.c (.bool true))⟩])
       .ret)))⟩
theorem t49 : compF Try.prog {} 49 = some p49 := by kernel_rfl
def p50 : PFn :=
  ⟨11, [.t 2], .seq
    (.region [
      ⟨some 2, none, .mv true (.c (.int .u32 0))⟩])
    (.seq
     (.seq
      (.region [
        ⟨some 3, none, .mv false (.t 0)⟩,
        ⟨some 4, none, .bin .and (.t 3) (.c (.int .u32 1))⟩,
        ⟨some 5, none, .bin .neq (.t 4) (.c (.int .u32 0))⟩])
      (.cond (.t 5)
       (.seq
        (.region [
          ⟨some 6, none, .mv false (.t 0)⟩,
          ⟨some 7, none, .bin .shr (.t 6) (.c (.int .u64 1))⟩,
          ⟨some 8, none, .bin .xor (.t 7) (.c (.int .u32 3988292384))⟩,
          ⟨some 2, none, .mv true (.t 8)⟩])
        .ret)
       .skip))
     (.seq
      (.region [
        ⟨some 9, none, .mv false (.t 0)⟩,
        ⟨some 10, none, .bin .shr (.t 9) (.c (.int .u64 1))⟩,
        ⟨some 2, none, .mv true (.t 10)⟩])
      .ret))⟩
theorem t50 : compF Try.prog {} 50 = some p50 := by kernel_rfl
def p51 : PFn :=
  ⟨51, [.t 2, .t 3, .t 4], .seq
    (.region [
      ⟨some 2, none, .mv true (.c (.int .u64 0))⟩,
      ⟨some 3, none, .mv true (.c (.lst 0 [] true))⟩,
      ⟨some 4, none, .mv true (.c (.int .i64 0))⟩])
    (.seq
     (.region [
       ⟨some 5, none, .mv true (.c (.int .u64 0))⟩])
     (.seq
      (.seq
       (.region [
         ⟨some 8, none, .mv false (.t 0)⟩,
         ⟨some 9, none, .len false (.t 8)⟩,
         ⟨some 10, none, .mv false (.c (.int .i64 0))⟩])
       (.block 0
        (.loop
         (.seq
          (.region [
            ⟨some 11, none, .bin .lss (.t 10) (.t 9)⟩])
          (.seq
           (.cond (.t 11)
            .skip
            (.exit 0))
           (.seq
            (.block 1
             (.seq
              (.region [
                ⟨some 12, none, .mv true (.t 10)⟩,
                ⟨some 13, none, .iad 1 (.t 8) (.t 10)⟩,
                ⟨some 14, none, .ld 1 false false (.t 13)⟩,
                ⟨some 6, none, .mv true (.t 12)⟩,
                ⟨some 7, none, .mv true (.t 14)⟩])
              (.seq
               (.seq
                (.region [
                  ⟨some 15, none, .mv false (.t 6)⟩,
                  ⟨some 16, none, .bin .eql (.t 15) (.c (.int .i64 10))⟩])
                (.cond (.t 16)
                 (.exit 0)
                 .skip))
               (.seq
                (.region [
                  ⟨some 17, none, .mv false (.t 5)⟩,
                  ⟨some 18, none, .mv false (.t 7)⟩,
                  ⟨some 19, none, .bin .andNot (.t 18) (.c (.int .u8 128))⟩,
                  ⟨some 20, none, .cvI .u64 (.t 19)⟩,
                  ⟨some 21, none, .mv false (.t 6)⟩,
                  ⟨some 22, none, .bin .mul (.c (.int .i64 7)) (.t 21)⟩,
                  ⟨some 23, none, .bin .shl (.t 20) (.t 22)⟩,
                  ⟨some 24, none, .bin .or (.t 17) (.t 23)⟩,
                  ⟨some 5, none, .mv true (.t 24)⟩])
                (.seq
                 (.seq
                  (.region [
                    ⟨some 25, none, .mv false (.t 7)⟩,
                    ⟨some 26, none, .bin .geq (.t 25) (.c (.int .u8 128))⟩])
                  (.cond (.t 26)
                   (.exit 1)
                   .skip))
                 (.seq
                  (.seq
                   (.region [
                     ⟨some 27, none, .mv false (.t 7)⟩,
                     ⟨some 28, none, .bin .eql (.t 27) (.c (.int .u8 0))⟩,
                     ⟨some 29, none, .mv false (.t 28)⟩,
                     ⟨some 30, some (29, true), .mv false (.t 6)⟩,
                     ⟨some 31, some (29, true), .bin .gtr (.t 30) (.c (.int .i64 0))⟩,
                     ⟨some 32, none, .pick (.t 29) (.t 31) (.c (.bool false))⟩,
                     ⟨some 33, none, .mv false (.t 32)⟩,
                     ⟨some 34, some (33, false), .mv false (.t 6)⟩,
                     ⟨some 35, some (33, false), .bin .eql (.t 34) (.c (.int .i64 9))⟩,
                     ⟨some 36, some (33, false), .mv false (.t 35)⟩,
                     ⟨some 37, some (36, true), .mv false (.t 7)⟩,
                     ⟨some 38, some (36, true), .bin .gtr (.t 37) (.c (.int .u8 1))⟩,
                     ⟨some 39, some (33, false), .pick (.t 36) (.t 38) (.c (.bool false))⟩,
                     ⟨some 40, none, .pick (.t 33) (.c (.bool true)) (.t 39)⟩])
                   (.cond (.t 40)
                    (.seq
                     (.region [
                       ⟨some 2, none, .mv true (.c (.int .u64 0))⟩,
                       ⟨some 3, none, .mv true (.c (.lst 0 [] true))⟩,
                       ⟨some 4, none, .mv true (.c (.int .i64 3))⟩])
                     .ret)
                    .skip))
                  (.seq
                   (.region [
                     ⟨some 41, none, .mv true (.t 5)⟩,
                     ⟨some 42, none, .mv false (.t 0)⟩,
                     ⟨some 43, none, .mv false (.t 6)⟩,
                     ⟨some 44, none, .bin .add (.t 43) (.c (.int .i64 1))⟩,
                     ⟨some 45, none, .sli 1 (.t 42) (some (.t 44)) none none⟩,
                     ⟨some 46, none, .callF 65 [.t 45] []⟩,
                     ⟨some 2, none, .mv true (.t 41)⟩,
                     ⟨some 3, none, .mv true (.t 46)⟩,
                     ⟨some 4, none, .mv true (.c (.int .i64 0))⟩])
                   .ret)))))))
            (.region [
              ⟨some 47, none, .bin .add (.t 10) (.c (.int .i64 1))⟩,
              ⟨some 10, none, .mv false (.t 47)⟩])))))))
      (.seq
       (.seq
        (.region [
          ⟨some 48, none, .mv false (.t 0)⟩,
          ⟨some 49, none, .len false (.t 48)⟩,
          ⟨some 50, none, .bin .geq (.t 49) (.c (.int .i64 10))⟩])
        (.cond (.t 50)
         (.seq
          (.region [
            ⟨some 2, none, .mv true (.c (.int .u64 0))⟩,
            ⟨some 3, none, .mv true (.c (.lst 0 [] true))⟩,
            ⟨some 4, none, .mv true (.c (.int .i64 3))⟩])
          .ret)
         .skip))
       (.seq
        (.region [
          ⟨some 2, none, .mv true (.c (.int .u64 0))⟩,
          ⟨some 3, none, .mv true (.c (.lst 0 [] true))⟩,
          ⟨some 4, none, .mv true (.c (.int .i64 2))⟩])
        .ret))))⟩
theorem t51 : compF Try.prog {} 51 = some p51 := by kernel_rfl
def p52 : PFn :=
  ⟨38, [.t 4, .t 5], .seq
    (.region [
      ⟨some 4, none, .mv true (.c (.lst 0 [] true))⟩,
      ⟨some 5, none, .mv true (.c (.int .i64 0))⟩])
    (.seq
     (.region [
       ⟨some 9, none, .mv false (.t 1)⟩,
       ⟨some 10, none, .len false (.t 9)⟩,
       ⟨some 11, none, .bin .sub (.t 10) (.c (.int .i64 4))⟩,
       ⟨some 6, none, .mv true (.t 11)⟩])
     (.seq
      (.block 0
       (.seq
        (.region [
          ⟨some 13, none, .mv false (.t 0)⟩,
          ⟨some 14, none, .len false (.t 13)⟩,
          ⟨some 15, none, .bin .neq (.t 14) (.c (.int .i64 256))⟩,
          ⟨some 12, none, .mv true (.t 15)⟩])
        (.cond (.t 12)
         (.seq
          (.region [
            ⟨some 4, none, .mv true (.c (.lst 0 [] true))⟩,
            ⟨some 5, none, .mv true (.c (.int .i64 1))⟩])
          .ret)
         (.seq
          (.region [
            ⟨some 17, none, .mv false (.t 6)⟩,
            ⟨some 18, none, .bin .lss (.t 17) (.c (.int .i64 0))⟩,
            ⟨some 16, none, .mv true (.t 18)⟩])
          (.cond (.t 16)
           (.seq
            (.region [
              ⟨some 4, none, .mv true (.c (.lst 0 [] true))⟩,
              ⟨some 5, none, .mv true (.c (.int .i64 2))⟩])
            .ret)
           .skip)))))
      (.seq
       (.region [
         ⟨some 20, none, .mv false (.t 0)⟩,
         ⟨some 21, none, .mv false (.t 1)⟩,
         ⟨some 22, none, .mv false (.t 6)⟩,
         ⟨some 23, none, .sli 1 (.t 21) none (some (.t 22)) none⟩,
         ⟨some 24, none, .callF 56 [.t 20, .t 23] []⟩,
         ⟨some 19, none, .mv true (.t 24)⟩,
         ⟨some 25, none, .ext false (.t 19) 0⟩,
         ⟨some 26, none, .ext false (.t 19) 1⟩,
         ⟨some 7, none, .mv true (.t 25)⟩,
         ⟨some 8, none, .mv true (.t 26)⟩])
       (.seq
        (.seq
         (.draw [
           ⟨some 27, none, .mv false (.t 7)⟩,
           ⟨some 28, none, .callF 58 [.t 27] []⟩,
           ⟨some 29, none, .mv false (.t 1)⟩,
           ⟨some 30, none, .mv false (.t 6)⟩,
           ⟨some 31, none, .sli 1 (.t 29) (some (.t 30)) none none⟩,
           ⟨some 32, none, .callF 66 [.t 28, .t 31] []⟩,
           ⟨some 33, none, .un .not (.t 32)⟩] [])
         (.cond (.t 33)
          (.seq
           (.region [
             ⟨some 4, none, .mv true (.c (.lst 0 [] true))⟩,
             ⟨some 5, none, .mv true (.c (.int .i64 4))⟩])
           .ret)
          .skip))
        (.seq
         (.region [
           ⟨some 34, none, .mv false (.t 1)⟩,
           ⟨some 35, none, .mv false (.t 6)⟩,
           ⟨some 36, none, .sli 1 (.t 34) none (some (.t 35)) none⟩,
           ⟨some 37, none, .callF 65 [.t 36] []⟩,
           ⟨some 4, none, .mv true (.t 37)⟩,
           ⟨some 5, none, .mv true (.c (.int .i64 0))⟩])
         .ret)))))⟩
theorem t52 : compF Try.prog {} 52 = some p52 := by kernel_rfl
def p53 : PFn :=
  ⟨48, [.t 4], .seq
    (.region [
      ⟨some 4, none, .mv true (.c (.lst 0 [] true))⟩])
    (.seq
     (.seq
      (.region [
        ⟨some 9, none, .mv false (.t 1)⟩,
        ⟨some 10, none, .bin .lss (.t 9) (.c (.int .i64 0))⟩])
      (.cond (.t 10)
       (.region [
         ⟨some 11, none, .bad⟩,
         ⟨none, none, .bad⟩])
       .skip))
     (.seq
      (.region [
        ⟨some 13, none, .mv false (.t 0)⟩,
        ⟨some 14, none, .len false (.t 13)⟩,
        ⟨some 15, none, .cvI .u64 (.t 14)⟩,
        ⟨some 16, none, .mv false (.t 1)⟩,
        ⟨some 17, none, .cvI .u64 (.t 16)⟩,
        ⟨some 18, none, .callF 67 [.t 15, .t 17] []⟩,
        ⟨some 12, none, .mv true (.t 18)⟩,
        ⟨some 19, none, .ext false (.t 12) 0⟩,
        ⟨some 20, none, .ext false (.t 12) 1⟩,
        ⟨some 5, none, .mv true (.t 19)⟩,
        ⟨some 6, none, .mv true (.t 20)⟩])
      (.seq
       (.seq
        (.region [
          ⟨some 21, none, .mv false (.t 5)⟩,
          ⟨some 22, none, .bin .gtr (.t 21) (.c (.int .u64 0))⟩,
          ⟨some 23, none, .mv false (.t 22)⟩,
          ⟨some 24, some (23, false), .mv false (.t 6)⟩,
          ⟨some 25, some (23, false), .bin .gtr (.t 24) (.c (.int .u64 9223372036854775807))⟩,
          ⟨some 26, none, .pick (.t 23) (.c (.bool true)) (.t 25)⟩])
        (.cond (.t 26)
         (.region [
           ⟨some 27, none, .bad⟩,
           ⟨none, none, .bad⟩])
         .skip))
       (.seq
        (.region [
          ⟨some 28, none, .mv false (.t 6)⟩,
          ⟨some 29, none, .cvI .i64 (.t 28)⟩,
          ⟨some 30, none, .mk 1 8 false [.int .i64 0] (.t 29) (.t 29) false⟩,
          ⟨some 7, none, .mv true (.t 30)⟩])
        (.seq
         (.region [
           ⟨some 31, none, .mv false (.t 7)⟩,
           ⟨some 32, none, .mv false (.t 0)⟩,
           ⟨some 33, none, .cpy 1 (.t 31) (.t 32)⟩,
           ⟨some 8, none, .mv true (.t 33)⟩])
         (.seq
          (.block 0
           (.loop
            (.seq
             (.seq
              (.region [
                ⟨some 34, none, .mv false (.t 8)⟩,
                ⟨some 35, none, .mv false (.t 7)⟩,
                ⟨some 36, none, .len false (.t 35)⟩,
                ⟨some 37, none, .bin .lss (.t 34) (.t 36)⟩])
              (.cond (.t 37)
               .skip
               (.exit 0)))
             (.block 1
              (.draw [
                ⟨some 38, none, .mv false (.t 8)⟩,
                ⟨some 39, none, .mv false (.t 7)⟩,
                ⟨some 40, none, .mv false (.t 8)⟩,
                ⟨some 41, none, .sli 1 (.t 39) (some (.t 40)) none none⟩,
                ⟨some 42, none, .mv false (.t 7)⟩,
                ⟨some 43, none, .mv false (.t 8)⟩,
                ⟨some 44, none, .sli 1 (.t 42) none (some (.t 43)) none⟩,
                ⟨some 45, none, .cpy 1 (.t 41) (.t 44)⟩,
                ⟨some 46, none, .bin .add (.t 38) (.t 45)⟩,
                ⟨some 8, none, .mv true (.t 46)⟩] [])))))
          (.seq
           (.region [
             ⟨some 47, none, .mv true (.t 7)⟩,
             ⟨some 4, none, .mv true (.t 47)⟩])
           .ret)))))))⟩
theorem t53 : compF Try.prog {} 53 = some p53 := by kernel_rfl
def p54 : PFn :=
  ⟨21, [.t 4], .seq
    (.region [
      ⟨some 4, none, .mv true (.c (.bool false))⟩])
    (.seq
     (.region [
       ⟨some 5, none, .mv false (.t 0)⟩,
       ⟨some 6, none, .nck (.t 5)⟩,
       ⟨some 7, none, .fad 0 (.t 6)⟩,
       ⟨some 8, none, .ld 1 false false (.t 7)⟩,
       ⟨some 9, none, .mv false (.t 8)⟩,
       ⟨some 10, some (9, true), .mv false (.t 1)⟩,
       ⟨some 11, some (9, true), .bin .geq (.t 10) (.c (.int .i64 0))⟩,
       ⟨some 12, none, .pick (.t 9) (.t 11) (.c (.bool false))⟩,
       ⟨some 13, none, .mv false (.t 12)⟩,
       ⟨some 14, some (13, true), .mv false (.t 1)⟩,
       ⟨some 15, some (13, true), .mv false (.t 0)⟩,
       ⟨some 16, some (13, true), .nck (.t 15)⟩,
       ⟨some 17, some (13, true), .fad 1 (.t 16)⟩,
       ⟨some 18, some (13, true), .ld 1 false false (.t 17)⟩,
       ⟨some 19, some (13, true), .bin .lss (.t 14) (.t 18)⟩,
       ⟨some 20, none, .pick (.t 13) (.t 19) (.c (.bool false))⟩,
       ⟨some 4, none, .mv true (.t 20)⟩])
     .ret)⟩
theorem t54 : compF Try.prog {} 54 = some p54 := by kernel_rfl
def p55 : PFn :=
  ⟨9, [.t 2], .seq
    (.region [
      ⟨some 2, none, .mv true (.c (.int .i64 0))⟩])
    (.seq
     (.region [
       ⟨some 3, none, .mv false (.t 0)⟩,
       ⟨some 4, none, .callF 68 [.t 3] []⟩,
       ⟨some 5, none, .bin .add (.t 4) (.c (.int .i64 7))⟩,
       ⟨some 6, none, .bin .sub (.t 5) (.c (.int .i64 1))⟩,
       ⟨some 7, none, .bin .quo (.t 6) (.c (.int .i64 7))⟩,
       ⟨some 8, none, .mm true (.c (.int .i64 1)) (.t 7)⟩,
       ⟨some 2, none, .mv true (.t 8)⟩])
     .ret)⟩
theorem t55 : compF Try.prog {} 55 = some p55 := by kernel_rfl
def p56 : PFn :=
  ⟨19, [.t 4, .t 5], .seq
    (.region [
      ⟨some 4, none, .mv true (.c (.int .u32 0))⟩,
      ⟨some 5, none, .mv true (.c (.int .i64 0))⟩])
    (.seq
     (.region [
       ⟨some 9, none, .mv false (.t 0)⟩,
       ⟨some 10, none, .mv false (.t 1)⟩,
       ⟨some 11, none, .callF 69 [.t 9, .c (.int .u32 4294967295), .t 10] []⟩,
       ⟨some 8, none, .mv true (.t 11)⟩,
       ⟨some 12, none, .ext false (.t 8) 0⟩,
       ⟨some 13, none, .ext false (.t 8) 1⟩,
       ⟨some 6, none, .mv true (.t 12)⟩,
       ⟨some 7, none, .mv true (.t 13)⟩])
     (.seq
      (.seq
       (.region [
         ⟨some 14, none, .mv false (.t 7)⟩,
         ⟨some 15, none, .bin .neq (.t 14) (.c (.int .i64 0))⟩])
       (.cond (.t 15)
        (.seq
         (.region [
           ⟨some 16, none, .mv true (.t 7)⟩,
           ⟨some 4, none, .mv true (.c (.int .u32 0))⟩,
           ⟨some 5, none, .mv true (.t 16)⟩])
         .ret)
        .skip))
      (.seq
       (.region [
         ⟨some 17, none, .mv false (.t 6)⟩,
         ⟨some 18, none, .un .xor (.t 17)⟩,
         ⟨some 4, none, .mv true (.t 18)⟩,
         ⟨some 5, none, .mv true (.c (.int .i64 0))⟩])
       .ret)))⟩
theorem t56 : compF Try.prog {} 56 = some p56 := by kernel_rfl
def p57 : PFn :=
  ⟨36, [.t 2], .seq
    (.region [
      ⟨some 2, none, .mv true (.c (.lst 0 [] true))⟩])
    (.seq
     (.region [
       ⟨some 3, none, .mv true (.c (.int .i64 0))⟩])
     (.seq
      (.seq
       (.region [
         ⟨some 9, none, .mv false (.t 0)⟩,
         ⟨some 10, none, .len false (.t 9)⟩,
         ⟨some 11, none, .mv false (.c (.int .i64 0))⟩])
       (.block 0
        (.loop
         (.seq
          (.region [
            ⟨some 12, none, .bin .lss (.t 11) (.t 10)⟩])
          (.seq
           (.cond (.t 12)
            .skip
            (.exit 0))
           (.seq
            (.block 1
             (.seq
              (.region [
                ⟨some 13, none, .iad 1 (.t 9) (.t 11)⟩,
                ⟨some 14, none, .ld 1 false false (.t 13)⟩,
                ⟨some 5, none, .mv true (.t 14)⟩])
              (.seq
               (.region [
                 ⟨some 15, none, .mv false (.t 3)⟩,
                 ⟨some 16, none, .mv false (.t 5)⟩,
                 ⟨some 17, none, .len false (.t 16)⟩,
                 ⟨some 18, none, .bin .add (.t 15) (.t 17)⟩,
                 ⟨some 3, none, .mv true (.t 18)⟩])
               (.seq
                (.region [
                  ⟨some 19, none, .mv false (.t 3)⟩,
                  ⟨some 20, none, .bin .lss (.t 19) (.c (.int .i64 0))⟩])
                (.cond (.t 20)
                 (.region [
                   ⟨some 21, none, .bad⟩,
                   ⟨none, none, .bad⟩])
                 .skip)))))
            (.region [
              ⟨some 22, none, .bin .add (.t 11) (.c (.int .i64 1))⟩,
              ⟨some 11, none, .mv false (.t 22)⟩])))))))
      (.seq
       (.region [
         ⟨some 23, none, .mv false (.t 3)⟩,
         ⟨some 24, none, .callF 70 [.c (.lst 0 [] true), .t 23] []⟩,
         ⟨some 6, none, .mv true (.t 24)⟩])
       (.seq
        (.seq
         (.region [
           ⟨some 25, none, .mv false (.t 0)⟩,
           ⟨some 26, none, .len false (.t 25)⟩,
           ⟨some 27, none, .mv false (.c (.int .i64 0))⟩])
         (.block 2
          (.loop
           (.seq
            (.region [
              ⟨some 28, none, .bin .lss (.t 27) (.t 26)⟩])
            (.seq
             (.cond (.t 28)
              .skip
              (.exit 2))
             (.seq
              (.block 3
               (.seq
                (.region [
                  ⟨some 29, none, .iad 1 (.t 25) (.t 27)⟩,
                  ⟨some 30, none, .ld 1 false false (.t 29)⟩,
                  ⟨some 8, none, .mv true (.t 30)⟩])
                (.region [
                  ⟨some 31, none, .mv true (.t 6)⟩,
                  ⟨some 32, none, .mv false (.t 8)⟩,
                  ⟨some 33, none, .app 1 1 (.t 31) (.t 32)⟩,
                  ⟨some 6, none, .mv true (.t 33)⟩])))
              (.region [
                ⟨some 34, none, .bin .add (.t 27) (.c (.int .i64 1))⟩,
                ⟨some 27, none, .mv false (.t 34)⟩])))))))
        (.seq
         (.region [
           ⟨some 35, none, .mv true (.t 6)⟩,
           ⟨some 2, none, .mv true (.t 35)⟩])
         .ret)))))⟩
theorem t57 : compF Try.prog {} 57 = some p57 := by kernel_rfl
def p58 : PFn :=
  ⟨15, [.t 2], .seq
    (.region [
      ⟨some 2, none, .mv true (.c (.lst 0 [] true))⟩])
    (.seq
     (.region [
       ⟨some 3, none, .mv false (.t 0)⟩,
       ⟨some 4, none, .cvI .u8 (.t 3)⟩,
       ⟨some 5, none, .mv false (.t 0)⟩,
       ⟨some 6, none, .bin .shr (.t 5) (.c (.int .u64 8))⟩,
       ⟨some 7, none, .cvI .u8 (.t 6)⟩,
       ⟨some 8, none, .mv false (.t 0)⟩,
       ⟨some 9, none, .bin .shr (.t 8) (.c (.int .u64 16))⟩,
       ⟨some 10, none, .cvI .u8 (.t 9)⟩,
       ⟨some 11, none, .mv false (.t 0)⟩,
       ⟨some 12, none, .bin .shr (.t 11) (.c (.int .u64 24))⟩,
       ⟨some 13, none, .cvI .u8 (.t 12)⟩,
       ⟨some 14, none, .bsl 1 4 false [.int .u8 0, .int .u8 0, .int .u8 0, .int .u8 0] [(0, .t 4), (1, .t 7), (2, .t 10), (3, .t 13)] false⟩,
       ⟨some 2, none, .mv true (.t 14)⟩])
     .ret)⟩
theorem t58 : compF Try.prog {} 58 = some p58 := by kernel_rfl
def p59 : PFn :=
  ⟨21, [.t 2], .seq
    (.region [
      ⟨some 2, none, .mv true (.c (.lst 0 [] true))⟩])
    (.seq
     (.region [
       ⟨some 4, none, .bsl 1 0 false [] [] false⟩,
       ⟨some 3, none, .mv true (.t 4)⟩])
     (.seq
      (.block 0
       (.loop
        (.seq
         (.seq
          (.region [
            ⟨some 5, none, .mv false (.t 0)⟩,
            ⟨some 6, none, .bin .geq (.t 5) (.c (.int .u64 128))⟩])
          (.cond (.t 6)
           .skip
           (.exit 0)))
         (.block 1
          (.seq
           (.region [
             ⟨some 7, none, .mv true (.t 3)⟩,
             ⟨some 8, none, .mv false (.t 0)⟩,
             ⟨some 9, none, .bin .rem (.t 8) (.c (.int .u64 128))⟩,
             ⟨some 10, none, .bin .add (.t 9) (.c (.int .u64 128))⟩,
             ⟨some 11, none, .cvI .u8 (.t 10)⟩,
             ⟨some 12, none, .bsl 1 1 false [.int .u8 0] [(0, .t 11)] false⟩,
             ⟨some 13, none, .app 1 1 (.t 7) (.t 12)⟩,
             ⟨some 3, none, .mv true (.t 13)⟩])
           (.region [
             ⟨some 14, none, .mv false (.t 0)⟩,
             ⟨some 15, none, .bin .quo (.t 14) (.c (.int .u64 128))⟩,
             ⟨some 0, none, .mv true (.t 15)⟩]))))))
      (.seq
       (.region [
         ⟨some 16, none, .mv true (.t 3)⟩,
         ⟨some 17, none, .mv false (.t 0)⟩,
         ⟨some 18, none, .cvI .u8 (.t 17)⟩,
         ⟨some 19, none, .bsl 1 1 false [.int .u8 0] [(0, .t 18)] false⟩,
         ⟨some 20, none, .app 1 1 (.t 16) (.t 19)⟩,
         ⟨some 2, none, .mv true (.t 20)⟩])
       .ret)))⟩
theorem t59 : compF Try.prog {} 59 = some p59 := by kernel_rfl
def p60 : PFn :=
  ⟨15, [.t 2], .seq
    (.region [
      ⟨some 2, none, .mv true (.c (.lst 0 [] true))⟩])
    (.seq
     (.region [
       ⟨some 3, none, .mv false (.t 0)⟩,
       ⟨some 4, none, .cvI .u8 (.t 3)⟩,
       ⟨some 5, none, .mv false (.t 0)⟩,
       ⟨some 6, none, .bin .quo (.t 5) (.c (.int .u32 256))⟩,
       ⟨some 7, none, .cvI .u8 (.t 6)⟩,
       ⟨some 8, none, .mv false (.t 0)⟩,
       ⟨some 9, none, .bin .quo (.t 8) (.c (.int .u32 65536))⟩,
       ⟨some 10, none, .cvI .u8 (.t 9)⟩,
       ⟨some 11, none, .mv false (.t 0)⟩,
       ⟨some 12, none, .bin .quo (.t 11) (.c (.int .u32 16777216))⟩,
       ⟨some 13, none, .cvI .u8 (.t 12)⟩,
       ⟨some 14, none, .bsl 1 4 false [.int .u8 0, .int .u8 0, .int .u8 0, .int .u8 0] [(0, .t 4), (1, .t 7), (2, .t 10), (3, .t 13)] false⟩,
       ⟨some 2, none, .mv true (.t 14)⟩])
     .ret)⟩
theorem t60 : compF Try.prog {} 60 = some p60 := by kernel_rfl
def p61 : PFn :=
  ⟨26, [.t 2], .seq
    (.region [
      ⟨some 2, none, .mv true (.c (.int .u32 0))⟩])
    (.seq
     (.region [
       ⟨some 3, none, .mv true (.c (.int .u32 4294967295))⟩])
     (.seq
      (.seq
       (.region [
         ⟨some 4, none, .mv true (.c (.int .i64 0))⟩])
       (.block 0
        (.loop
         (.seq
          (.seq
           (.region [
             ⟨some 5, none, .mv false (.t 4)⟩,
             ⟨some 6, none, .mv false (.t 0)⟩,
             ⟨some 7, none, .len false (.t 6)⟩,
             ⟨some 8, none, .bin .lss (.t 5) (.t 7)⟩])
           (.cond (.t 8)
            .skip
            (.exit 0)))
          (.seq
           (.block 1
            (.region [
              ⟨some 11, none, .mv false (.t 3)⟩,
              ⟨some 12, none, .mv false (.t 0)⟩,
              ⟨some 13, none, .mv false (.t 4)⟩,
              ⟨some 14, none, .iad 1 (.t 12) (.t 13)⟩,
              ⟨some 15, none, .ld 1 false false (.t 14)⟩,
              ⟨some 16, none, .cvI .u32 (.t 15)⟩,
              ⟨some 17, none, .bin .xor (.t 11) (.t 16)⟩,
              ⟨some 18, none, .bin .rem (.t 17) (.c (.int .u32 256))⟩,
              ⟨some 19, none, .cvI .i64 (.t 18)⟩,
              ⟨some 20, none, .callF 71 [.t 19] []⟩,
              ⟨some 21, none, .mv false (.t 3)⟩,
              ⟨some 22, none, .bin .quo (.t 21) (.c (.int .u32 256))⟩,
              ⟨some 23, none, .bin .xor (.t 20) (.t 22)⟩,
              ⟨some 3, none, .mv true (.t 23)⟩]))
           (.region [
             ⟨some 9, none, .mv false (.t 4)⟩,
             ⟨some 10, none, .bin .add (.t 9) (.c (.int .i64 1))⟩,
             ⟨some 4, none, .mv true (.t 10)⟩]))))))
      (.seq
       (.region [
         ⟨some 24, none, .mv false (.t 3)⟩,
         ⟨some 25, none, .bin .xor (.t 24) (.c (.int .u32 4294967295))⟩,
         ⟨some 2, none, .mv true (.t 25)⟩])
       .ret)))⟩
theorem t61 : compF Try.prog {} 61 = some p61 := by kernel_rfl
def p62 : PFn :=
  ⟨61, [.t 2, .t 3, .t 4], .seq
    (.region [
      ⟨some 2, none, .mv true (.c (.int .u64 0))⟩,
      ⟨some 3, none, .mv true (.c (.lst 0 [] true))⟩,
      ⟨some 4, none, .mv true (.c (.int .i64 0))⟩])
    (.seq
     (.region [
       ⟨some 5, none, .mv true (.c (.int .i64 0))⟩])
     (.seq
      (.block 0
       (.loop
        (.seq
         (.seq
          (.region [
            ⟨some 8, none, .mv false (.t 5)⟩,
            ⟨some 9, none, .mv false (.t 0)⟩,
            ⟨some 10, none, .len false (.t 9)⟩,
            ⟨some 11, none, .bin .lss (.t 8) (.t 10)⟩,
            ⟨some 12, none, .mv false (.t 11)⟩,
            ⟨some 13, some (12, true), .mv false (.t 5)⟩,
            ⟨some 14, some (12, true), .bin .lss (.t 13) (.c (.int .i64 10))⟩,
            ⟨some 15, none, .pick (.t 12) (.t 14) (.c (.bool false))⟩,
            ⟨some 16, none, .mv false (.t 15)⟩,
            ⟨some 17, some (16, true), .mv false (.t 0)⟩,
            ⟨some 18, some (16, true), .mv false (.t 5)⟩,
            ⟨some 19, some (16, true), .iad 1 (.t 17) (.t 18)⟩,
            ⟨some 20, some (16, true), .ld 1 false false (.t 19)⟩,
            ⟨some 21, some (16, true), .bin .geq (.t 20) (.c (.int .u8 128))⟩,
            ⟨some 22, none, .pick (.t 16) (.t 21) (.c (.bool false))⟩])
          (.cond (.t 22)
           .skip
           (.exit 0)))
         (.block 1
          (.region [
            ⟨some 23, none, .mv false (.t 5)⟩,
            ⟨some 24, none, .bin .add (.t 23) (.c (.int .i64 1))⟩,
            ⟨some 5, none, .mv true (.t 24)⟩])))))
      (.seq
       (.seq
        (.region [
          ⟨some 25, none, .mv false (.t 5)⟩,
          ⟨some 26, none, .bin .eql (.t 25) (.c (.int .i64 10))⟩])
        (.cond (.t 26)
         (.seq
          (.region [
            ⟨some 2, none, .mv true (.c (.int .u64 0))⟩,
            ⟨some 3, none, .mv true (.c (.lst 0 [] true))⟩,
            ⟨some 4, none, .mv true (.c (.int .i64 3))⟩])
          .ret)
         .skip))
       (.seq
        (.seq
         (.region [
           ⟨some 27, none, .mv false (.t 5)⟩,
           ⟨some 28, none, .mv false (.t 0)⟩,
           ⟨some 29, none, .len false (.t 28)⟩,
           ⟨some 30, none, .bin .eql (.t 27) (.t 29)⟩])
         (.cond (.t 30)
          (.seq
           (.region [
             ⟨some 2, none, .mv true (.c (.int .u64 0))⟩,
             ⟨some 3, none, .mv true (.c (.lst 0 [] true))⟩,
             ⟨some 4, none, .mv true (.c (.int .i64 2))⟩])
           .ret)
          .skip))
        (.seq
         (.region [
           ⟨some 6, none, .mv true (.c (.int .u64 0))⟩])
         (.seq
          (.seq
           (.region [
             ⟨some 31, none, .mv true (.t 5)⟩,
             ⟨some 7, none, .mv true (.t 31)⟩])
           (.block 2
            (.loop
             (.seq
              (.seq
               (.region [
                 ⟨some 32, none, .mv false (.t 7)⟩,
                 ⟨some 33, none, .bin .geq (.t 32) (.c (.int .i64 0))⟩])
               (.cond (.t 33)
                .skip
                (.exit 2)))
              (.seq
               (.block 3
                (.region [
                  ⟨some 36, none, .mv false (.t 6)⟩,
                  ⟨some 37, none, .bin .mul (.t 36) (.c (.int .u64 128))⟩,
                  ⟨some 38, none, .mv false (.t 0)⟩,
                  ⟨some 39, none, .mv false (.t 7)⟩,
                  ⟨some 40, none, .iad 1 (.t 38) (.t 39)⟩,
                  ⟨some 41, none, .ld 1 false false (.t 40)⟩,
                  ⟨some 42, none, .bin .rem (.t 41) (.c (.int .u8 128))⟩,
                  ⟨some 43, none, .cvI .u64 (.t 42)⟩,
                  ⟨some 44, none, .bin .add (.t 37) (.t 43)⟩,
                  ⟨some 6, none, .mv true (.t 44)⟩]))
               (.region [
                 ⟨some 34, none, .mv false (.t 7)⟩,
                 ⟨some 35, none, .bin .sub (.t 34) (.c (.int .i64 1))⟩,
                 ⟨some 7, none, .mv true (.t 35)⟩]))))))
          (.seq
           (.seq
            (.draw [
              ⟨some 45, none, .mv false (.t 6)⟩,
              ⟨some 46, none, .callF 59 [.t 45] []⟩,
              ⟨some 47, none, .cvS (.t 46)⟩,
              ⟨some 48, none, .mv false (.t 0)⟩,
              ⟨some 49, none, .mv false (.t 5)⟩,
              ⟨some 50, none, .bin .add (.t 49) (.c (.int .i64 1))⟩,
              ⟨some 51, none, .sli 1 (.t 48) none (some (.t 50)) none⟩,
              ⟨some 52, none, .cvS (.t 51)⟩,
              ⟨some 53, none, .bin .neq (.t 47) (.t 52)⟩] [])
            (.cond (.t 53)
             (.seq
              (.region [
                ⟨some 2, none, .mv true (.c (.int .u64 0))⟩,
                ⟨some 3, none, .mv true (.c (.lst 0 [] true))⟩,
                ⟨some 4, none, .mv true (.c (.int .i64 3))⟩])
              .ret)
             .skip))
           (.seq
            (.region [
              ⟨some 54, none, .mv true (.t 6)⟩,
              ⟨some 55, none, .bsl 1 0 false [] [] false⟩,
              ⟨some 56, none, .mv false (.t 0)⟩,
              ⟨some 57, none, .mv false (.t 5)⟩,
              ⟨some 58, none, .bin .add (.t 57) (.c (.int .i64 1))⟩,
              ⟨some 59, none, .sli 1 (.t 56) (some (.t 58)) none none⟩,
              ⟨some 60, none, .app 1 1 (.t 55) (.t 59)⟩,
              ⟨some 2, none, .mv true (.t 54)⟩,
              ⟨some 3, none, .mv true (.t 60)⟩,
              ⟨some 4, none, .mv true (.c (.int .i64 0))⟩])
            .ret))))))))⟩
theorem t62 : compF Try.prog {} 62 = some p62 := by kernel_rfl
def p63 : PFn :=
  ⟨26, [.t 2, .t 3], .seq
    (.region [
      ⟨some 2, none, .mv true (.c (.lst 0 [] true))⟩,
      ⟨some 3, none, .mv true (.c (.int .i64 0))⟩])
    (.seq
     (.region [
       ⟨some 5, none, .mv false (.t 0)⟩,
       ⟨some 6, none, .len false (.t 5)⟩,
       ⟨some 7, none, .bin .sub (.t 6) (.c (.int .i64 4))⟩,
       ⟨some 4, none, .mv true (.t 7)⟩])
     (.seq
      (.seq
       (.region [
         ⟨some 8, none, .mv false (.t 4)⟩,
         ⟨some 9, none, .bin .lss (.t 8) (.c (.int .i64 0))⟩])
       (.cond (.t 9)
        (.seq
         (.region [
           ⟨some 2, none, .mv true (.c (.lst 0 [] true))⟩,
           ⟨some 3, none, .mv true (.c (.int .i64 2))⟩])
         .ret)
        .skip))
      (.seq
       (.seq
        (.draw [
          ⟨some 10, none, .mv false (.t 0)⟩,
          ⟨some 11, none, .mv false (.t 4)⟩,
          ⟨some 12, none, .sli 1 (.t 10) none (some (.t 11)) none⟩,
          ⟨some 13, none, .callF 61 [.t 12] []⟩,
          ⟨some 14, none, .callF 60 [.t 13] []⟩,
          ⟨some 15, none, .cvS (.t 14)⟩,
          ⟨some 16, none, .mv false (.t 0)⟩,
          ⟨some 17, none, .mv false (.t 4)⟩,
          ⟨some 18, none, .sli 1 (.t 16) (some (.t 17)) none none⟩,
          ⟨some 19, none, .cvS (.t 18)⟩,
          ⟨some 20, none, .bin .neq (.t 15) (.t 19)⟩] [])
        (.cond (.t 20)
         (.seq
          (.region [
            ⟨some 2, none, .mv true (.c (.lst 0 [] true))⟩,
            ⟨some 3, none, .mv true (.c (.int .i64 4))⟩])
          .ret)
         .skip))
       (.seq
        (.region [
          ⟨some 21, none, .bsl 1 0 false [] [] false⟩,
          ⟨some 22, none, .mv false (.t 0)⟩,
          ⟨some 23, none, .mv false (.t 4)⟩,
          ⟨some 24, none, .sli 1 (.t 22) none (some (.t 23)) none⟩,
          ⟨some 25, none, .app 1 1 (.t 21) (.t 24)⟩,
          ⟨some 2, none, .mv true (.t 25)⟩,
          ⟨some 3, none, .mv true (.c (.int .i64 0))⟩])
        .ret))))⟩
theorem t63 : compF Try.prog {} 63 = some p63 := by kernel_rfl
def p64 : PFn :=
  ⟨19, [.t 4], .seq
    (.region [
      ⟨some 4, none, .mv true (.c (.int .i64 0))⟩])
    (.seq
     (.seq
      (.region [
        ⟨some 6, none, .mv false (.t 0)⟩,
        ⟨some 7, none, .len false (.t 6)⟩,
        ⟨some 8, none, .mv false (.c (.int .i64 0))⟩])
      (.block 0
       (.loop
        (.seq
         (.region [
           ⟨some 9, none, .bin .lss (.t 8) (.t 7)⟩])
         (.seq
          (.cond (.t 9)
           .skip
           (.exit 0))
          (.seq
           (.block 1
            (.seq
             (.region [
               ⟨some 10, none, .mv true (.t 8)⟩,
               ⟨some 5, none, .mv true (.t 10)⟩])
             (.seq
              (.region [
                ⟨some 11, none, .mv false (.t 1)⟩,
                ⟨some 12, none, .mv false (.t 0)⟩,
                ⟨some 13, none, .mv false (.t 5)⟩,
                ⟨some 14, none, .iad 1 (.t 12) (.t 13)⟩,
                ⟨some 15, none, .ld 1 false false (.t 14)⟩,
                ⟨some 16, none, .callV (.t 11) [.t 15]⟩])
              (.cond (.t 16)
               (.seq
                (.region [
                  ⟨some 17, none, .mv true (.t 5)⟩,
                  ⟨some 4, none, .mv true (.t 17)⟩])
                .ret)
               .skip))))
           (.region [
             ⟨some 18, none, .bin .add (.t 8) (.c (.int .i64 1))⟩,
             ⟨some 8, none, .mv false (.t 18)⟩])))))))
     (.seq
      (.region [
        ⟨some 4, none, .mv true (.c (.int .i64 (-1)))⟩])
      .ret))⟩
theorem t64 : compF Try.prog {} 64 = some p64 := by kernel_rfl
def p65 : PFn :=
  ⟨8, [.t 2], .seq
    (.region [
      ⟨some 2, none, .mv true (.c (.lst 0 [] true))⟩])
    (.seq
     (.seq
      (.region [
        ⟨some 3, none, .mv false (.t 0)⟩,
        ⟨some 4, none, .eqN false (.t 3)⟩])
      (.cond (.t 4)
       (.seq
        (.region [
          ⟨some 2, none, .mv true (.c (.lst 0 [] true))⟩])
        .ret)
       .skip))
     (.seq
      (.region [
        ⟨some 5, none, .bsl 1 0 false [] [] false⟩,
        ⟨some 6, none, .mv false (.t 0)⟩,
        ⟨some 7, none, .app 1 1 (.t 5) (.t 6)⟩,
        ⟨some 2, none, .mv true (.t 7)⟩])
      .ret))⟩
theorem t65 : compF Try.prog {} 65 = some p65 := by kernel_rfl
def p66 : PFn :=
  ⟨10, [.t 4], .seq
    (.region [
      ⟨some 4, none, .mv true (.c (.bool false))⟩])
    (.seq
     (.region [
       ⟨some 5, none, .mv false (.t 0)⟩,
       ⟨some 6, none, .cvS (.t 5)⟩,
       ⟨some 7, none, .mv false (.t 1)⟩,
       ⟨some 8, none, .cvS (.t 7)⟩,
       ⟨some 9, none, .bin .eql (.t 6) (.t 8)⟩,
       ⟨some 4, none, .mv true (.t 9)⟩])
     .ret)⟩
theorem t66 : compF Try.prog {} 66 = some p66 := by kernel_rfl
def p67 : PFn :=
  ⟨30, [.t 4, .t 5], .seq
    (.region [
      ⟨some 4, none, .mv true (.c (.int .u64 0))⟩,
      ⟨some 5, none, .mv true (.c (.int .u64 0))⟩])
    (.seq
     (.cond (.c (.bool false))
      (.seq
       (.region [
         ⟨some 11, none, .mv false (.t 0)⟩,
         ⟨some 12, none, .cvI .u32 (.t 11)⟩,
         ⟨some 13, none, .mv false (.t 1)⟩,
         ⟨some 14, none, .cvI .u32 (.t 13)⟩,
         ⟨some 15, none, .callF 72 [.t 12, .t 14] []⟩,
         ⟨some 10, none, .mv true (.t 15)⟩,
         ⟨some 16, none, .ext false (.t 10) 0⟩,
         ⟨some 17, none, .ext false (.t 10) 1⟩,
         ⟨some 6, none, .mv true (.t 16)⟩,
         ⟨some 7, none, .mv true (.t 17)⟩])
       (.seq
        (.region [
          ⟨some 18, none, .mv false (.t 6)⟩,
          ⟨some 19, none, .cvI .u64 (.t 18)⟩,
          ⟨some 20, none, .mv false (.t 7)⟩,
          ⟨some 21, none, .cvI .u64 (.t 20)⟩,
          ⟨some 4, none, .mv true (.t 19)⟩,
          ⟨some 5, none, .mv true (.t 21)⟩])
        .ret))
      .skip)
     (.seq
      (.region [
        ⟨some 23, none, .mv false (.t 0)⟩,
        ⟨some 24, none, .mv false (.t 1)⟩,
        ⟨some 25, none, .callF 73 [.t 23, .t 24] []⟩,
        ⟨some 22, none, .mv true (.t 25)⟩,
        ⟨some 26, none, .ext false (.t 22) 0⟩,
        ⟨some 27, none, .ext false (.t 22) 1⟩,
        ⟨some 8, none, .mv true (.t 26)⟩,
        ⟨some 9, none, .mv true (.t 27)⟩])
      (.seq
       (.region [
         ⟨some 28, none, .mv true (.t 8)⟩,
         ⟨some 29, none, .mv true (.t 9)⟩,
         ⟨some 4, none, .mv true (.t 28)⟩,
         ⟨some 5, none, .mv true (.t 29)⟩])
       .ret)))⟩
theorem t67 : compF Try.prog {} 67 = some p67 := by kernel_rfl
def p68 : PFn :=
  ⟨25, [.t 2], .seq
    (.region [
      ⟨some 2, none, .mv true (.c (.int .i64 0))⟩])
    (.seq
     (.seq
      (.region [
        ⟨some 3, none, .mv false (.t 0)⟩,
        ⟨some 4, none, .bin .geq (.t 3) (.c (.int .u64 4294967296))⟩])
      (.cond (.t 4)
       (.seq
        (.region [
          ⟨some 5, none, .mv false (.t 0)⟩,
          ⟨some 6, none, .bin .shr (.t 5) (.c (.int .u64 32))⟩,
          ⟨some 0, none, .mv true (.t 6)⟩])
        (.region [
          ⟨some 2, none, .mv true (.c (.int .i64 32))⟩]))
       .skip))
     (.seq
      (.seq
       (.region [
         ⟨some 7, none, .mv false (.t 0)⟩,
         ⟨some 8, none, .bin .geq (.t 7) (.c (.int .u64 65536))⟩])
       (.cond (.t 8)
        (.seq
         (.region [
           ⟨some 9, none, .mv false (.t 0)⟩,
           ⟨some 10, none, .bin .shr (.t 9) (.c (.int .u64 16))⟩,
           ⟨some 0, none, .mv true (.t 10)⟩])
         (.region [
           ⟨some 11, none, .mv false (.t 2)⟩,
           ⟨some 12, none, .bin .add (.t 11) (.c (.int .i64 16))⟩,
           ⟨some 2, none, .mv true (.t 12)⟩]))
        .skip))
      (.seq
       (.seq
        (.region [
          ⟨some 13, none, .mv false (.t 0)⟩,
          ⟨some 14, none, .bin .geq (.t 13) (.c (.int .u64 256))⟩])
        (.cond (.t 14)
         (.seq
          (.region [
            ⟨some 15, none, .mv false (.t 0)⟩,
            ⟨some 16, none, .bin .shr (.t 15) (.c (.int .u64 8))⟩,
            ⟨some 0, none, .mv true (.t 16)⟩])
          (.region [
            ⟨some 17, none, .mv false (.t 2)⟩,
            ⟨some 18, none, .bin .add (.t 17) (.c (.int .i64 8))⟩,
            ⟨some 2, none, .mv true (.t 18)⟩]))
         .skip))
       (.seq
        (.region [
          ⟨some 19, none, .mv false (.t 2)⟩,
          ⟨some 20, none, .mv false (.t 0)⟩,
          ⟨some 21, none, .cvI .u8 (.t 20)⟩,
          ⟨some 22, none, .idx (.c (.str lenL)) (.t 21)⟩,
          ⟨some 23, none, .cvI .i64 (.t 22)⟩,
          ⟨some 24, none, .bin .add (.t 19) (.t 23)⟩,
          ⟨some 2, none, .mv true (.t 24)⟩])
        .ret))))⟩
theorem t68 : compF Try.prog {} 68 = some p68 := by kernel_rfl
def p69 : PFn :=
  ⟨31, [.t 6, .t 7], .seq
    (.region [
      ⟨some 6, none, .mv true (.c (.int .u32 0))⟩,
      ⟨some 7, none, .mv true (.c (.int .i64 0))⟩])
    (.seq
     (.seq
      (.region [
        ⟨some 10, none, .mv false (.t 0)⟩,
        ⟨some 11, none, .len false (.t 10)⟩,
        ⟨some 12, none, .bin .neq (.t 11) (.c (.int .i64 256))⟩])
      (.cond (.t 12)
       (.seq
        (.region [
          ⟨some 6, none, .mv true (.c (.int .u32 0))⟩,
          ⟨some 7, none, .mv true (.c (.int .i64 1))⟩])
        .ret)
       .skip))
     (.seq
      (.seq
       (.region [
         ⟨some 13, none, .mv false (.t 2)⟩,
         ⟨some 14, none, .len false (.t 13)⟩,
         ⟨some 15, none, .mv false (.c (.int .i64 0))⟩])
       (.block 0
        (.loop
         (.seq
          (.region [
            ⟨some 16, none, .bin .lss (.t 15) (.t 14)⟩])
          (.seq
           (.cond (.t 16)
            .skip
            (.exit 0))
           (.seq
            (.block 1
             (.seq
              (.region [
                ⟨some 17, none, .iad 1 (.t 13) (.t 15)⟩,
                ⟨some 18, none, .ld 1 false false (.t 17)⟩,
                ⟨some 9, none, .mv true (.t 18)⟩])
              (.region [
                ⟨some 19, none, .mv false (.t 0)⟩,
                ⟨some 20, none, .mv false (.t 1)⟩,
                ⟨some 21, none, .cvI .u8 (.t 20)⟩,
                ⟨some 22, none, .mv false (.t 9)⟩,
                ⟨some 23, none, .bin .xor (.t 21) (.t 22)⟩,
                ⟨some 24, none, .iad 1 (.t 19) (.t 23)⟩,
                ⟨some 25, none, .ld 1 false false (.t 24)⟩,
                ⟨some 26, none, .mv false (.t 1)⟩,
                ⟨some 27, none, .bin .shr (.t 26) (.c (.int .u64 8))⟩,
                ⟨some 28, none, .bin .xor (.t 25) (.t 27)⟩,
                ⟨some 1, none, .mv true (.t 28)⟩])))
            (.region [
              ⟨some 29, none, .bin .add (.t 15) (.c (.int .i64 1))⟩,
              ⟨some 15, none, .mv false (.t 29)⟩])))))))
      (.seq
       (.region [
         ⟨some 30, none, .mv true (.t 1)⟩,
         ⟨some 6, none, .mv true (.t 30)⟩,
         ⟨some 7, none, .mv true (.c (.int .i64 0))⟩])
       .ret)))⟩
theorem t69 : compF Try.prog {} 69 = some p69 := by kernel_rfl
def p70 : PFn :=
  ⟨27, [.t 4], .seq
    (.region [
      ⟨some 4, none, .mv true (.c (.lst 0 [] true))⟩])
    (.seq
     (.seq
      (.region [
        ⟨some 5, none, .mv false (.t 1)⟩,
        ⟨some 6, none, .bin .lss (.t 5) (.c (.int .i64 0))⟩])
      (.cond (.t 6)
       (.region [
         ⟨some 7, none, .bad⟩,
         ⟨none, none, .bad⟩])
       .skip))
     (.seq
      (.seq
       (.region [
         ⟨some 8, none, .mv false (.t 1)⟩,
         ⟨some 9, none, .mv false (.t 0)⟩,
         ⟨some 10, none, .cap (.t 9)⟩,
         ⟨some 11, none, .mv false (.t 0)⟩,
         ⟨some 12, none, .len false (.t 11)⟩,
         ⟨some 13, none, .bin .sub (.t 10) (.t 12)⟩,
         ⟨some 14, none, .bin .sub (.t 8) (.t 13)⟩,
         ⟨some 1, none, .mv true (.t 14)⟩])
       (.seq
        (.region [
          ⟨some 15, none, .mv false (.t 1)⟩,
          ⟨some 16, none, .bin .gtr (.t 15) (.c (.int .i64 0))⟩])
        (.cond (.t 16)
         (.region [
           ⟨some 17, none, .mv false (.t 0)⟩,
           ⟨some 18, none, .mv false (.t 0)⟩,
           ⟨some 19, none, .cap (.t 18)⟩,
           ⟨some 20, none, .sli 1 (.t 17) none (some (.t 19)) none⟩,
           ⟨some 21, none, .mv false (.t 1)⟩,
           ⟨some 22, none, .bad⟩,
           ⟨some 23, none, .mv false (.t 0)⟩,
           ⟨some 24, none, .len false (.t 23)⟩,
           ⟨some 25, none, .sli 1 (.t 22) none (some (.t 24)) none⟩,
           ⟨some 0, none, .mv true (.t 25)⟩])
         .skip)))
      (.seq
       (.region [
         ⟨some 26, none, .mv true (.t 0)⟩,
         ⟨some 4, none, .mv true (.t 26)⟩])
       .ret)))⟩
theorem t70 : compF Try.prog {} 70 = some p70 := by kernel_rfl
def p71 : PFn :=
  ⟨21, [.t 2], .seq
    (.region [
      ⟨some 2, none, .mv true (.c (.int .u32 0))⟩])
    (.seq
     (.region [
       ⟨some 6, none, .mv false (.t 0)⟩,
       ⟨some 7, none, .cvI .u32 (.t 6)⟩,
       ⟨some 3, none, .mv true (.t 7)⟩])
     (.seq
      (.seq
       (.region [
         ⟨some 4, none, .mv true (.c (.int .i64 0))⟩])
       (.block 0
        (.loop
         (.seq
          (.seq
           (.region [
             ⟨some 8, none, .mv false (.t 4)⟩,
             ⟨some 9, none, .bin .lss (.t 8) (.c (.int .i64 8))⟩])
           (.cond (.t 9)
            .skip
            (.exit 0)))
          (.seq
           (.block 1
            (.seq
             (.region [
               ⟨some 12, none, .mv false (.t 3)⟩,
               ⟨some 13, none, .bin .rem (.t 12) (.c (.int .u32 2))⟩,
               ⟨some 14, none, .bin .eql (.t 13) (.c (.int .u32 1))⟩,
               ⟨some 5, none, .mv true (.t 14)⟩])
             (.seq
              (.region [
                ⟨some 15, none, .mv false (.t 3)⟩,
                ⟨some 16, none, .bin .quo (.t 15) (.c (.int .u32 2))⟩,
                ⟨some 3, none, .mv true (.t 16)⟩])
              (.seq
               (.region [
                 ⟨some 17, none, .mv false (.t 5)⟩])
               (.cond (.t 17)
                (.region [
                  ⟨some 18, none, .mv false (.t 3)⟩,
                  ⟨some 19, none, .bin .xor (.t 18) (.c (.int .u32 3988292384))⟩,
                  ⟨some 3, none, .mv true (.t 19)⟩])
                .skip)))))
           (.region [
             ⟨some 10, none, .mv false (.t 4)⟩,
             ⟨some 11, none, .bin .add (.t 10) (.c (.int .i64 1))⟩,
             ⟨some 4, none, .mv true (.t 11)⟩]))))))
      (.seq
       (.region [
         ⟨some 20, none, .mv true (.t 3)⟩,
         ⟨some 2, none, .mv true (.t 20)⟩])
       .ret)))⟩
theorem t71 : compF Try.prog {} 71 = some p71 := by kernel_rfl
def p72 : PFn :=
  ⟨17, [.t 4, .t 5], .seq
    (.region [
      ⟨some 4, none, .mv true (.c (.int .u32 0))⟩,
      ⟨some 5, none, .mv true (.c (.int .u32 0))⟩])
    (.seq
     (.region [
       ⟨some 7, none, .mv false (.t 0)⟩,
       ⟨some 8, none, .cvI .u64 (.t 7)⟩,
       ⟨some 9, none, .mv false (.t 1)⟩,
       ⟨some 10, none, .cvI .u64 (.t 9)⟩,
       ⟨some 11, none, .bin .mul (.t 8) (.t 10)⟩,
       ⟨some 6, none, .mv true (.t 11)⟩])
     (.seq
      (.region [
        ⟨some 12, none, .mv false (.t 6)⟩,
        ⟨some 13, none, .bin .shr (.t 12) (.c (.int .u64 32))⟩,
        ⟨some 14, none, .cvI .u32 (.t 13)⟩,
        ⟨some 15, none, .mv false (.t 6)⟩,
        ⟨some 16, none, .cvI .u32 (.t 15)⟩,
        ⟨some 4, none, .mv true (.t 14)⟩,
        ⟨some 5, none, .mv true (.t 16)⟩])
      .ret))⟩
theorem t72 : compF Try.prog {} 72 = some p72 := by kernel_rfl
def p73 : PFn :=
  ⟨51, [.t 4, .t 5], .seq
    (.region [
      ⟨some 4, none, .mv true (.c (.int .u64 0))⟩,
      ⟨some 5, none, .mv true (.c (.int .u64 0))⟩])
    (.seq
     (.region [
       ⟨some 14, none, .mv false (.t 0)⟩,
       ⟨some 15, none, .bin .and (.t 14) (.c (.int .u64 4294967295))⟩,
       ⟨some 6, none, .mv true (.t 15)⟩])
     (.seq
      (.region [
        ⟨some 16, none, .mv false (.t 0)⟩,
        ⟨some 17, none, .bin .shr (.t 16) (.c (.int .u64 32))⟩,
        ⟨some 7, none, .mv true (.t 17)⟩])
      (.seq
       (.region [
         ⟨some 18, none, .mv false (.t 1)⟩,
         ⟨some 19, none, .bin .and (.t 18) (.c (.int .u64 4294967295))⟩,
         ⟨some 8, none, .mv true (.t 19)⟩])
       (.seq
        (.region [
          ⟨some 20, none, .mv false (.t 1)⟩,
          ⟨some 21, none, .bin .shr (.t 20) (.c (.int .u64 32))⟩,
          ⟨some 9, none, .mv true (.t 21)⟩])
        (.seq
         (.region [
           ⟨some 22, none, .mv false (.t 6)⟩,
           ⟨some 23, none, .mv false (.t 8)⟩,
           ⟨some 24, none, .bin .mul (.t 22) (.t 23)⟩,
           ⟨some 10, none, .mv true (.t 24)⟩])
         (.seq
          (.region [
            ⟨some 25, none, .mv false (.t 7)⟩,
            ⟨some 26, none, .mv false (.t 8)⟩,
            ⟨some 27, none, .bin .mul (.t 25) (.t 26)⟩,
            ⟨some 28, none, .mv false (.t 10)⟩,
            ⟨some 29, none, .bin .shr (.t 28) (.c (.int .u64 32))⟩,
            ⟨some 30, none, .bin .add (.t 27) (.t 29)⟩,
            ⟨some 11, none, .mv true (.t 30)⟩])
          (.seq
           (.region [
             ⟨some 31, none, .mv false (.t 11)⟩,
             ⟨some 32, none, .bin .and (.t 31) (.c (.int .u64 4294967295))⟩,
             ⟨some 12, none, .mv true (.t 32)⟩])
           (.seq
            (.region [
              ⟨some 33, none, .mv false (.t 11)⟩,
              ⟨some 34, none, .bin .shr (.t 33) (.c (.int .u64 32))⟩,
              ⟨some 13, none, .mv true (.t 34)⟩])
            (.seq
             (.region [
               ⟨some 35, none, .mv false (.t 12)⟩,
               ⟨some 36, none, .mv false (.t 6)⟩,
               ⟨some 37, none, .mv false (.t 9)⟩,
               ⟨some 38, none, .bin .mul (.t 36) (.t 37)⟩,
               ⟨some 39, none, .bin .add (.t 35) (.t 38)⟩,
               ⟨some 12, none, .mv true (.t 39)⟩])
             (.seq
              (.region [
                ⟨some 40, none, .mv false (.t 7)⟩,
                ⟨some 41, none, .mv false (.t 9)⟩,
                ⟨some 42, none, .bin .mul (.t 40) (.t 41)⟩,
                ⟨some 43, none, .mv false (.t 13)⟩,
                ⟨some 44, none, .bin .add (.t 42) (.t 43)⟩,
                ⟨some 45, none, .mv false (.t 12)⟩,
                ⟨some 46, none, .bin .shr (.t 45) (.c (.int .u64 32))⟩,
                ⟨some 47, none, .bin .add (.t 44) (.t 46)⟩,
                ⟨some 4, none, .mv true (.t 47)⟩])
              (.seq
               (.region [
                 ⟨some 48, none, .mv false (.t 0)⟩,
                 ⟨some 49, none, .mv false (.t 1)⟩,
                 ⟨some 50, none, .bin .mul (.t 48) (.t 49)⟩,
                 ⟨some 5, none, .mv true (.t 50)⟩])
               .ret)))))))))))⟩
theorem t73 : compF Try.prog {} 73 = some p73 := by kernel_rfl
def p27r : PFn :=
  ⟨23, [.t 0], .seq
    (.region [
      ⟨some 0, none, .mv true (.c (.lst 0 [] true))⟩])
    (.seq
     (.region [
       ⟨some 4, none, .mk 1 4 false [.int .u32 0] (.c (.int .i64 256)) (.c (.int .i64 256)) true⟩,
       ⟨some 1, none, .mv true (.t 4)⟩])
     (.seq
      (.seq
       (.region [
         ⟨some 5, none, .mv false (.t 1)⟩,
         ⟨some 6, none, .len false (.t 5)⟩,
         ⟨some 7, none, .mv false (.c (.int .i64 0))⟩])
       (.block 0
        (.loop
         (.seq
          (.region [
            ⟨some 8, none, .bin .lss (.t 7) (.t 6)⟩])
          (.seq
           (.cond (.t 8)
            .skip
            (.exit 0))
           (.seq
            (.block 1
             (.seq
              (.region [
                ⟨some 9, none, .mv true (.t 7)⟩,
                ⟨some 2, none, .mv true (.t 9)⟩])
              (.seq
               (.region [
                 ⟨some 10, none, .mv false (.t 2)⟩,
                 ⟨some 11, none, .cvI .u32 (.t 10)⟩,
                 ⟨some 3, none, .mv true (.t 11)⟩])
               (.seq
                (.seq
                 (.region [
                   ⟨some 12, none, .mv false (.c (.int .i64 0))⟩])
                 (.block 2
                  (.loop
                   (.seq
                    (.region [
                      ⟨some 13, none, .bin .lss (.t 12) (.c (.int .i64 8))⟩])
                    (.seq
                     (.cond (.t 13)
                      .skip
                      (.exit 2))
                     (.seq
                      (.block 3
                       (.region [
                         ⟨some 14, none, .mv false (.t 3)⟩,
                         ⟨some 15, none, .callF 50 [.t 14] []⟩,
                         ⟨some 3, none, .mv true (.t 15)⟩]))
                      (.region [
                        ⟨some 16, none, .bin .add (.t 12) (.c (.int .i64 1))⟩,
                        ⟨some 12, none, .mv false (.t 16)⟩])))))))
                (.region [
                  ⟨some 17, none, .mv false (.t 1)⟩,
                  ⟨some 18, none, .mv false (.t 2)⟩,
                  ⟨some 19, none, .mv true (.t 3)⟩,
                  ⟨some 20, none, .iad 1 (.t 17) (.t 18)⟩,
                  ⟨none, none, .sto 1 (.t 20) (.t 19)⟩])))))
            (.region [
              ⟨some 21, none, .bin .add (.t 7) (.c (.int .i64 1))⟩,
              ⟨some 7, none, .mv false (.t 21)⟩])))))))
      (.seq
       (.region [
         ⟨some 22, none, .mv true (.t 1)⟩,
         ⟨some 0, none, .mv true (.t 22)⟩])
       .ret)))⟩
theorem t27r : compF Try.prog { rows := [4] } 27 = some p27r := by kernel_rfl
def p57t : PFn :=
  ⟨36, [.t 2], .seq
    (.region [
      ⟨some 2, none, .mv true (.c (.lst 0 [] true))⟩])
    (.seq
     (.region [
       ⟨some 3, none, .mv true (.c (.int .i64 0))⟩])
     (.seq
      (.seq
       (.region [
         ⟨some 9, none, .mv false (.t 0)⟩,
         ⟨some 10, none, .len false (.t 9)⟩,
         ⟨some 11, none, .mv false (.c (.int .i64 0))⟩])
       (.block 0
        (.loop
         (.seq
          (.region [
            ⟨some 12, none, .bin .lss (.t 11) (.t 10)⟩])
          (.seq
           (.cond (.t 12)
            .skip
            (.exit 0))
           (.seq
            (.block 1
             (.seq
              (.region [
                ⟨some 13, none, .iad 1 (.t 9) (.t 11)⟩,
                ⟨some 14, none, .ld 1 false false (.t 13)⟩,
                ⟨some 5, none, .mv true (.t 14)⟩])
              (.seq
               (.region [
                 ⟨some 15, none, .mv false (.t 3)⟩,
                 ⟨some 16, none, .mv false (.t 5)⟩,
                 ⟨some 17, none, .len false (.t 16)⟩,
                 ⟨some 18, none, .bin .add (.t 15) (.t 17)⟩,
                 ⟨some 3, none, .mv true (.t 18)⟩])
               (.seq
                (.region [
                  ⟨some 19, none, .mv false (.t 3)⟩,
                  ⟨some 20, none, .bin .lss (.t 19) (.c (.int .i64 0))⟩])
                (.cond (.t 20)
                 (.region [
                   ⟨some 21, none, .bad⟩,
                   ⟨none, none, .bad⟩])
                 .skip)))))
            (.region [
              ⟨some 22, none, .bin .add (.t 11) (.c (.int .i64 1))⟩,
              ⟨some 11, none, .mv false (.t 22)⟩])))))))
      (.seq
       (.region [
         ⟨some 23, none, .mv false (.t 3)⟩,
         ⟨some 24, none, .callF 70 [.c (.lst 0 [] true), .t 23] [true]⟩,
         ⟨some 6, none, .mv true (.t 24)⟩])
       (.seq
        (.seq
         (.region [
           ⟨some 25, none, .mv false (.t 0)⟩,
           ⟨some 26, none, .len false (.t 25)⟩,
           ⟨some 27, none, .mv false (.c (.int .i64 0))⟩])
         (.block 2
          (.loop
           (.seq
            (.region [
              ⟨some 28, none, .bin .lss (.t 27) (.t 26)⟩])
            (.seq
             (.cond (.t 28)
              .skip
              (.exit 2))
             (.seq
              (.block 3
               (.seq
                (.region [
                  ⟨some 29, none, .iad 1 (.t 25) (.t 27)⟩,
                  ⟨some 30, none, .ld 1 false false (.t 29)⟩,
                  ⟨some 8, none, .mv true (.t 30)⟩])
                (.region [
                  ⟨some 31, none, .mv true (.t 6)⟩,
                  ⟨some 32, none, .mv false (.t 8)⟩,
                  ⟨some 33, none, .app 1 1 (.t 31) (.t 32)⟩,
                  ⟨some 6, none, .mv true (.t 33)⟩])))
              (.region [
                ⟨some 34, none, .bin .add (.t 27) (.c (.int .i64 1))⟩,
                ⟨some 27, none, .mv false (.t 34)⟩])))))))
        (.seq
         (.region [
           ⟨some 35, none, .mv true (.t 6)⟩,
           ⟨some 2, none, .mv true (.t 35)⟩])
         .ret)))))⟩
theorem t57t : compF Try.prog { takes := [(70, [true])] } 57 = some p57t := by kernel_rfl
def p53r : PFn :=
  ⟨48, [.t 4], .seq
    (.region [
      ⟨some 4, none, .mv true (.c (.lst 0 [] true))⟩])
    (.seq
     (.seq
      (.region [
        ⟨some 9, none, .mv false (.t 1)⟩,
        ⟨some 10, none, .bin .lss (.t 9) (.c (.int .i64 0))⟩])
      (.cond (.t 10)
       (.region [
         ⟨some 11, none, .bad⟩,
         ⟨none, none, .bad⟩])
       .skip))
     (.seq
      (.region [
        ⟨some 13, none, .mv false (.t 0)⟩,
        ⟨some 14, none, .len false (.t 13)⟩,
        ⟨some 15, none, .cvI .u64 (.t 14)⟩,
        ⟨some 16, none, .mv false (.t 1)⟩,
        ⟨some 17, none, .cvI .u64 (.t 16)⟩,
        ⟨some 18, none, .callF 67 [.t 15, .t 17] []⟩,
        ⟨some 12, none, .mv true (.t 18)⟩,
        ⟨some 19, none, .ext false (.t 12) 0⟩,
        ⟨some 20, none, .ext false (.t 12) 1⟩,
        ⟨some 5, none, .mv true (.t 19)⟩,
        ⟨some 6, none, .mv true (.t 20)⟩])
      (.seq
       (.seq
        (.region [
          ⟨some 21, none, .mv false (.t 5)⟩,
          ⟨some 22, none, .bin .gtr (.t 21) (.c (.int .u64 0))⟩,
          ⟨some 23, none, .mv false (.t 22)⟩,
          ⟨some 24, some (23, false), .mv false (.t 6)⟩,
          ⟨some 25, some (23, false), .bin .gtr (.t 24) (.c (.int .u64 9223372036854775807))⟩,
          ⟨some 26, none, .pick (.t 23) (.c (.bool true)) (.t 25)⟩])
        (.cond (.t 26)
         (.region [
           ⟨some 27, none, .bad⟩,
           ⟨none, none, .bad⟩])
         .skip))
       (.seq
        (.region [
          ⟨some 28, none, .mv false (.t 6)⟩,
          ⟨some 29, none, .cvI .i64 (.t 28)⟩,
          ⟨some 30, none, .mk 1 8 false [.int .i64 0] (.t 29) (.t 29) true⟩,
          ⟨some 7, none, .mv true (.t 30)⟩])
        (.seq
         (.region [
           ⟨some 31, none, .mv false (.t 7)⟩,
           ⟨some 32, none, .mv false (.t 0)⟩,
           ⟨some 33, none, .cpy 1 (.t 31) (.t 32)⟩,
           ⟨some 8, none, .mv true (.t 33)⟩])
         (.seq
          (.block 0
           (.loop
            (.seq
             (.seq
              (.region [
                ⟨some 34, none, .mv false (.t 8)⟩,
                ⟨some 35, none, .mv false (.t 7)⟩,
                ⟨some 36, none, .len false (.t 35)⟩,
                ⟨some 37, none, .bin .lss (.t 34) (.t 36)⟩])
              (.cond (.t 37)
               .skip
               (.exit 0)))
             (.block 1
              (.draw [
                ⟨some 38, none, .mv false (.t 8)⟩,
                ⟨some 39, none, .mv false (.t 7)⟩,
                ⟨some 40, none, .mv false (.t 8)⟩,
                ⟨some 41, none, .sli 1 (.t 39) (some (.t 40)) none none⟩,
                ⟨some 42, none, .mv false (.t 7)⟩,
                ⟨some 43, none, .mv false (.t 8)⟩,
                ⟨some 44, none, .sli 1 (.t 42) none (some (.t 43)) none⟩,
                ⟨some 45, none, .cpy 1 (.t 41) (.t 44)⟩,
                ⟨some 46, none, .bin .add (.t 38) (.t 45)⟩,
                ⟨some 8, none, .mv true (.t 46)⟩] [])))))
          (.seq
           (.region [
             ⟨some 47, none, .mv true (.t 7)⟩,
             ⟨some 4, none, .mv true (.t 47)⟩])
           .ret)))))))⟩
theorem t53r : compF Try.prog { rows := [30] } 53 = some p53r := by kernel_rfl
def p30b : PFn :=
  ⟨27, [], .seq
    (.region [
      ⟨some 3, none, .bxI 4 (.t 1)⟩])
    (.seq
     (.seq
      (.region [
        ⟨some 4, none, .mv false (.t 0)⟩,
        ⟨some 5, none, .nck (.t 4)⟩,
        ⟨some 6, none, .fad 0 (.t 5)⟩,
        ⟨some 7, none, .ld 1 false false (.t 6)⟩])
      (.cond (.t 7)
       .ret
       .skip))
     (.draw [
       ⟨some 8, none, .mv false (.t 0)⟩,
       ⟨some 9, none, .fad 1 (.t 3)⟩,
       ⟨some 10, none, .ld 1 false false (.t 9)⟩,
       ⟨some 11, none, .fad 2 (.t 3)⟩,
       ⟨some 12, none, .ld 1 false false (.t 11)⟩,
       ⟨some 13, none, .bsl 1 1 false [.int .i64 0] [(0, .c (.int .i64 (-1)))] false⟩,
       ⟨some 14, none, .fad 1 (.t 3)⟩,
       ⟨some 15, none, .ld 1 false false (.t 14)⟩,
       ⟨some 16, none, .callF 53 [.t 13, .t 15] []⟩,
       ⟨some 17, none, .bsl 1 1 false [.int .i64 0] [(0, .c (.int .i64 (-1)))] false⟩,
       ⟨some 18, none, .fad 1 (.t 3)⟩,
       ⟨some 19, none, .ld 1 false false (.t 18)⟩,
       ⟨some 20, none, .callF 53 [.t 17, .t 19] []⟩,
       ⟨some 21, none, .bsl 1 1 false [.int .i64 0] [(0, .c (.int .i64 (-1)))] false⟩,
       ⟨some 22, none, .fad 2 (.t 3)⟩,
       ⟨some 23, none, .ld 1 false false (.t 22)⟩,
       ⟨some 24, none, .callF 53 [.t 21, .t 23] []⟩,
       ⟨some 25, none, .bldT [.bool false, .int .i64 0, .int .i64 0, .lst 0 [] true, .lst 0 [] true, .lst 0 [] true, .int .i64 0, .int .i64 0] [(0, (1, .c (.bool true))), (1, (1, .t 10)), (2, (1, .t 12)), (3, (1, .t 16)), (4, (1, .t 20)), (5, (1, .t 24))]⟩,
       ⟨some 26, none, .nck (.t 8)⟩,
       ⟨none, none, .sto 8 (.t 26) (.t 25)⟩] []))⟩
theorem t30b : compF Try.prog { loads := [25], ros := [3] } 30 = some p30b := by kernel_rfl
def p48r : PFn :=
  ⟨18, [.t 4], .seq
    (.region [
      ⟨some 4, none, .mv true (.c (.lst 0 [] true))⟩])
    (.seq
     (.region [
       ⟨some 7, none, .bsl 1 0 false [] [] true⟩,
       ⟨some 5, none, .mv true (.t 7)⟩])
     (.seq
      (.seq
       (.region [
         ⟨some 6, none, .mv true (.c (.int .i64 0))⟩])
       (.block 0
        (.loop
         (.seq
          (.seq
           (.region [
             ⟨some 8, none, .mv false (.t 6)⟩,
             ⟨some 9, none, .mv false (.t 0)⟩,
             ⟨some 10, none, .bin .lss (.t 8) (.t 9)⟩])
           (.cond (.t 10)
            .skip
            (.exit 0)))
          (.seq
           (.block 1
            (.region [
              ⟨some 13, none, .mv true (.t 5)⟩,
              ⟨some 14, none, .mv false (.t 1)⟩,
              ⟨some 15, none, .bsl 1 1 false [.int .i64 0] [(0, .t 14)] false⟩,
              ⟨some 16, none, .appR 1 8 [.int .i64 0] (.t 13) (.t 15)⟩,
              ⟨some 5, none, .mv true (.t 16)⟩]))
           (.region [
             ⟨some 11, none, .mv false (.t 6)⟩,
             ⟨some 12, none, .bin .add (.t 11) (.c (.int .i64 1))⟩,
             ⟨some 6, none, .mv true (.t 12)⟩]))))))
      (.seq
       (.region [
         ⟨some 17, none, .mv true (.t 5)⟩,
         ⟨some 4, none, .mv true (.t 17)⟩])
       .ret)))⟩
theorem t48r : compF Try.prog { rows := [7, 16] } 48 = some p48r := by kernel_rfl
def p25b : PFn :=
  ⟨158, [.c 2 8 true], .seq
    (.region [
      ⟨some 2, none, .al [.bool false, .int .i64 0, .int .i64 0, .lst 0 [] true, .lst 0 [] true, .lst 0 [] true, .int .i64 0, .int .i64 0]⟩])
    (.seq
     (.region [
       ⟨some 7, none, .mv false (.t 0)⟩,
       ⟨some 8, none, .callF 47 [.t 7] []⟩,
       ⟨some 3, none, .mv true (.t 8)⟩])
     (.seq
      (.seq
       (.region [
         ⟨some 9, none, .mv false (.t 3)⟩,
         ⟨some 10, none, .mv false (.t 0)⟩,
         ⟨some 11, none, .len false (.t 10)⟩,
         ⟨some 12, none, .bin .eql (.t 9) (.t 11)⟩])
       (.cond (.t 12)
        (.seq
         (.region [
           ⟨some 13, none, .build [.bool false, .int .i64 0, .int .i64 0, .lst 0 [] true, .lst 0 [] true, .lst 0 [] true, .int .i64 0, .int .i64 0] []⟩,
           ⟨none, none, .sto 8 (.t 2) (.t 13)⟩])
         .ret)
        .skip))
      (.seq
       (.drawN [
         ⟨some 14, none, .mv false (.t 0)⟩,
         ⟨some 15, none, .mv false (.t 3)⟩,
         ⟨some 16, none, .iad 4 (.t 14) (.t 15)⟩,
         ⟨some 17, none, .fad 1 (.t 16)⟩,
         ⟨some 18, none, .ld 1 false false (.t 17)⟩,
         ⟨some 19, none, .mv false (.t 0)⟩,
         ⟨some 20, none, .mv false (.t 3)⟩,
         ⟨some 21, none, .iad 4 (.t 19) (.t 20)⟩,
         ⟨some 22, none, .fad 2 (.t 21)⟩,
         ⟨some 23, none, .ld 1 false false (.t 22)⟩,
         ⟨some 24, none, .mv false (.t 0)⟩,
         ⟨some 25, none, .mv false (.t 3)⟩,
         ⟨some 26, none, .iad 4 (.t 24) (.t 25)⟩,
         ⟨some 27, none, .fad 1 (.t 26)⟩,
         ⟨some 28, none, .ld 1 false false (.t 27)⟩,
         ⟨some 29, none, .callF 48 [.t 28, .c (.int .i64 (-1))] []⟩,
         ⟨some 30, none, .mv false (.t 0)⟩,
         ⟨some 31, none, .mv false (.t 3)⟩,
         ⟨some 32, none, .iad 4 (.t 30) (.t 31)⟩,
         ⟨some 33, none, .fad 1 (.t 32)⟩,
         ⟨some 34, none, .ld 1 false false (.t 33)⟩,
         ⟨some 35, none, .callF 48 [.t 34, .c (.int .i64 (-1))] []⟩,
         ⟨some 36, none, .mv false (.t 0)⟩,
         ⟨some 37, none, .mv false (.t 3)⟩,
         ⟨some 38, none, .iad 4 (.t 36) (.t 37)⟩,
         ⟨some 39, none, .fad 2 (.t 38)⟩,
         ⟨some 40, none, .ld 1 false false (.t 39)⟩,
         ⟨some 41, none, .callF 48 [.t 40, .c (.int .i64 (-1))] []⟩,
         ⟨some 42, none, .bldT [.bool false, .int .i64 0, .int .i64 0, .lst 0 [] true, .lst 0 [] true, .lst 0 [] true, .int .i64 0, .int .i64 0] [(0, (1, .c (.bool true))), (1, (1, .t 18)), (2, (1, .t 23)), (3, (1, .t 29)), (4, (1, .t 35)), (5, (1, .t 41))]⟩,
         ⟨some 4, none, .mv false (.c .unit)⟩,
         ⟨some 4, none, .mvc 8 (.t 42)⟩] [] [(29, (30, (4, 8)))])
       (.seq
        (.seq
         (.region [
           ⟨some 43, none, .mv false (.t 3)⟩,
           ⟨some 44, none, .bin .add (.t 43) (.c (.int .i64 1))⟩,
           ⟨some 5, none, .mv true (.t 44)⟩])
         (.block 0
          (.loop
           (.seq
            (.seq
             (.region [
               ⟨some 45, none, .mv false (.t 5)⟩,
               ⟨some 46, none, .mv false (.t 0)⟩,
               ⟨some 47, none, .len false (.t 46)⟩,
               ⟨some 48, none, .bin .lss (.t 45) (.t 47)⟩])
             (.cond (.t 48)
              .skip
              (.exit 0)))
            (.seq
             (.block 1
              (.seq
               (.region [
                 ⟨some 51, none, .mv false (.t 0)⟩,
                 ⟨some 52, none, .mv false (.t 5)⟩,
                 ⟨some 53, none, .iad 4 (.t 51) (.t 52)⟩,
                 ⟨some 54, none, .ld 4 true false (.t 53)⟩,
                 ⟨some 6, none, .al [.int .i64 0, .int .i64 0, .int .i64 0, .int .i64 0]⟩,
                 ⟨none, none, .sto 4 (.t 6) (.t 54)⟩])
               (.block 2
                (.seq
                 (.region [
                   ⟨some 56, none, .fad 0 (.t 6)⟩,
                   ⟨some 57, none, .ld 1 false false (.t 56)⟩,
                   ⟨some 58, none, .bin .eql (.t 57) (.c (.int .i64 2))⟩,
                   ⟨some 59, none, .mv false (.t 58)⟩,
                   ⟨some 60, some (59, true), .fad 1 (.t 6)⟩,
                   ⟨some 61, some (59, true), .ld 1 false false (.t 60)⟩,
                   ⟨some 62, some (59, true), .fad 1 (.t 4)⟩,
                   ⟨some 63, some (59, true), .ld 1 false false (.t 62)⟩,
                   ⟨some 64, some (59, true), .bin .lss (.t 61) (.t 63)⟩,
                   ⟨some 65, none, .pick (.t 59) (.t 64) (.c (.bool false))⟩,
                   ⟨some 55, none, .mv true (.t 65)⟩])
                 (.cond (.t 55)
                  (.seq
                   (.region [
                     ⟨some 66, none, .fad 3 (.t 4)⟩,
                     ⟨some 67, none, .ld 1 false false (.t 66)⟩,
                     ⟨some 68, none, .fad 1 (.t 6)⟩,
                     ⟨some 69, none, .ld 1 false false (.t 68)⟩,
                     ⟨some 70, none, .fad 2 (.t 6)⟩,
                     ⟨some 71, none, .ld 1 false false (.t 70)⟩,
                     ⟨some 72, none, .iad 1 (.t 67) (.t 69)⟩,
                     ⟨none, none, .sto 1 (.t 72) (.t 71)⟩])
                   (.region [
                     ⟨some 73, none, .fad 4 (.t 4)⟩,
                     ⟨some 74, none, .ld 1 false false (.t 73)⟩,
                     ⟨some 75, none, .fad 1 (.t 6)⟩,
                     ⟨some 76, none, .ld 1 false false (.t 75)⟩,
                     ⟨some 77, none, .fad 3 (.t 6)⟩,
                     ⟨some 78, none, .ld 1 false false (.t 77)⟩,
                     ⟨some 79, none, .iad 1 (.t 74) (.t 76)⟩,
                     ⟨none, none, .sto 1 (.t 79) (.t 78)⟩]))
                  (.seq
                   (.draw [
                     ⟨some 81, none, .fad 0 (.t 6)⟩,
                     ⟨some 82, none, .ld 1 false false (.t 81)⟩,
                     ⟨some 83, none, .bin .eql (.t 82) (.c (.int .i64 3))⟩,
                     ⟨some 84, none, .mv false (.t 83)⟩,
                     ⟨some 85, some (84, true), .fad 1 (.t 6)⟩,
                     ⟨some 86, some (84, true), .ld 1 false false (.t 85)⟩,
                     ⟨some 87, some (84, true), .fad 1 (.t 4)⟩,
                     ⟨some 88, some (84, true), .ld 1 false false (.t 87)⟩,
                     ⟨some 89, some (84, true), .bin .lss (.t 86) (.t 88)⟩,
                     ⟨some 90, none, .pick (.t 84) (.t 89) (.c (.bool false))⟩,
                     ⟨some 91, none, .mv false (.t 90)⟩,
                     ⟨some 92, some (91, true), .fad 3 (.t 4)⟩,
                     ⟨some 93, some (91, true), .ld 1 false false (.t 92)⟩,
                     ⟨some 94, some (91, true), .fad 1 (.t 6)⟩,
                     ⟨some 95, some (91, true), .ld 1 false false (.t 94)⟩,
                     ⟨some 96, some (91, true), .iad 1 (.t 93) (.t 95)⟩,
                     ⟨some 97, some (91, true), .ld 1 false false (.t 96)⟩,
                     ⟨some 98, some (91, true), .fad 2 (.t 6)⟩,
                     ⟨some 99, some (91, true), .ld 1 false false (.t 98)⟩,
                     ⟨some 100, some (91, true), .bin .eql (.t 97) (.t 99)⟩,
                     ⟨some 101, none, .pick (.t 91) (.t 100) (.c (.bool false))⟩,
                     ⟨some 80, none, .mv true (.t 101)⟩] [])
                   (.cond (.t 80)
                    (.seq
                     (.region [
                       ⟨some 102, none, .fad 3 (.t 4)⟩,
                       ⟨some 103, none, .ld 1 false false (.t 102)⟩,
                       ⟨some 104, none, .fad 1 (.t 6)⟩,
                       ⟨some 105, none, .ld 1 false false (.t 104)⟩,
                       ⟨some 106, none, .iad 1 (.t 103) (.t 105)⟩,
                       ⟨none, none, .sto 1 (.t 106) (.c (.int .i64 (-1)))⟩])
                     (.region [
                       ⟨some 107, none, .fad 4 (.t 4)⟩,
                       ⟨some 108, none, .ld 1 false false (.t 107)⟩,
                       ⟨some 109, none, .fad 1 (.t 6)⟩,
                       ⟨some 110, none, .ld 1 false false (.t 109)⟩,
                       ⟨some 111, none, .iad 1 (.t 108) (.t 110)⟩,
                       ⟨none, none, .sto 1 (.t 111) (.c (.int .i64 (-1)))⟩]))
                    (.seq
                     (.region [
                       ⟨some 113, none, .fad 0 (.t 6)⟩,
                       ⟨some 114, none, .ld 1 false false (.t 113)⟩,
                       ⟨some 115, none, .bin .eql (.t 114) (.c (.int .i64 4))⟩,
                       ⟨some 116, none, .mv false (.t 115)⟩,
                       ⟨some 117, some (116, true), .fad 1 (.t 6)⟩,
                       ⟨some 118, some (116, true), .ld 1 false false (.t 117)⟩,
                       ⟨some 119, some (116, true), .fad 2 (.t 4)⟩,
                       ⟨some 120, some (116, true), .ld 1 false false (.t 119)⟩,
                       ⟨some 121, some (116, true), .bin .lss (.t 118) (.t 120)⟩,
                       ⟨some 122, none, .pick (.t 116) (.t 121) (.c (.bool false))⟩,
                       ⟨some 123, none, .mv false (.t 122)⟩,
                       ⟨some 124, some (123, true), .fad 5 (.t 4)⟩,
                       ⟨some 125, some (123, true), .ld 1 false false (.t 124)⟩,
                       ⟨some 126, some (123, true), .fad 1 (.t 6)⟩,
                       ⟨some 127, some (123, true), .ld 1 false false (.t 126)⟩,
                       ⟨some 128, some (123, true), .iad 1 (.t 125) (.t 127)⟩,
                       ⟨some 129, some (123, true), .ld 1 false false (.t 128)⟩,
                       ⟨some 130, some (123, true), .bin .lss (.t 129) (.c (.int .i64 0))⟩,
                       ⟨some 131, none, .pick (.t 123) (.t 130) (.c (.bool false))⟩,
                       ⟨some 112, none, .mv true (.t 131)⟩])
                     (.cond (.t 112)
                      (.region [
                        ⟨some 132, none, .fad 5 (.t 4)⟩,
                        ⟨some 133, none, .ld 1 false false (.t 132)⟩,
                        ⟨some 134, none, .fad 1 (.t 6)⟩,
                        ⟨some 135, none, .ld 1 false false (.t 134)⟩,
                        ⟨some 136, none, .fad 2 (.t 6)⟩,
                        ⟨some 137, none, .ld 1 false false (.t 136)⟩,
                        ⟨some 138, none, .iad 1 (.t 133) (.t 135)⟩,
                        ⟨none, none, .sto 1 (.t 138) (.t 137)⟩])
                      (.seq
                       (.region [
                         ⟨some 140, none, .fad 0 (.t 6)⟩,
                         ⟨some 141, none, .ld 1 false false (.t 140)⟩,
                         ⟨some 142, none, .bin .geq (.t 141) (.c (.int .i64 5))⟩,
                         ⟨some 143, none, .mv false (.t 142)⟩,
                         ⟨some 144, some (143, true), .fad 6 (.t 4)⟩,
                         ⟨some 145, some (143, true), .ld 1 false false (.t 144)⟩,
                         ⟨some 146, some (143, true), .bin .eql (.t 145) (.c (.int .i64 0))⟩,
                         ⟨some 147, none, .pick (.t 143) (.t 146) (.c (.bool false))⟩,
                         ⟨some 139, none, .mv true (.t 147)⟩])
                       (.cond (.t 139)
                        (.seq
                         (.region [
                           ⟨some 148, none, .fad 0 (.t 6)⟩,
                           ⟨some 149, none, .ld 1 false false (.t 148)⟩,
                           ⟨some 150, none, .fad 6 (.t 4)⟩,
                           ⟨none, none, .sto 1 (.t 150) (.t 149)⟩])
                         (.seq
                          (.region [
                            ⟨some 151, none, .fad 0 (.t 6)⟩,
                            ⟨some 152, none, .ld 1 false false (.t 151)⟩,
                            ⟨some 153, none, .bin .eql (.t 152) (.c (.int .i64 6))⟩])
                          (.cond (.t 153)
                           (.region [
                             ⟨some 154, none, .fad 2 (.t 6)⟩,
                             ⟨some 155, none, .ld 1 false false (.t 154)⟩,
                             ⟨some 156, none, .fad 7 (.t 4)⟩,
                             ⟨none, none, .sto 1 (.t 156) (.t 155)⟩])
                           .skip)))
                        .skip)))))))))))
             (.region [
               ⟨some 49, none, .mv false (.t 5)⟩,
               ⟨some 50, none, .bin .add (.t 49) (.c (.int .i64 1))⟩,
               ⟨some 5, none, .mv true (.t 50)⟩]))))))
        (.seq
         (.region [
           ⟨some 157, none, .ld 8 true false (.t 4)⟩,
           ⟨none, none, .sto 8 (.t 2) (.t 157)⟩])
         .ret)))))⟩
theorem t25b : compF Try.prog { loads := [42] } 25 = some p25b := by kernel_rfl
def tab : List (Nat × PFn) := [(2, p2), (3, p3), (4, p4), (5, p5), (6, p6), (7, p7), (8, p8), (9, p9), (10, p10), (11, p11), (12, p12), (13, p13), (14, p14), (15, p15), (16, p16), (17, p17), (18, p18), (19, p19), (20, p20), (21, p21), (22, p22), (23, p23), (24, p24), (25, p25), (26, p26), (27, p27), (28, p28), (29, p29), (30, p30), (31, p31), (32, p32), (33, p33), (34, p34), (35, p35), (36, p36), (37, p37), (38, p38), (39, p39), (40, p40), (41, p41), (42, p42), (43, p43), (44, p44), (45, p45), (46, p46), (47, p47), (48, p48), (49, p49), (50, p50), (51, p51), (52, p52), (53, p53), (54, p54), (55, p55), (56, p56), (57, p57), (58, p58), (59, p59), (60, p60), (61, p61), (62, p62), (63, p63), (64, p64), (65, p65), (66, p66), (67, p67), (68, p68), (69, p69), (70, p70), (71, p71), (72, p72), (73, p73)]
theorem tabOk : TabOk Try.prog tab := .cons t2 <| .cons t3 <| .cons t4 <| .cons t5 <| .cons t6 <| .cons t7 <| .cons t8 <| .cons t9 <| .cons t10 <| .cons t11 <| .cons t12 <| .cons t13 <| .cons t14 <| .cons t15 <| .cons t16 <| .cons t17 <| .cons t18 <| .cons t19 <| .cons t20 <| .cons t21 <| .cons t22 <| .cons t23 <| .cons t24 <| .cons t25 <| .cons t26 <| .cons t27 <| .cons t28 <| .cons t29 <| .cons t30 <| .cons t31 <| .cons t32 <| .cons t33 <| .cons t34 <| .cons t35 <| .cons t36 <| .cons t37 <| .cons t38 <| .cons t39 <| .cons t40 <| .cons t41 <| .cons t42 <| .cons t43 <| .cons t44 <| .cons t45 <| .cons t46 <| .cons t47 <| .cons t48 <| .cons t49 <| .cons t50 <| .cons t51 <| .cons t52 <| .cons t53 <| .cons t54 <| .cons t55 <| .cons t56 <| .cons t57 <| .cons t58 <| .cons t59 <| .cons t60 <| .cons t61 <| .cons t62 <| .cons t63 <| .cons t64 <| .cons t65 <| .cons t66 <| .cons t67 <| .cons t68 <| .cons t69 <| .cons t70 <| .cons t71 <| .cons t72 <| .cons t73 <| .nil
theorem hmix : Try.prog.follows .mixedOrders = true := by kernel_rfl
theorem good (n d : Nat) : Good Try.prog (evF (tabOf tab) noPrim n d) := evF_sound hmix tabOk noPrim_good d
end Go.Proofs.Ytibmolekndeofaa.E
/- Varints: what the program's functions and the document's come to. -/
namespace Go.Proofs.Ytibmolekndeofaa.E
open Go Go.RowKit Go.Proofs
set_option linter.unusedVariables false
set_option linter.unusedSimpArgs false
theorem lenL_get {v : Nat} (h : v < 256) : lenL[v]? = some ((bl v : Nat) : Int) ∧ bl v ≤ 8 := by
  obtain ⟨l, hl, h1, h2⟩ := lenL_at v (List.mem_range.2 h)
  rw [isLen_unique (isLen_bl v) h2]
  exact ⟨h1, by have := List.mem_range.1 hl; omega⟩
theorem lenL_len : lenL.length = 256 := by decide +kernel
theorem bl_up {n m : Nat} (hn : 2 ^ m ≤ n) : bl n = bl (n / 2 ^ m) + m := isLen_unique (isLen_bl n) (isLen_up hn (isLen_bl _))
set_option maxRecDepth 4000 in
theorem len64_ok (n : Nat) (h : n < 18446744073709551616) : PSpec Try.prog 68 [.int .u64 n] (.int .i64 (bl n : Nat)) := by
  intro H
  refine spec_of t68 (by simp [p68]) ?_
  simp only [p68]
  generalize hL : lenL = L
  have hLl : L.length = 256 := by rw [← hL]; exact lenL_len
  first | refine pwp_sr ?_ | refine pwp_regionM ?_
  intro K hK
  simp (disch := first | (refine Ok.mk ?_; (try simp only [Lm, La, Lc, Ln, Lt, Ld, Lr, Li, true_or, or_true, true_and, and_true]); omega) | (simp <;> fail) | skip) [runM_nil]
  refine hK _ _ ?_
  clear hK K
  refine pwp_cut [0, 2] (fun st2 H2 => ∃ m s : Nat, m < 4294967296 ∧ bl n = bl m + s ∧ s ≤ 32 ∧ st2 = MS 25 [(0, .int .u64 m), (2, .int .i64 s)] ∧ H = H2) ?_ ?_
  · first | refine pwp_rif ?_ | refine pwp_rifE ?_
    intro K hK
    simp (disch := first | (refine Ok.mk ?_; (try simp only [Lm, La, Lc, Ln, Lt, Ld, Lr, Li, true_or, or_true, true_and, and_true]); omega) | (simp <;> fail) | skip) [runM_nil]
    refine hK _ _ ?_
    clear hK K
    refine ⟨_, (by simp (disch := first | (refine Ok.mk ?_; (try simp only [Lm, La, Lc, Ln, Lt, Ld, Lr, Li, true_or, or_true, true_and, and_true]); omega) | (simp <;> fail) | skip) [runM_nil]; rfl), fun hc => ?_, fun hc => ?_⟩ <;> try simp at hc
    · have e := bl_up (n := n) (m := 32) (by omega)
      first | refine pwp_sr ?_ | refine pwp_regionM ?_
      intro K hK
      simp (disch := first | (refine Ok.mk ?_; (try simp only [Lm, La, Lc, Ln, Lt, Ld, Lr, Li, true_or, or_true, true_and, and_true]); omega) | (simp <;> fail) | skip) [runM_nil]
      refine hK _ _ ?_
      clear hK K
      first | refine pwp_sr ?_ | refine pwp_regionM ?_
      intro K hK
      simp (disch := first | (refine Ok.mk ?_; (try simp only [Lm, La, Lc, Ln, Lt, Ld, Lr, Li, true_or, or_true, true_and, and_true]); omega) | (simp <;> fail) | skip) [runM_nil]
      refine hK _ _ ?_
      clear hK K
      exact cut_to (by simp [keepA, getS]) (.refl _) ⟨n / 4294967296, 32, by omega, e, by omega, rfl, rfl⟩
    · refine pwp_skip ?_
      exact cut_to (by simp [keepA, getS]) (.refl _) ⟨n, 0, by omega, by omega, by omega, rfl, rfl⟩
  rintro _ _ ⟨m, s, hm, hb, hs, rfl, rfl⟩
  refine pwp_cut [0, 2] (fun st2 H2 => ∃ m s : Nat, m < 65536 ∧ bl n = bl m + s ∧ s ≤ 48 ∧ st2 = MS 25 [(0, .int .u64 m), (2, .int .i64 s)] ∧ H = H2) ?_ ?_
  · first | refine pwp_rif ?_ | refine pwp_rifE ?_
    intro K hK
    simp (disch := first | (refine Ok.mk ?_; (try simp only [Lm, La, Lc, Ln, Lt, Ld, Lr, Li, true_or, or_true, true_and, and_true]); omega) | (simp <;> fail) | skip) [runM_nil]
    refine hK _ _ ?_
    clear hK K
    refine ⟨_, (by simp (disch := first | (refine Ok.mk ?_; (try simp only [Lm, La, Lc, Ln, Lt, Ld, Lr, Li, true_or, or_true, true_and, and_true]); omega) | (simp <;> fail) | skip) [runM_nil]; rfl), fun hc => ?_, fun hc => ?_⟩ <;> try simp at hc
    · have e : bl m = bl (m / 65536) + 16 := bl_up (m := 16) (by omega)
      first | refine pwp_sr ?_ | refine pwp_regionM ?_
      intro K hK
      simp (disch := first | (refine Ok.mk ?_; (try simp only [Lm, La, Lc, Ln, Lt, Ld, Lr, Li, true_or, or_true, true_and, and_true]); omega) | (simp <;> fail) | skip) [runM_nil]
      refine hK _ _ ?_
      clear hK K
      first | refine pwp_sr ?_ | refine pwp_regionM ?_
      intro K hK
      simp (disch := first | (refine Ok.mk ?_; (try simp only [Lm, La, Lc, Ln, Lt, Ld, Lr, Li, true_or, or_true, true_and, and_true]); omega) | (simp <;> fail) | skip) [runM_nil]
      refine hK _ _ ?_
      clear hK K
      exact cut_to (by simp [keepA, getS]) (.refl _) ⟨m / 65536, s + 16, by omega, by omega, by omega, rfl, rfl⟩
    · refine pwp_skip ?_
      exact cut_to (by simp [keepA, getS]) (.refl _) ⟨m, s, by omega, by omega, by omega, rfl, rfl⟩
  clear hm hb hs
  rintro _ _ ⟨m, s, hm, hb, hs, rfl, rfl⟩
  refine pwp_cut [0, 2] (fun st2 H2 => ∃ m s : Nat, m < 256 ∧ bl n = bl m + s ∧ s ≤ 56 ∧ st2 = MS 25 [(0, .int .u64 m), (2, .int .i64 s)] ∧ H = H2) ?_ ?_
  · first | refine pwp_rif ?_ | refine pwp_rifE ?_
    intro K hK
    simp (disch := first | (refine Ok.mk ?_; (try simp only [Lm, La, Lc, Ln, Lt, Ld, Lr, Li, true_or, or_true, true_and, and_true]); omega) | (simp <;> fail) | skip) [runM_nil]
    refine hK _ _ ?_
    clear hK K
    refine ⟨_, (by simp (disch := first | (refine Ok.mk ?_; (try simp only [Lm, La, Lc, Ln, Lt, Ld, Lr, Li, true_or, or_true, true_and, and_true]); omega) | (simp <;> fail) | skip) [runM_nil]; rfl), fun hc => ?_, fun hc => ?_⟩ <;> try simp at hc
    · have e : bl m = bl (m / 256) + 8 := bl_up (m := 8) (by omega)
      first | refine pwp_sr ?_ | refine pwp_regionM ?_
      intro K hK
      simp (disch := first | (refine Ok.mk ?_; (try simp only [Lm, La, Lc, Ln, Lt, Ld, Lr, Li, true_or, or_true, true_and, and_true]); omega) | (simp <;> fail) | skip) [runM_nil]
      refine hK _ _ ?_
      clear hK K
      first | refine pwp_sr ?_ | refine pwp_regionM ?_
      intro K hK
      simp (disch := first | (refine Ok.mk ?_; (try simp only [Lm, La, Lc, Ln, Lt, Ld, Lr, Li, true_or, or_true, true_and, and_true]); omega) | (simp <;> fail) | skip) [runM_nil]
      refine hK _ _ ?_
      clear hK K
      exact cut_to (by simp [keepA, getS]) (.refl _) ⟨m / 256, s + 8, by omega, by omega, by omega, rfl, rfl⟩
    · refine pwp_skip ?_
      exact cut_to (by simp [keepA, getS]) (.refl _) ⟨m, s, by omega, by omega, by omega, rfl, rfl⟩
  clear hm hb hs
  rintro _ _ ⟨m, s, hm, hb, hs, rfl, rfl⟩
  have hg := lenL_get hm
  rw [hL] at hg
  obtain ⟨hg, h8⟩ := hg
  first | refine pwp_sr ?_ | refine pwp_regionM ?_
  intro K hK
  simp (disch := first | (refine Ok.mk ?_; (try simp only [Lm, La, Lc, Ln, Lt, Ld, Lr, Li, true_or, or_true, true_and, and_true]); omega) | (simp <;> fail) | skip) [runM_nil, hg, hm, hLl]
  refine hK _ _ ?_
  clear hK K
  refine pwp_ret ⟨.inr rfl, _, _, (by simp (disch := first | (refine Ok.mk ?_; (try simp only [Lm, La, Lc, Ln, Lt, Ld, Lr, Li, true_or, or_true, true_and, and_true]); omega) | (simp <;> fail) | skip) [runM_nil, resL, hb, Int.add_comm]; rfl), .refl _, by simp (disch := first | (refine Ok.mk ?_; (try simp only [Lm, La, Lc, Ln, Lt, Ld, Lr, Li, true_or, or_true, true_and, and_true]); omega) | (simp <;> fail) | skip) [resV, hb, Int.add_comm], rfl⟩
theorem size_ok (n : Nat) (h : n < 18446744073709551616) : PSpec Try.prog 55 [.int .u64 n] (.int .i64 ((vb n).length : Nat)) := by
  intro H
  have c := len64_ok n h
  have e := isLen_vb (isLen_bl n)
  have hb : bl n ≤ 64 := by
    obtain ⟨_, h2⟩ := isLen_bl n
    rcases h2 with h2 | h2
    · omega
    · by_cases h3 : bl n ≤ 64
      · exact h3
      · have := Nat.pow_le_pow_right (n := 2) (by omega) (show 64 ≤ bl n - 1 by omega)
        omega
  generalize bl n = l at *
  refine spec_of t55 (by simp [p55]) ?_
  simp only [p55]
  first | refine pwp_sr ?_ | refine pwp_regionM ?_
  intro K hK
  simp (disch := first | (refine Ok.mk ?_; (try simp only [Lm, La, Lc, Ln, Lt, Ld, Lr, Li, true_or, or_true, true_and, and_true]); omega) | (simp <;> fail) | skip) [runM_nil]
  refine hK _ _ ?_
  clear hK K
  first | refine pwp_sr ?_ | refine pwp_regionM ?_
  intro K hK
  simp (disch := first | (refine Ok.mk ?_; (try simp only [Lm, La, Lc, Ln, Lt, Ld, Lr, Li, true_or, or_true, true_and, and_true]); omega) | (simp <;> fail) | skip) [runM_nil]
  refine useP (c) ?_
  simp (disch := first | (refine Ok.mk ?_; (try simp only [Lm, La, Lc, Ln, Lt, Ld, Lr, Li, true_or, or_true, true_and, and_true]); omega) | (simp <;> fail) | skip) [runM_nil]
  refine hK _ _ ?_
  clear hK K
  refine pwp_ret ⟨.inr rfl, _, _, (by simp [resL]; rfl), .refl _, ?_, rfl⟩
  simp only [resV, e]
  congr 1
  split <;> split <;> omega
end Go.Proofs.Ytibmolekndeofaa.E
/- Varints: numbers put, and taken. -/
namespace Go.Proofs.Ytibmolekndeofaa.E
open Go Go.RowKit Go.Proofs
set_option linter.unusedVariables false
set_option linter.unusedSimpArgs false
theorem or128 : ∀ v ∈ List.range 256, v ||| 128 = v % 128 + 128 := by decide +kernel
theorem vb_acc {b acc : List Nat} {n m : Nat} (h : acc ++ vb m = b ++ vb n) (hn : n < 18446744073709551616) : acc.length ≤ b.length + 9 := by
  have h1 := congrArg List.length h
  simp only [List.length_append] at h1
  have h2 := vb_length_le10 hn
  have h3 := vb_length_pos m
  omega
theorem put_ok {s : Nat} {xs : List PV} {o : Bool} {b : List Nat} (hx : xs = b.map u8) (hs : s = 1 ∨ b.length = 0) (n : Nat) (hn : n < 18446744073709551616) (hl : b.length ≤ 100000000000000) :
    PSpec Try.prog 35 [.lst s xs o, .int .u64 n] (bV (b ++ vb n) true) := by
  subst hx
  intro H
  have c := size_ok n hn
  have h10 := vb_length_le10 hn
  refine spec_of t35 (by simp [p35]) ?_
  simp only [p35]
  first | refine pwp_sr ?_ | refine pwp_regionM ?_
  intro K hK
  simp (disch := first | (refine Ok.mk ?_; (try simp only [Lm, La, Lc, Ln, Lt, Ld, Lr, Li, true_or, or_true, true_and, and_true]); omega) | (simp <;> fail) | skip) [runM_nil]
  refine hK _ _ ?_
  clear hK K
  first | refine pwp_sr ?_ | refine pwp_regionM ?_
  intro K hK
  simp (disch := first | (refine Ok.mk ?_; (try simp only [Lm, La, Lc, Ln, Lt, Ld, Lr, Li, true_or, or_true, true_and, and_true]); omega) | (simp <;> fail) | skip) [runM_nil]
  refine useP (c) ?_
  simp (disch := first | (refine Ok.mk ?_; (try simp only [Lm, La, Lc, Ln, Lt, Ld, Lr, Li, true_or, or_true, true_and, and_true]); omega) | (simp <;> fail) | skip) [runM_nil]
  refine hK _ _ ?_
  clear hK K
  refine pwp_seq (pwp_block ?_)
  refine pwp_loopK [1, 5] (fun k st H' => ∃ (acc : List Nat), acc ++ vb k = b ++ vb n ∧ k < 18446744073709551616 ∧ H' = H ∧ st = MS 29 [(1, .int .u64 k), (5, bV acc true)]) (n := n)
    ⟨_, .refl _, b, rfl, hn, rfl, by simp [keepL_MS, keepA, getS]⟩ ?_
  rintro k st _ ⟨acc, ha, hk, rfl, rfl⟩
  have hal := vb_acc ha hn
  first | refine pwp_rif ?_ | refine pwp_rifE ?_
  intro K hK
  simp (disch := first | (refine Ok.mk ?_; (try simp only [Lm, La, Lc, Ln, Lt, Ld, Lr, Li, true_or, or_true, true_and, and_true]); omega) | (simp <;> fail) | skip) [runM_nil]
  refine hK _ _ ?_
  clear hK K
  refine ⟨_, (by simp (disch := first | (refine Ok.mk ?_; (try simp only [Lm, La, Lc, Ln, Lt, Ld, Lr, Li, true_or, or_true, true_and, and_true]); omega) | (simp <;> fail) | skip) [runM_nil]; rfl), fun hc => ?_, fun hc => ?_⟩ <;> try simp at hc
  · have ho : k % 256 ||| 128 = k % 128 + 128 := (or128 (k % 256) (List.mem_range.2 (by omega))).trans (by omega)
    have e1 : ((k : Int) % 256).toNat = k % 256 := by omega
    rw [vb_big (by omega)] at ha
    refine pwp_skip ?_
    refine pwp_seq (pwp_block ?_)
    first | refine pwp_sr ?_ | refine pwp_regionM ?_
    intro K hK
    simp (disch := first | (refine Ok.mk ?_; (try simp only [Lm, La, Lc, Ln, Lt, Ld, Lr, Li, true_or, or_true, true_and, and_true]); omega) | (simp <;> fail) | skip) [runM_nil, wm_u8, e1, ho]
    refine hK _ _ ?_
    clear hK K
    first | refine pwp_sr ?_ | refine pwp_regionM ?_
    intro K hK
    simp (disch := first | (refine Ok.mk ?_; (try simp only [Lm, La, Lc, Ln, Lt, Ld, Lr, Li, true_or, or_true, true_and, and_true]); omega) | (simp <;> fail) | skip) [runM_nil]
    refine hK _ _ ?_
    clear hK K
    refine ⟨k / 128, by omega, _, .refl _, acc ++ [k % 128 + 128], by rw [List.append_assoc]; exact ha, by omega, rfl, ?_⟩
    simp [keepL_MS, keepA, getS]
  · refine pwp_exit ?_
    rw [vb_small (by omega)] at ha
    first | refine pwp_sr ?_ | refine pwp_regionM ?_
    intro K hK
    simp (disch := first | (refine Ok.mk ?_; (try simp only [Lm, La, Lc, Ln, Lt, Ld, Lr, Li, true_or, or_true, true_and, and_true]); omega) | (simp <;> fail) | skip) [runM_nil]
    refine hK _ _ ?_
    clear hK K
    rw [← ha]
    refine pwp_ret ⟨.inr rfl, _, _, (by simp (disch := first | (refine Ok.mk ?_; (try simp only [Lm, La, Lc, Ln, Lt, Ld, Lr, Li, true_or, or_true, true_and, and_true]); omega) | (simp <;> fail) | skip) [runM_nil, resL]; rfl), .refl _, by simp (disch := first | (refine Ok.mk ?_; (try simp only [Lm, La, Lc, Ln, Lt, Ld, Lr, Li, true_or, or_true, true_and, and_true]); omega) | (simp <;> fail) | skip) [resV], rfl⟩
end Go.Proofs.Ytibmolekndeofaa.E
/- Varints: frames, and what is taken off. -/
namespace Go.Proofs.Ytibmolekndeofaa.E
open Go Go.RowKit Go.Proofs
set_option linter.unusedVariables false
set_option linter.unusedSimpArgs false
theorem ci_u8 (l : List Nat) : (ci l).map (PV.int .u8) = l.map u8 := by simp [ci, Function.comp_def, u8]
theorem ci_len (l : List Nat) : (ci l).length = l.length := List.length_map ..
attribute [simp] ci_u8 ci_len
theorem clone_ok {s : Nat} {xs : List PV} {o : Bool} {l : List Nat} (hx : xs = l.map u8) (hs : s = 1 ∨ l.length = 0) (hl : l.length ≤ 100000000000000) :
    PSpec Try.prog 65 [.lst s xs o] (bV l true) := by
  subst hx
  intro H
  refine spec_ofU t65 (by simp [p65]) ?_
  simp only [p65]
  first | refine pwp_sr ?_ | refine pwp_regionM ?_
  intro K hK
  simp (disch := first | (refine Ok.mk ?_; (try simp only [Lm, La, Lc, Ln, Lt, Ld, Lr, Li, true_or, or_true, true_and, and_true]); omega) | (simp <;> fail) | skip) [runM_nil]
  refine hK _ _ ?_
  clear hK K
  cases l with
  | nil =>
    first | refine pwp_rif ?_ | refine pwp_rifE ?_
    intro K hK
    simp (disch := first | (refine Ok.mk ?_; (try simp only [Lm, La, Lc, Ln, Lt, Ld, Lr, Li, true_or, or_true, true_and, and_true]); omega) | (simp <;> fail) | skip) [runM_nil]
    refine ⟨hK _ _ ?_, hK _ _ ?_⟩ <;> clear hK K
    · refine ifF (by simp (disch := first | (refine Ok.mk ?_; (try simp only [Lm, La, Lc, Ln, Lt, Ld, Lr, Li, true_or, or_true, true_and, and_true]); omega) | (simp <;> fail) | skip) [runM_nil]) (pwp_skip ?_)
      first | refine pwp_sr ?_ | refine pwp_regionM ?_
      intro K hK
      simp (disch := first | (refine Ok.mk ?_; (try simp only [Lm, La, Lc, Ln, Lt, Ld, Lr, Li, true_or, or_true, true_and, and_true]); omega) | (simp <;> fail) | skip) [runM_nil]
      refine hK _ _ ?_
      clear hK K
      refine pwp_ret ⟨.inr rfl, _, _, _, (by simp (disch := first | (refine Ok.mk ?_; (try simp only [Lm, La, Lc, Ln, Lt, Ld, Lr, Li, true_or, or_true, true_and, and_true]); omega) | (simp <;> fail) | skip) [runM_nil, resL]; rfl), .refl _, (by simp (disch := first | (refine Ok.mk ?_; (try simp only [Lm, La, Lc, Ln, Lt, Ld, Lr, Li, true_or, or_true, true_and, and_true]); omega) | (simp <;> fail) | skip) [resV]), rfl, rfl⟩
    · refine ifT (by simp (disch := first | (refine Ok.mk ?_; (try simp only [Lm, La, Lc, Ln, Lt, Ld, Lr, Li, true_or, or_true, true_and, and_true]); omega) | (simp <;> fail) | skip) [runM_nil]) ?_
      first | refine pwp_sr ?_ | refine pwp_regionM ?_
      intro K hK
      simp (disch := first | (refine Ok.mk ?_; (try simp only [Lm, La, Lc, Ln, Lt, Ld, Lr, Li, true_or, or_true, true_and, and_true]); omega) | (simp <;> fail) | skip) [runM_nil]
      refine hK _ _ ?_
      clear hK K
      refine pwp_ret ⟨.inr rfl, _, _, _, (by simp (disch := first | (refine Ok.mk ?_; (try simp only [Lm, La, Lc, Ln, Lt, Ld, Lr, Li, true_or, or_true, true_and, and_true]); omega) | (simp <;> fail) | skip) [runM_nil, resL]; rfl), .refl _, (by simp (disch := first | (refine Ok.mk ?_; (try simp only [Lm, La, Lc, Ln, Lt, Ld, Lr, Li, true_or, or_true, true_and, and_true]); omega) | (simp <;> fail) | skip) [resV]), rfl, rfl⟩
  | cons x l =>
    obtain rfl : s = 1 := by simpa using hs
    rw [Lc] at hl
    first | refine pwp_rif ?_ | refine pwp_rifE ?_
    intro K hK
    simp (disch := first | (refine Ok.mk ?_; (try simp only [Lm, La, Lc, Ln, Lt, Ld, Lr, Li, true_or, or_true, true_and, and_true]); omega) | (simp <;> fail) | skip) [runM_nil]
    refine hK _ _ ?_
    clear hK K
    refine ifF (by simp (disch := first | (refine Ok.mk ?_; (try simp only [Lm, La, Lc, Ln, Lt, Ld, Lr, Li, true_or, or_true, true_and, and_true]); omega) | (simp <;> fail) | skip) [runM_nil]) (pwp_skip ?_)
    first | refine pwp_sr ?_ | refine pwp_regionM ?_
    intro K hK
    simp (disch := first | (refine Ok.mk ?_; (try simp only [Lm, La, Lc, Ln, Lt, Ld, Lr, Li, true_or, or_true, true_and, and_true]); omega) | (simp <;> fail) | skip) [runM_nil]
    refine hK _ _ ?_
    clear hK K
    refine pwp_ret ⟨.inr rfl, _, _, _, (by simp (disch := first | (refine Ok.mk ?_; (try simp only [Lm, La, Lc, Ln, Lt, Ld, Lr, Li, true_or, or_true, true_and, and_true]); omega) | (simp <;> fail) | skip) [runM_nil, resL]; rfl), .refl _, (by simp (disch := first | (refine Ok.mk ?_; (try simp only [Lm, La, Lc, Ln, Lt, Ld, Lr, Li, true_or, or_true, true_and, and_true]); omega) | (simp <;> fail) | skip) [resV]), rfl, rfl⟩
theorem frame_ok {s : Nat} {xs : List PV} {o : Bool} {b : List Nat} (hx : xs = b.map u8) (hs : s = 1 ∨ b.length = 0) (t : List Nat) (hl : b.length + t.length ≤ 100000000000000) :
    PSpec Try.prog 37 [.lst s xs o, .str (ci t)] (bV (b ++ vb t.length ++ t) true) := by
  intro H
  have h10 := vb_length_le10 (n := t.length) (by omega)
  have c := put_ok (s := s) (o := false) hx hs t.length (by omega) (by omega)
  refine spec_of t37 (by simp [p37]) ?_
  simp only [p37]
  first | refine pwp_sr ?_ | refine pwp_regionM ?_
  intro K hK
  simp (disch := first | (refine Ok.mk ?_; (try simp only [Lm, La, Lc, Ln, Lt, Ld, Lr, Li, true_or, or_true, true_and, and_true]); omega) | (simp <;> fail) | skip) [runM_nil]
  refine hK _ _ ?_
  clear hK K
  first | refine pwp_sr ?_ | refine pwp_regionM ?_
  intro K hK
  simp (disch := first | (refine Ok.mk ?_; (try simp only [Lm, La, Lc, Ln, Lt, Ld, Lr, Li, true_or, or_true, true_and, and_true]); omega) | (simp <;> fail) | skip) [runM_nil]
  refine useP (c) ?_
  simp (disch := first | (refine Ok.mk ?_; (try simp only [Lm, La, Lc, Ln, Lt, Ld, Lr, Li, true_or, or_true, true_and, and_true]); omega) | (simp <;> fail) | skip) [runM_nil]
  refine hK _ _ ?_
  clear hK K
  refine pwp_ret ⟨.inr rfl, _, _, (by simp (disch := first | (refine Ok.mk ?_; (try simp only [Lm, La, Lc, Ln, Lt, Ld, Lr, Li, true_or, or_true, true_and, and_true]); omega) | (simp <;> fail) | skip) [runM_nil, resL]; rfl), .refl _, by simp (disch := first | (refine Ok.mk ?_; (try simp only [Lm, La, Lc, Ln, Lt, Ld, Lr, Li, true_or, or_true, true_and, and_true]); omega) | (simp <;> fail) | skip) [resV], rfl⟩
theorem num_step {s : List Nat} {i : Nat} (hi : i < s.length) (h : num (s.take i) < 128 ^ i) : num (s.take (i + 1)) = num (s.take i) + s.getD i 0 % 128 * 128 ^ i := by
  rw [take_snoc hi, num_snoc, List.length_take, Nat.min_eq_left (by omega)]
end Go.Proofs.Ytibmolekndeofaa.E
