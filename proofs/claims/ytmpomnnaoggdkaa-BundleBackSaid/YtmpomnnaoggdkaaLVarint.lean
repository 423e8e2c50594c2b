import Derived.Test.YtmpomnnaoggdkaaLBase
-- varints as lists of naturals: what is put, what is taken (no program in sight)
set_option linter.unusedVariables false
set_option linter.unusedSimpArgs false
namespace Go.Proofs.Ytmpomnnaoggdkaa.Pure
open Go.RowKit Go.Proofs.YtmpomnnaoggdkaaW.PrintWords Go.Proofs.YtmpomnnaoggdkaaW.PrintLast Go.Proofs.YtmpomnnaoggdkaaW.PrintMore
def vb (n : Nat) : List Nat := if n < 128 then [n] else (n % 128 + 128) :: vb (n / 128)
termination_by n
decreasing_by omega
theorem vb_small {n : Nat} (h : n < 128) : vb n = [n] := by rw [vb, if_pos h]
theorem vb_big {n : Nat} (h : ¬ n < 128) : vb n = (n % 128 + 128) :: vb (n / 128) := by rw [vb, if_neg h]
theorem vb_lt (n : Nat) : ∀ x ∈ vb n, x < 256 := by
  induction n using Nat.strongRecOn with
  | ind n ih =>
    intro x hx
    by_cases h : n < 128
    · rw [vb_small h, List.mem_singleton] at hx; omega
    · rw [vb_big h, List.mem_cons] at hx
      rcases hx with rfl | hx
      · omega
      · exact ih (n / 128) (by omega) x hx
theorem vb_length_pos (n : Nat) : 1 ≤ (vb n).length := by
  by_cases h : n < 128
  · rw [vb_small h]; simp
  · rw [vb_big h]; simp
theorem vb_len_le : ∀ (s n : Nat), 1 ≤ s → n < 128 ^ s → (vb n).length ≤ s
  | 0, n, h, _ => absurd h (by omega)
  | s + 1, n, _, h => by
    by_cases h1 : n < 128
    · rw [vb_small h1]; simp
    · rw [vb_big h1, List.length_cons]
      have hs : 1 ≤ s := by
        rcases Nat.eq_zero_or_pos s with rfl | hs
        · exact absurd (by simpa using h) h1
        · exact hs
      have := vb_len_le s (n / 128) hs (by rw [Nat.pow_succ] at h; exact Nat.div_lt_of_lt_mul (by rw [Nat.mul_comm]; exact h))
      omega
theorem vb_len_ge : ∀ (s n : Nat), 128 ^ s ≤ n → s + 1 ≤ (vb n).length
  | 0, n, _ => vb_length_pos n
  | s + 1, n, h => by
    have hp : 1 ≤ 128 ^ s := Nat.pow_pos (by omega)
    have h1 : ¬ n < 128 := by rw [Nat.pow_succ] at h; omega
    rw [vb_big h1, List.length_cons]
    have := vb_len_ge s (n / 128) (by rw [Nat.pow_succ] at h; exact (Nat.le_div_iff_mul_le (by omega)).2 h)
    omega
theorem vb_length_le10 {n : Nat} (h : n < 18446744073709551616) : (vb n).length ≤ 10 := vb_len_le 10 n (by omega) (Nat.lt_of_lt_of_le h (by decide))
/-! what bytes spell -/
def num : List Nat → Nat
  | [] => 0
  | x :: s => x % 128 + 128 * num s
theorem num_snoc : ∀ (p : List Nat) (x : Nat), num (p ++ [x]) = num p + x % 128 * 128 ^ p.length
  | [], x => by simp [num]
  | y :: p, x => by
    rw [List.cons_append, num, num, num_snoc p x, List.length_cons, Nat.pow_succ, Nat.mul_add, ← Nat.add_assoc, Nat.mul_left_comm, Nat.mul_comm 128 (128 ^ p.length)]
theorem num_lt : ∀ p : List Nat, num p < 128 ^ p.length
  | [] => by simp [num]
  | y :: p => by
    have := num_lt p
    rw [num, List.length_cons, Nat.pow_succ]
    omega
theorem num_vb (n : Nat) : num (vb n) = n := by
  induction n using Nat.strongRecOn with
  | ind n ih =>
    by_cases h : n < 128
    · rw [vb_small h, num, num]; omega
    · rw [vb_big h, num, ih (n / 128) (by omega)]; omega
theorem vb_num : ∀ (q : List Nat) (x : Nat), (∀ y ∈ q, 128 ≤ y ∧ y < 256) → x < 128 → (q = [] ∨ x ≠ 0) → vb (num (q ++ [x])) = q ++ [x]
  | [], x, _, hx, _ => by
    rw [List.nil_append, num, num, show x % 128 + 128 * 0 = x by omega, vb_small hx]
  | y :: q, x, hq, hx, h => by
    have h0 : x ≠ 0 := h.resolve_left (by simp)
    have hy := hq y (List.mem_cons_self ..)
    have hp : 1 ≤ 128 ^ q.length := Nat.pow_pos (by omega)
    have h1 : 1 ≤ num (q ++ [x]) := by
      rw [num_snoc, Nat.mod_eq_of_lt hx]
      have : 1 * 1 ≤ x * 128 ^ q.length := Nat.mul_le_mul (by omega) hp
      omega
    rw [List.cons_append, num, vb_big (by omega)]
    rw [show (y % 128 + 128 * num (q ++ [x])) % 128 + 128 = y by omega, show (y % 128 + 128 * num (q ++ [x])) / 128 = num (q ++ [x]) by omega]
    rw [vb_num q x (fun z hz => hq z (List.mem_cons_of_mem _ hz)) hx (Or.inr h0)]
/-! what is taken -/
def lead : List Nat → Nat
  | [] => 0
  | x :: s => if 128 ≤ x then lead s + 1 else 0
theorem lead_le : ∀ s : List Nat, lead s ≤ s.length
  | [] => Nat.le_refl _
  | x :: s => by
    rw [lead]
    split
    · simpa using lead_le s
    · simp
theorem lead_hi : ∀ (s : List Nat) (j : Nat), j < lead s → 128 ≤ s.getD j 0
  | [], j, h => absurd h (by simp [lead])
  | x :: s, 0, h => by
    rw [lead] at h
    split at h
    · assumption
    · omega
  | x :: s, j + 1, h => by
    rw [lead] at h
    split at h
    · simpa using lead_hi s j (by omega)
    · omega
theorem lead_lo : ∀ s : List Nat, lead s < s.length → s.getD (lead s) 0 < 128
  | [], h => absurd h (by simp)
  | x :: s, h => by
    by_cases hx : 128 ≤ x
    · rw [lead, if_pos hx] at h ⊢
      simpa using lead_lo s (by simpa using h)
    · rw [lead, if_neg hx]
      simpa using Nat.lt_of_not_le hx
theorem lead_vb : ∀ (s n : Nat) (r : List Nat), (vb n).length = s → lead (vb n ++ r) + 1 = (vb n).length
  | 0, n, r, h => by have := vb_length_pos n; omega
  | s + 1, n, r, h => by
    by_cases h1 : n < 128
    · rw [vb_small h1]; simp only [List.cons_append, lead, if_neg (show ¬ 128 ≤ n by omega), List.length_cons, List.length_nil]
    · rw [vb_big h1, List.length_cons] at h ⊢
      rw [List.cons_append, lead, if_pos (by omega), lead_vb s (n / 128) r (by omega)]
def bad (s : List Nat) (i : Nat) : Prop := (s.getD i 0 = 0 ∧ 0 < i) ∨ (i = 9 ∧ 1 < s.getD i 0)
instance (s : List Nat) (i : Nat) : Decidable (bad s i) := by unfold bad; infer_instance
def vtake (s : List Nat) : Nat × List Nat × Nat :=
  if 10 ≤ lead s then (0, [], 3) else if lead s = s.length then (0, [], 2) else if bad s (lead s) then (0, [], 3)
  else (num (s.take (lead s + 1)), s.drop (lead s + 1), 0)
theorem take_snoc {s : List Nat} {i : Nat} (h : i < s.length) : s.take (i + 1) = s.take i ++ [s.getD i 0] := by
  rw [List.take_succ_eq_append_getElem h, List.getD_eq_getElem?_getD, List.getElem?_eq_getElem h]; rfl
theorem take_hi {s : List Nat} {i : Nat} (hs : ∀ x ∈ s, x < 256) (hi : i ≤ lead s) : ∀ y ∈ s.take i, 128 ≤ y ∧ y < 256 := by
  intro y hy
  refine ⟨?_, hs y (List.mem_of_mem_take hy)⟩
  obtain ⟨j, hj, rfl⟩ := List.mem_iff_getElem.1 hy
  rw [List.length_take] at hj
  have := lead_hi s j (by omega)
  rw [List.getD_eq_getElem?_getD, List.getElem?_eq_getElem (by omega)] at this
  rw [List.getElem_take]
  exact this
theorem canon {s : List Nat} (hs : ∀ x ∈ s, x < 256) (h10 : lead s < 10) (hl : lead s < s.length) (hb : ¬ bad s (lead s)) :
    num (s.take (lead s + 1)) < 18446744073709551616 ∧ vb (num (s.take (lead s + 1))) = s.take (lead s + 1) := by
  have hx := lead_lo s hl
  have hn := num_lt (s.take (lead s))
  rw [List.length_take, Nat.min_eq_left (by omega)] at hn
  unfold bad at hb
  refine ⟨?_, ?_⟩
  · rw [take_snoc hl, num_snoc, List.length_take, Nat.min_eq_left (by omega), Nat.mod_eq_of_lt hx]
    rcases Nat.lt_or_ge (lead s) 9 with h9 | h9
    · have h3 : (128 : Nat) ^ (lead s) ≤ 128 ^ 8 := Nat.pow_le_pow_right (by omega) (by omega)
      have h4 : s.getD (lead s) 0 * 128 ^ (lead s) ≤ 127 * 128 ^ 8 := Nat.mul_le_mul (by omega) h3
      omega
    · have h9' : lead s = 9 := by omega
      have h5 : s.getD (lead s) 0 ≤ 1 := by omega
      have h4 : s.getD (lead s) 0 * 128 ^ (lead s) ≤ 1 * 128 ^ 9 := Nat.mul_le_mul h5 (by rw [h9']; exact Nat.le_refl _)
      rw [h9'] at hn h4 ⊢
      omega
  · rw [take_snoc hl]
    refine vb_num _ _ (take_hi hs (Nat.le_refl _)) hx ?_
    by_cases h0 : lead s = 0
    · left; rw [h0]; rfl
    · right; omega
theorem not_canon {s : List Nat} (h10 : lead s < 10) (hl : lead s < s.length) (hb : bad s (lead s)) :
    vb (num (s.take (lead s + 1)) % 18446744073709551616) ≠ s.take (lead s + 1) := by
  intro h
  have hx := lead_lo s hl
  have e := congrArg num h
  rw [num_vb] at e
  have hlen := congrArg List.length h
  rw [List.length_take, Nat.min_eq_left (by omega)] at hlen
  rcases hb with ⟨h0, hi⟩ | ⟨h9, h1⟩
  · have h2 : num (s.take (lead s + 1)) < 128 ^ lead s := by
      rw [take_snoc hl, h0, num_snoc]
      have := num_lt (s.take (lead s))
      rw [List.length_take, Nat.min_eq_left (by omega)] at this
      simpa using this
    rw [← e] at h2
    have := vb_len_le (lead s) _ hi h2
    omega
  · have h2 : 2 * 128 ^ 9 ≤ num (s.take (lead s + 1)) := by
      rw [take_snoc hl, num_snoc, List.length_take, Nat.min_eq_left (by omega), Nat.mod_eq_of_lt hx, h9]
      have : 2 * 128 ^ 9 ≤ s.getD 9 0 * 128 ^ 9 := Nat.mul_le_mul (by rw [h9] at h1; omega) (Nat.le_refl _)
      omega
    have h3 : num (s.take (lead s + 1)) % 18446744073709551616 < 18446744073709551616 := Nat.mod_lt _ (by omega)
    omega
theorem vtake_vb {n : Nat} (h : n < 18446744073709551616) (r : List Nat) : vtake (vb n ++ r) = (n, r, 0) := by
  have hl := lead_vb _ n r rfl
  have h10 := vb_length_le10 h
  have hp := vb_length_pos n
  have e1 : (vb n ++ r).take (lead (vb n ++ r) + 1) = vb n := by rw [hl, List.take_left]
  have hlt : lead (vb n ++ r) < (vb n ++ r).length := by rw [List.length_append]; omega
  unfold vtake
  rw [if_neg (by omega), if_neg (by omega), if_neg, hl, List.take_left, List.drop_left, num_vb]
  intro hb
  refine not_canon (by omega) hlt hb ?_
  rw [e1, num_vb, Nat.mod_eq_of_lt h]
theorem vtake_ok {s : List Nat} (hs : ∀ x ∈ s, x < 256) (h : (vtake s).2.2 = 0) : (vtake s).1 < 18446744073709551616 ∧ vb (vtake s).1 ++ (vtake s).2.1 = s := by
  unfold vtake at h ⊢
  by_cases h1 : 10 ≤ lead s
  · rw [if_pos h1] at h; exact absurd h (by simp)
  rw [if_neg h1] at h ⊢
  by_cases h2 : lead s = s.length
  · rw [if_pos h2] at h; exact absurd h (by simp)
  rw [if_neg h2] at h ⊢
  by_cases h3 : bad s (lead s)
  · rw [if_pos h3] at h; exact absurd h (by simp)
  rw [if_neg h3]
  obtain ⟨c1, c2⟩ := canon hs (by omega) (Nat.lt_of_le_of_ne (lead_le s) h2) h3
  refine ⟨c1, ?_⟩
  rw [c2, List.take_append_drop]
theorem vtake_rest {s : List Nat} : (vtake s).2.1.length ≤ s.length ∧ ∀ x ∈ (vtake s).2.1, x ∈ s := by
  unfold vtake
  split
  · simp
  split
  · simp
  split
  · simp
  · refine ⟨by simp, fun x hx => List.mem_of_mem_drop hx⟩
theorem vtake_lt {s : List Nat} (hs : ∀ x ∈ s, x < 256) : (vtake s).1 < 18446744073709551616 := by
  unfold vtake
  split
  · simp
  split
  · simp
  split
  · simp
  · have := lead_le s
    exact (canon hs (by omega) (by omega) (by assumption)).1
/-! the length of a number in bits -/
def lenT : ByteArray := ⟨#[0, 1, 2, 2, 3, 3, 3, 3, 4, 4, 4, 4, 4, 4, 4, 4, 5, 5, 5, 5, 5, 5, 5, 5, 5, 5, 5, 5, 5, 5, 5, 5, 6, 6, 6, 6, 6, 6, 6, 6, 6, 6, 6, 6, 6, 6, 6, 6, 6, 6, 6, 6, 6, 6, 6, 6, 6, 6, 6, 6, 6, 6, 6, 6, 7, 7, 7, 7, 7, 7, 7, 7, 7, 7, 7, 7, 7, 7, 7, 7, 7, 7, 7, 7, 7, 7, 7, 7, 7, 7, 7, 7, 7, 7, 7, 7, 7, 7, 7, 7, 7, 7, 7, 7, 7, 7, 7, 7, 7, 7, 7, 7, 7, 7, 7, 7, 7, 7, 7, 7, 7, 7, 7, 7, 7, 7, 7, 7, 8, 8, 8, 8, 8, 8, 8, 8, 8, 8, 8, 8, 8, 8, 8, 8, 8, 8, 8, 8, 8, 8, 8, 8, 8, 8, 8, 8, 8, 8, 8, 8, 8, 8, 8, 8, 8, 8, 8, 8, 8, 8, 8, 8, 8, 8, 8, 8, 8, 8, 8, 8, 8, 8, 8, 8, 8, 8, 8, 8, 8, 8, 8, 8, 8, 8, 8, 8, 8, 8, 8, 8, 8, 8, 8, 8, 8, 8, 8, 8, 8, 8, 8, 8, 8, 8, 8, 8, 8, 8, 8, 8, 8, 8, 8, 8, 8, 8, 8, 8, 8, 8, 8, 8, 8, 8, 8, 8, 8, 8, 8, 8, 8, 8, 8, 8, 8, 8, 8, 8, 8, 8, 8, 8, 8, 8, 8, 8]⟩
def isLen (n l : Nat) : Prop := n < 2 ^ l ∧ (l = 0 ∨ 2 ^ (l - 1) ≤ n)
instance (n l : Nat) : Decidable (isLen n l) := by unfold isLen; infer_instance
theorem lenT_at : ∀ v ∈ List.range 256, ∃ l ∈ List.range 9, bt lenT (v : Int) = (l : Int) ∧ isLen v l := by decide +kernel
theorem isLen_up {n l m : Nat} (hn : 2 ^ m ≤ n) (h : isLen (n / 2 ^ m) l) : isLen n (l + m) := by
  obtain ⟨h1, h2⟩ := h
  have hp : 0 < 2 ^ m := Nat.two_pow_pos m
  have hq : 1 ≤ n / 2 ^ m := (Nat.le_div_iff_mul_le hp).2 (by omega)
  have hl : l ≠ 0 := by
    intro h0
    rw [h0] at h1
    omega
  refine ⟨?_, Or.inr ?_⟩
  · rw [Nat.pow_add]; exact (Nat.div_lt_iff_lt_mul hp).1 h1
  · have h3 := h2.resolve_left hl
    rw [show l + m - 1 = (l - 1) + m by omega, Nat.pow_add]
    exact (Nat.le_div_iff_mul_le hp).1 h3
theorem isLen_vb {n l : Nat} (h : isLen n l) : ((vb n).length : Int) = if 1 < (l + 6) / 7 then (((l + 6) / 7 : Nat) : Int) else 1 := by
  obtain ⟨h1, h2⟩ := h
  have hle : n < 128 ^ ((l + 6) / 7) := by
    rw [show (128 : Nat) = 2 ^ 7 from rfl, ← Nat.pow_mul]
    exact Nat.lt_of_lt_of_le h1 (Nat.pow_le_pow_right (by omega) (by omega))
  split
  · next hs =>
    have hge : 128 ^ ((l + 6) / 7 - 1) ≤ n := by
      rw [show (128 : Nat) = 2 ^ 7 from rfl, ← Nat.pow_mul]
      exact Nat.le_trans (Nat.pow_le_pow_right (by omega) (by omega)) (h2.resolve_left (by omega))
    have a := vb_len_le _ n (by omega) hle
    have b := vb_len_ge _ n hge
    omega
  · next hs =>
    have h128 : n < 128 := by
      refine Nat.lt_of_lt_of_le hle ?_
      exact Nat.le_trans (Nat.pow_le_pow_right (by omega) (show (l + 6) / 7 ≤ 1 by omega)) (by simp)
    rw [vb_small h128]; rfl
end Go.Proofs.Ytmpomnnaoggdkaa.Pure
