import Derived.Test.YtmpomnnaoggdkaaLClone
import Derived.Test.YtmpomnnaoggdkaaLVarint
import Derived.Test.YtmpomnnaoggdkaaPAx5
import Derived.Test.YtmpomnnaoggdkaaPAx1
-- what varint's functions answer
set_option linter.unusedVariables false
set_option linter.unusedSimpArgs false
namespace Go.Proofs.Ytmpomnnaoggdkaa.Pure
open Go.RowKit Go.Proofs.Ytmpomnnaoggdkaa.PA Go.Proofs.YtmpomnnaoggdkaaW.PrintWords Go.Proofs.YtmpomnnaoggdkaaW.PrintLast Go.Proofs.YtmpomnnaoggdkaaW.PrintMore
theorem j0_eq (k : Nat) (x c : Int) : bits_Len64.j0 (k + 1) x c = (if x ≥ 65536 then (if (x / 65536) ≥ 256 then (if 0 ≤ (((x / 65536) / 256) % 256) then (if (((x / 65536) / 256) % 256) < 256 then some (wrap64 ((wrap64 ((wrap64 (c + 16)) + 8)) + (wrap64 (bt lenT (((x / 65536) / 256) % 256))))) else none) else none) else (if 0 ≤ ((x / 65536) % 256) then (if ((x / 65536) % 256) < 256 then some (wrap64 ((wrap64 (c + 16)) + (wrap64 (bt lenT ((x / 65536) % 256))))) else none) else none)) else (if x ≥ 256 then (if 0 ≤ ((x / 256) % 256) then (if ((x / 256) % 256) < 256 then some (wrap64 ((wrap64 (c + 8)) + (wrap64 (bt lenT ((x / 256) % 256))))) else none) else none) else (if 0 ≤ (x % 256) then (if (x % 256) < 256 then some (wrap64 (c + (wrap64 (bt lenT (x % 256))))) else none) else none))) := rfl
theorem len_j0 (n c : Nat) (h : n < 4294967296) (hc : c ≤ 32) : ∃ l : Nat, l ≤ 32 ∧ isLen n l ∧ Ev (fun k => bits_Len64.j0 k (n : Int) (c : Int)) ((l + c : Nat) : Int) := by
  by_cases h1 : n < 256
  · obtain ⟨l, hl, e, hi⟩ := lenT_at n (List.mem_range.2 h1)
    have hl' := List.mem_range.1 hl
    refine ⟨l, by omega, hi, Ev.succ ?_⟩
    simp only [j0_eq]
    refine Ev.neg (by omega) (Ev.neg (by omega) (Ev.pos (by omega) (Ev.pos (by omega) (Ev.done ?_))))
    rw [show ((n : Int) % 256) = ((n : Nat) : Int) from by omega, e]
    simp only [wrap64, Option.some.injEq]; omega
  by_cases h2 : n < 65536
  · obtain ⟨l, hl, e, hi⟩ := lenT_at (n / 256) (List.mem_range.2 (by omega))
    have hl' := List.mem_range.1 hl
    refine ⟨l + 8, by omega, isLen_up (m := 8) (by omega) hi, Ev.succ ?_⟩
    simp only [j0_eq]
    refine Ev.neg (by omega) (Ev.pos (by omega) (Ev.pos (by omega) (Ev.pos (by omega) (Ev.done ?_))))
    rw [show ((n : Int) / 256 % 256) = ((n / 256 : Nat) : Int) from by omega, e]
    simp only [wrap64, Option.some.injEq]; omega
  by_cases h3 : n < 16777216
  · obtain ⟨l, hl, e, hi⟩ := lenT_at (n / 65536) (List.mem_range.2 (by omega))
    have hl' := List.mem_range.1 hl
    refine ⟨l + 16, by omega, isLen_up (m := 16) (by omega) hi, Ev.succ ?_⟩
    simp only [j0_eq]
    refine Ev.pos (by omega) (Ev.neg (by omega) (Ev.pos (by omega) (Ev.pos (by omega) (Ev.done ?_))))
    rw [show ((n : Int) / 65536 % 256) = ((n / 65536 : Nat) : Int) from by omega, e]
    simp only [wrap64, Option.some.injEq]; omega
  · obtain ⟨l, hl, e, hi⟩ := lenT_at (n / 16777216) (List.mem_range.2 (by omega))
    have hl' := List.mem_range.1 hl
    refine ⟨l + 24, by omega, isLen_up (m := 24) (by omega) hi, Ev.succ ?_⟩
    simp only [j0_eq]
    refine Ev.pos (by omega) (Ev.pos (by omega) (Ev.pos (by omega) (Ev.pos (by omega) (Ev.done ?_))))
    rw [show ((n : Int) / 65536 / 256 % 256) = ((n / 16777216 : Nat) : Int) from by omega, e]
    simp only [wrap64, Option.some.injEq]; omega
theorem len_ev (n : Nat) (h : n < 18446744073709551616) : ∃ l : Nat, l ≤ 64 ∧ isLen n l ∧ Ev (fun k => bits_Len64.f k (n : Int)) (l : Int) := by
  simp only [bits_Len64.f]
  by_cases h1 : n < 4294967296
  · obtain ⟨l, hl, hi, e⟩ := len_j0 n 0 h1 (by omega)
    exact ⟨l, by omega, hi, Ev.neg (by omega) e⟩
  · obtain ⟨l, hl, hi, e⟩ := len_j0 (n / 4294967296) 32 (by omega) (by omega)
    exact ⟨l + 32, by omega, isLen_up (m := 32) (by omega) hi, Ev.pos (by omega) e⟩
theorem size_ev (n : Nat) (h : n < 18446744073709551616) : Ev (fun k => varint_Size.f k (n : Int)) ((vb n).length : Int) := by
  obtain ⟨l, hl, hi, e⟩ := len_ev n h
  simp only [varint_Size.f]
  refine Ev.bind e (Ev.done ?_)
  rw [isLen_vb hi, w64 (x := (l : Int) + 7) (by omega) (by omega), w64 (x := (l : Int) + 7 - 1) (by omega) (by omega)]
  rw [show ((l : Int) + 7 - 1) = ((l + 6 : Nat) : Int) from by omega, show ((7 : Int)) = ((7 : Nat) : Int) from rfl, tdiv_nat, w64n _ (by omega)]
  unfold mx
  congr 1
  by_cases hs : 1 < (l + 6) / 7
  · rw [if_pos hs, if_pos (by omega)]
  · rw [if_neg hs, if_neg (by omega)]
theorem or128 : ∀ v ∈ List.range 256, Go.bits .or .u8 (v : Int) 128 = ((v % 128 + 128 : Nat) : Int) := by decide +kernel
theorem andNot128 : ∀ v ∈ List.range 256, Go.bits .andNot .u8 (v : Int) 128 = ((v % 128 : Nat) : Int) := by decide +kernel
theorem put_loop (n : Nat) : ∀ acc : List Nat, acc.length + (vb n).length < 140737488355328 → Ev (fun k => varint_Put.l0 k (n : Int) (ci acc)) (ci (acc ++ vb n)) := by
  induction n using Nat.strongRecOn with
  | ind n ih =>
    intro acc hl
    refine Ev.succ ?_
    simp only [varint_Put.l0, ci_length]
    by_cases h : n < 128
    · rw [vb_small h] at hl ⊢
      refine Ev.neg (by omega) (Ev.pos (by simp at hl; omega) (Ev.done ?_))
      rw [show ((n : Int) % 256) = ((n : Nat) : Int) from by omega, ci_append, ci_cons, ci_nil]
    · rw [vb_big h] at hl ⊢
      rw [List.length_cons] at hl
      refine Ev.pos (by omega) (Ev.pos (by omega) ?_)
      have e := or128 (n % 256) (List.mem_range.2 (by omega))
      rw [show ((n : Int) % 256) = ((n % 256 : Nat) : Int) from by omega, e, show ((n : Int) / 128) = ((n / 128 : Nat) : Int) from by omega, show n % 256 % 128 + 128 = n % 128 + 128 by omega]
      have := ih (n / 128) (by omega) (acc ++ [n % 128 + 128]) (by rw [List.length_append]; simp; omega)
      rw [ci_append, ci_cons, ci_nil, List.append_assoc, List.singleton_append] at this
      exact this
theorem put_ev {b : List Nat} (hl : b.length ≤ 140737488351232) (n : Nat) (h : n < 18446744073709551616) : Ev (fun k => varint_Put.f k (ci b) (n : Int)) (ci (b ++ vb n)) := by
  have h10 := vb_length_le10 h
  simp only [varint_Put.f, ci_length, List.replicate_zero, Option.bind_some, List.length_nil, List.nil_append]
  refine Ev.bind (size_ev n h) ?_
  rw [w64 (by omega) (by omega)]
  refine Ev.pos (by omega) (Ev.pos (by omega) (Ev.pos (by omega) (put_loop n b (by omega))))
theorem bits_or_nat64 (a b : Nat) (ha : a < 18446744073709551616) (hb : b < 18446744073709551616) : Go.bits .or .u64 a b = ((a ||| b : Nat) : Int) := by
  have h : a ||| b < 2 ^ 64 := Nat.or_lt_two_pow ha hb
  have ha' : a < 2 ^ 64 := ha
  have hb' : b < 2 ^ 64 := hb
  simp only [Go.bits, BitVec.ofInt_natCast, BitVec.toNat_or, BitVec.toNat_ofNat]
  simp only [IntKind.wrap, IntKind.bits, IntKind.signed, Nat.mod_eq_of_lt ha', Nat.mod_eq_of_lt hb', Bool.false_and, Bool.false_eq_true, if_false]
  omega
theorem wu64 (n : Nat) : IntKind.u64.wrap (n : Int) = ((n % 18446744073709551616 : Nat) : Int) := by
  simp only [IntKind.wrap, IntKind.bits, IntKind.signed, Bool.false_and, Bool.false_eq_true, if_false]
  omega
theorem or_step {i x a : Nat} (hi : i ≤ 9) (hx : x < 256) (h9 : i = 9 → x % 128 ≤ 1) (ha : a < 128 ^ i) :
    Go.bits .or .u64 (a : Int) (shl .u64 (IntKind.u64.wrap (Go.bits .andNot .u8 (x : Int) 128)) (wrap64 (7 * (i : Int)))) = ((a + x % 128 * 128 ^ i : Nat) : Int) := by
  have e7 : (128 : Nat) ^ i = 2 ^ (7 * i) := by rw [Nat.pow_mul]
  have hlt : x % 128 * 128 ^ i < 18446744073709551616 := by
    rcases Nat.lt_or_ge i 9 with h | h
    · have h3 : (128 : Nat) ^ i ≤ 128 ^ 8 := Nat.pow_le_pow_right (by omega) (by omega)
      have : x % 128 * 128 ^ i ≤ 127 * 128 ^ 8 := Nat.mul_le_mul (by omega) h3
      omega
    · have h' : i = 9 := by omega
      have : x % 128 * 128 ^ i ≤ 1 * 128 ^ 9 := Nat.mul_le_mul (h9 h') (by rw [h']; exact Nat.le_refl _)
      omega
  have ha2 : a < 18446744073709551616 := by
    have h3 : (128 : Nat) ^ i ≤ 128 ^ 9 := Nat.pow_le_pow_right (by omega) hi
    omega
  have e1 : shl .u64 (IntKind.u64.wrap (Go.bits .andNot .u8 (x : Int) 128)) (wrap64 (7 * (i : Int))) = ((x % 128 * 128 ^ i : Nat) : Int) := by
    rw [andNot128 x (List.mem_range.2 hx), wu64, w64 (by omega) (by omega), Nat.mod_eq_of_lt (by omega)]
    unfold shl
    rw [show min (7 * (i : Int)).toNat IntKind.u64.bits = 7 * i by simp only [IntKind.bits]; omega]
    rw [show ((x % 128 : Nat) : Int) * 2 ^ (7 * i) = ((x % 128 * 2 ^ (7 * i) : Nat) : Int) from by simp, wu64, ← e7, Nat.mod_eq_of_lt hlt]
  rw [e1, bits_or_nat64 a _ ha2 hlt]
  congr 1
  have := Nat.two_pow_add_eq_or_of_lt (i := 7 * i) (b := a) (by rw [← e7]; exact ha) (x % 128)
  rw [← e7, Nat.mul_comm] at this
  rw [Nat.or_comm, ← this, Nat.add_comm]
theorem take_loop {s : List Nat} (hs : ∀ x ∈ s, x < 256) (hl : s.length ≤ 140737488351232) (d : Nat) : ∀ (i : Nat) (acc : Int), i + d = s.length → i ≤ lead s → i ≤ 10 → (i = 10 ∨ acc = (num (s.take i) : Int)) →
    Ev (fun k => varint_Take.l0 k (ci s) acc (ci s) (s.length : Int) (i : Int)) (((vtake s).1 : Int), ci (vtake s).2.1, ((vtake s).2.2 : Int)) := by
  have hll := lead_le s
  induction d with
  | zero =>
    intro i acc hi h1 h10 _
    refine Ev.succ ?_
    simp only [varint_Take.l0, ci_length]
    refine Ev.neg (by omega) ?_
    by_cases h : i = 10
    · rw [show vtake s = (0, [], 3) from by unfold vtake; rw [if_pos (by omega)]]; exact Ev.pos (by omega) (Ev.now _)
    · rw [show vtake s = (0, [], 2) from by unfold vtake; rw [if_neg (by omega), if_pos (by omega)]]; exact Ev.neg (by omega) (Ev.now _)
  | succ d ih =>
    intro i acc hi h1 h10 hacc
    have hlt : i < s.length := by omega
    refine Ev.succ ?_
    simp only [varint_Take.l0, ci_length]
    refine Ev.pos (by omega) (Ev.pos (by omega) (Ev.pos (by omega) ?_))
    by_cases h : i = 10
    · rw [show vtake s = (0, [], 3) from by unfold vtake; rw [if_pos (by omega)]]
      exact Ev.pos (by omega) (Ev.pos (by omega) (Ev.now _))
    have ea := hacc.resolve_left h
    subst ea
    have hx : s.getD i 0 < 256 := getD_lt hs (by omega)
    have hn := num_lt (s.take i)
    rw [List.length_take, Nat.min_eq_left (by omega)] at hn
    refine Ev.neg (by omega) (Ev.pos (by rw [w64 (by omega) (by omega)]; omega) ?_)
    simp only [rd_ci]
    by_cases hb : 128 ≤ s.getD i 0
    · refine Ev.pos (by omega) ?_
      rw [w64s i (by omega)]
      have hne : lead s ≠ i := by
        intro he
        have := lead_lo s (by omega)
        rw [he] at this
        omega
      refine ih (i + 1) _ (by omega) (by omega) (by omega) ?_
      by_cases h9 : i = 9
      · left; omega
      · right
        rw [or_step (by omega) hx (fun h => absurd h h9) hn, take_snoc hlt, num_snoc, List.length_take, Nat.min_eq_left (by omega)]
    · refine Ev.neg (by omega) ?_
      have he : lead s = i := by
        rcases Nat.lt_or_ge i (lead s) with h2 | h2
        · have := lead_hi s i h2; omega
        · omega
      have hdone : ¬ bad s i → Ev (fun k => if 0 ≤ wrap64 ((i : Int) + 1) then if wrap64 ((i : Int) + 1) ≤ (s.length : Int) then
            (bytes_Clone.f ((ci s).drop (wrap64 ((i : Int) + 1)).toNat)).bind fun t => some (Go.bits .or .u64 ((num (s.take i) : Nat) : Int) (shl .u64 (IntKind.u64.wrap (Go.bits .andNot .u8 ((s.getD i 0 : Nat) : Int) 128)) (wrap64 (7 * (i : Int)))), t, (0 : Int)) else none else none)
            (((vtake s).1 : Int), ci (vtake s).2.1, ((vtake s).2.2 : Int)) := by
        intro hbad
        rw [w64s i (by omega)]
        refine Ev.pos (by omega) (Ev.pos (by omega) ?_)
        rw [Int.toNat_natCast, ci_drop]
        refine Ev.const (clone_eq _ (by rw [ci_length, List.length_drop]; omega)) (Ev.done ?_)
        unfold bad at hbad
        rw [or_step (by omega) hx (by omega) hn]
        unfold vtake
        rw [he, if_neg (by omega), if_neg (by omega), if_neg (by unfold bad; exact hbad), take_snoc hlt, num_snoc, List.length_take, Nat.min_eq_left (by omega)]
        rfl
      have hfail : bad s i → (0, ([] : List Int), (3 : Int)) = (((vtake s).1 : Int), ci (vtake s).2.1, ((vtake s).2.2 : Int)) := by
        intro hbad
        unfold vtake
        rw [he, if_neg (by omega), if_neg (by omega), if_pos hbad]
        rfl
      by_cases h0 : s.getD i 0 = 0
      · refine Ev.pos (by omega) ?_
        by_cases hi0 : 0 < i
        · exact Ev.pos (by omega) (Ev.done (congrArg some (hfail (Or.inl ⟨h0, hi0⟩))))
        · refine Ev.neg (by omega) (Ev.neg (by omega) (hdone ?_))
          rintro (⟨_, h⟩ | ⟨h, _⟩) <;> omega
      · refine Ev.neg (by omega) ?_
        by_cases h9 : i = 9
        · refine Ev.pos (by omega) ?_
          by_cases h91 : 1 < s.getD i 0
          · exact Ev.pos (by omega) (Ev.done (congrArg some (hfail (Or.inr ⟨h9, h91⟩))))
          · refine Ev.neg (by omega) (hdone ?_)
            rintro (⟨h, _⟩ | ⟨_, h⟩) <;> omega
        · refine Ev.neg (by omega) (hdone ?_)
          rintro (⟨h, _⟩ | ⟨h, _⟩) <;> omega
theorem take_ev {s : List Nat} (hs : ∀ x ∈ s, x < 256) (hl : s.length ≤ 140737488351232) : Ev (fun k => varint_Take.f k (ci s)) (((vtake s).1 : Int), ci (vtake s).2.1, ((vtake s).2.2 : Int)) := by
  simp only [varint_Take.f, ci_length]
  exact take_loop hs hl s.length 0 0 (by omega) (by omega) (by omega) (Or.inr rfl)
end Go.Proofs.Ytmpomnnaoggdkaa.Pure
