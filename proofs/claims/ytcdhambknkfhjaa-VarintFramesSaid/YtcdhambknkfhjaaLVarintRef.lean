import Derived.Test.YtcdhambknkfhjaaLVarintFold
import Derived.Test.YtcdhambknkfhjaaPAx3
import Derived.Test.YtcdhambknkfhjaaPAx6
-- what the reference of layer 1 answers
set_option linter.unusedVariables false
set_option linter.unusedSimpArgs false
namespace Go.Proofs.Ytcdhambknkfhjaa.Pure
open Go.RowKit Go.Proofs.Ytcdhambknkfhjaa.PA Go.Proofs.YtcdhambknkfhjaaW.PrintWords Go.Proofs.YtcdhambknkfhjaaW.PrintLast Go.Proofs.YtcdhambknkfhjaaW.PrintMore
theorem rbytes_loop (n : Nat) : ∀ acc : List Nat, n < 18446744073709551616 → acc.length + (vb n).length < 140737488355328 → Ev (fun k => threshingref01_bytesOf.l0 k (n : Int) (ci acc)) (ci (acc ++ vb n)) := by
  induction n using Nat.strongRecOn with
  | ind n ih =>
    intro acc hn hl
    refine Ev.succ ?_
    simp only [threshingref01_bytesOf.l0, ci_length]
    by_cases h : n < 128
    · rw [vb_small h] at hl ⊢
      refine Ev.neg (by omega) (Ev.pos (by simp at hl; omega) (Ev.done ?_))
      rw [show ((n : Int) % 256) = ((n : Nat) : Int) from by omega, ci_append, ci_cons, ci_nil]
    · rw [vb_big h] at hl ⊢
      rw [List.length_cons] at hl
      refine Ev.pos (by omega) (Ev.pos (by omega) ?_)
      rw [show (128 : Int) = ((128 : Nat) : Int) from rfl, tdiv_nat, tmod_nat, u64wrap, u64wrap]
      rw [show ((((n / 128 : Nat) : Int)) % 18446744073709551616) = ((n / 128 : Nat) : Int) from by omega, show ((((n % 128 : Nat) : Int) + ((128 : Nat) : Int)) % 18446744073709551616 % 256) = ((n % 128 + 128 : Nat) : Int) from by omega]
      have := ih (n / 128) (by omega) (acc ++ [n % 128 + 128]) (by omega) (by rw [List.length_append]; simp; omega)
      rw [ci_append, ci_cons, ci_nil, List.append_assoc, List.singleton_append] at this
      exact this
theorem rbytes_ev (n : Nat) (hn : n < 18446744073709551616) : Ev (fun k => threshingref01_bytesOf.f k (n : Int)) (ci (vb n)) := by
  have h10 := vb_length_le10 hn
  simp only [threshingref01_bytesOf.f]
  exact rbytes_loop n [] hn (by simp; omega)
theorem rput_ev {b : List Nat} (hl : b.length ≤ 140737488351232) (n : Nat) (h : n < 18446744073709551616) : Ev (fun k => threshingref01_Put.f k (ci b) (n : Int)) (ci (b ++ vb n)) := by
  have h10 := vb_length_le10 h
  simp only [threshingref01_Put.f, ci_length, Option.bind_some, List.length_nil, List.nil_append]
  refine Ev.pos (by omega) (Ev.bind (rbytes_ev n h) ?_)
  rw [ci_length, ← ci_append]
  exact Ev.pos (by omega) (Ev.now _)
theorem rfold_eq {a : Int} (h0 : -9223372036854775808 ≤ a) (h1 : a < 9223372036854775808) : threshingref01_Fold.f a = some (fold a) := by
  unfold threshingref01_Fold.f fold
  simp only [u64wrap, wrap64]
  split <;> simp only [Option.some.injEq] <;> omega
theorem runfold_eq {n : Int} (h0 : 0 ≤ n) (h1 : n < 18446744073709551616) : threshingref01_Unfold.f n = some (unfold' n) := by
  obtain ⟨n, rfl⟩ := Int.eq_ofNat_of_zero_le h0
  unfold threshingref01_Unfold.f unfold'
  rw [show (2 : Int) = ((2 : Nat) : Int) from rfl, tdiv_nat, tmod_nat]
  simp only [u64wrap, wrap64]
  split <;> split <;> simp only [Option.some.injEq] <;> omega
theorem rtake_back {s : List Nat} (hs : ∀ x ∈ s, x < 256) (hl : s.length ≤ 140737488351232) (hlt : lead s < s.length) (h10 : lead s < 10) : ∀ (m : Nat), m ≤ lead s + 1 →
    Ev (fun k => threshingref01_Take.l1 k (ci s) (lead s : Int) ((num ((s.take (lead s + 1)).drop m) % 18446744073709551616 : Nat) : Int) ((m : Int) - 1)) (((vtake s).1 : Int), ci (vtake s).2.1, ((vtake s).2.2 : Int))
  | 0, _ => by
    have hM : num (s.take (lead s + 1)) % 18446744073709551616 < 18446744073709551616 := Nat.mod_lt _ (by omega)
    refine Ev.succ ?_
    simp only [threshingref01_Take.l1, ci_length, List.drop_zero]
    rw [w64s (lead s) (by omega), Int.toNat_natCast]
    refine Ev.neg (by omega) (Ev.bind (rbytes_ev _ hM) (Ev.pos (by omega) (Ev.pos (by omega) ?_)))
    rw [ci_take, ci_drop]
    simp only [strs_eq (vb_lt (num (s.take (lead s + 1)) % 18446744073709551616)) (fun x hx => hs x (List.mem_of_mem_take hx)), Option.bind_some, List.nil_append, ci_length, List.length_nil]
    by_cases hb : bad s (lead s)
    · rw [show vtake s = (0, [], 3) from by unfold vtake; rw [if_neg (by omega), if_neg (by omega), if_pos hb]]
      exact Ev.neg (not_canon h10 hlt hb) (Ev.now _)
    · obtain ⟨c1, c2⟩ := canon hs h10 hlt hb
      rw [Nat.mod_eq_of_lt c1]
      rw [show vtake s = (num (s.take (lead s + 1)), s.drop (lead s + 1), 0) from by unfold vtake; rw [if_neg (by omega), if_neg (by omega), if_neg hb]]
      exact Ev.pos c2 (Ev.pos (by rw [List.length_drop]; omega) (Ev.now _))
  | m + 1, hm => by
    have hlen : m < (s.take (lead s + 1)).length := by rw [List.length_take]; omega
    have hd : (s.take (lead s + 1)).drop m = s.getD m 0 :: (s.take (lead s + 1)).drop (m + 1) := by
      rw [List.drop_eq_getElem_cons hlen, List.getElem_take, List.getD_eq_getElem?_getD, List.getElem?_eq_getElem (by omega)]; rfl
    have e : num ((s.take (lead s + 1)).drop m) = s.getD m 0 % 128 + 128 * num ((s.take (lead s + 1)).drop (m + 1)) := by rw [hd, num]
    refine Ev.succ ?_
    simp only [threshingref01_Take.l1, ci_length]
    rw [show ((m + 1 : Nat) : Int) - 1 = (m : Int) by omega]
    refine Ev.pos (by omega) (Ev.pos (by omega) (Ev.pos (by omega) ?_))
    rw [rd_ci, w64 (x := (m : Int) - 1) (by omega) (by omega), show (128 : Int) = ((128 : Nat) : Int) from rfl, tmod_nat]
    have e2 : IntKind.u64.wrap (IntKind.u64.wrap (((num ((s.take (lead s + 1)).drop (m + 1)) % 18446744073709551616 : Nat) : Int) * ((128 : Nat) : Int)) + IntKind.u64.wrap ((s.getD m 0 % 128 : Nat) : Int)) = ((num ((s.take (lead s + 1)).drop m) % 18446744073709551616 : Nat) : Int) := by
      rw [e, u64wrap, u64wrap, u64wrap]
      omega
    rw [e2]
    exact rtake_back hs hl hlt h10 m (by omega)
theorem rtake_j1 {s : List Nat} (hs : ∀ x ∈ s, x < 256) (hl : s.length ≤ 140737488351232) (i : Nat) (hi : i ≤ lead s) (h : i = 10 ∨ i < 10 ∧ i = lead s) :
    Ev (fun k => threshingref01_Take.j1 k (ci s) (i : Int)) (((vtake s).1 : Int), ci (vtake s).2.1, ((vtake s).2.2 : Int)) := by
  have hll := lead_le s
  refine Ev.succ ?_
  simp only [threshingref01_Take.j1, ci_length]
  by_cases h1 : i = 10
  · rw [show vtake s = (0, [], 3) from by unfold vtake; rw [if_pos (by omega)]]
    exact Ev.pos (by omega) (Ev.now _)
  have h2 : i = lead s := by omega
  refine Ev.neg (by omega) ?_
  by_cases h3 : i = s.length
  · rw [show vtake s = (0, [], 2) from by unfold vtake; rw [if_neg (by omega), if_pos (by omega)]]
    exact Ev.pos (by omega) (Ev.now _)
  refine Ev.neg (by omega) ?_
  subst h2
  have := rtake_back hs hl (by omega) (by omega) (lead s + 1) (Nat.le_refl _)
  rw [List.drop_eq_nil_of_le (by rw [List.length_take]; omega), show ((lead s + 1 : Nat) : Int) - 1 = (lead s : Int) by omega] at this
  exact this
theorem rtake_loop {s : List Nat} (hs : ∀ x ∈ s, x < 256) (hl : s.length ≤ 140737488351232) (d : Nat) : ∀ (i : Nat), i + d = 10 → i ≤ lead s →
    Ev (fun k => threshingref01_Take.l0 k (ci s) (i : Int)) (((vtake s).1 : Int), ci (vtake s).2.1, ((vtake s).2.2 : Int)) := by
  have hll := lead_le s
  induction d with
  | zero =>
    intro i hi h1
    refine Ev.succ ?_
    simp only [threshingref01_Take.l0, ci_length]
    by_cases h : i < s.length
    · exact Ev.pos (by omega) (Ev.neg (by omega) (rtake_j1 hs hl i h1 (Or.inl (by omega))))
    · exact Ev.neg (by omega) (rtake_j1 hs hl i h1 (Or.inl (by omega)))
  | succ d ih =>
    intro i hi h1
    refine Ev.succ ?_
    simp only [threshingref01_Take.l0, ci_length, rd_ci]
    by_cases h : i < s.length
    · refine Ev.pos (by omega) (Ev.pos (by omega) (Ev.pos (by omega) ?_))
      by_cases hb : 128 ≤ s.getD i 0
      · refine Ev.pos (by omega) ?_
        rw [w64s i (by omega)]
        have hne : lead s ≠ i := by
          intro he
          have := lead_lo s (by omega)
          rw [he] at this
          omega
        exact ih (i + 1) (by omega) (by omega)
      · refine Ev.neg (by omega) (rtake_j1 hs hl i h1 (Or.inr ⟨by omega, ?_⟩))
        rcases Nat.lt_or_ge i (lead s) with h2 | h2
        · have := lead_hi s i h2; omega
        · omega
    · exact Ev.neg (by omega) (rtake_j1 hs hl i h1 (Or.inr ⟨by omega, by omega⟩))
theorem rtake_ev {s : List Nat} (hs : ∀ x ∈ s, x < 256) (hl : s.length ≤ 140737488351232) : Ev (fun k => threshingref01_Take.f k (ci s)) (((vtake s).1 : Int), ci (vtake s).2.1, ((vtake s).2.2 : Int)) := by
  simp only [threshingref01_Take.f]
  exact rtake_loop hs hl 10 0 (by omega) (by omega)
end Go.Proofs.Ytcdhambknkfhjaa.Pure
