/- Part 2 of the proof of JournalBytes: what the program's functions come to. -/
import Derived.ProofKit
import Derived.WalkKit
import Derived.Test.YtibmolekndeofaaJJournalBytes1
/- Varints: a number taken off. -/
namespace Go.Proofs.Ytibmolekndeofaa.E
open Go Go.RowKit Go.Proofs
set_option linter.unusedVariables false
set_option linter.unusedSimpArgs false
theorem andNot128 : ∀ c ∈ List.range 256, bitsP .andNot .u8 (c : Int) 128 = some ((c % 128 : Nat) : Int) := by decide +kernel
/-- What a byte adds. -/
def gv (x i : Nat) : Nat := x % 128 * 2 ^ (7 * i) % 18446744073709551616
theorem gv_lt (x i : Nat) : gv x i < 18446744073709551616 := Nat.mod_lt _ (by omega)
theorem gv_wrap (x i : Nat) : IntKind.u64.wrap ((x : Int) % 128 * 2 ^ (7 * i)) = (gv x i : Nat) := by
  rw [wm_u64]
  simp [gv]
theorem gv_or {i x a : Nat} (hi : i ≤ 9) (h9 : i = 9 → x % 128 ≤ 1) (ha : a < 128 ^ i) : (a ||| gv x i) = a + x % 128 * 128 ^ i := by
  have e7 : (2 : Nat) ^ (7 * i) = 128 ^ i := by rw [Nat.pow_mul]
  have hx : x % 128 ≤ 127 := by omega
  have hlt : x % 128 * 2 ^ (7 * i) < 18446744073709551616 := by
    rw [e7]
    rcases Nat.lt_or_ge i 9 with h | h
    · have h3 : (128 : Nat) ^ i ≤ 128 ^ 8 := Nat.pow_le_pow_right (by omega) (by omega)
      have h4 : x % 128 * 128 ^ i ≤ 127 * 128 ^ 8 := Nat.mul_le_mul hx h3
      omega
    · obtain rfl : i = 9 := by omega
      have h4 : x % 128 * 128 ^ 9 ≤ 1 * 128 ^ 9 := Nat.mul_le_mul (h9 rfl) (Nat.le_refl _)
      omega
  unfold gv
  rw [Nat.mod_eq_of_lt hlt]
  have := Nat.two_pow_add_eq_or_of_lt (i := 7 * i) (b := a) (by rw [e7]; exact ha) (x % 128)
  rw [Nat.mul_comm (x % 128), Nat.or_comm, ← this, Nat.add_comm, e7, Nat.mul_comm]
set_option maxRecDepth 4000 in
theorem take_ok {s : Nat} {xs : List PV} {o : Bool} {b : List Nat} (hx : xs = b.map u8) (hs : s = 1 ∨ b.length = 0) (hw : ∀ x ∈ b, x < 256) (hl : b.length ≤ 100000000000000) :
    PSpec Try.prog 51 [.lst s xs o] (.tup [.int .u64 ((vtake b).1 : Nat), bV (vtake b).2.1 true, .int .i64 ((vtake b).2.2 : Nat)]) := by
  subst hx
  intro H
  have hll := lead_le b
  refine spec_ofU t51 (by simp [p51]) ?_
  simp only [p51]
  first | refine pwp_sr ?_ | refine pwp_regionM ?_
  intro K hK
  simp (disch := first | (refine Ok.mk ?_; (try simp only [Lm, La, Lc, Ln, Lt, Ld, Lr, Li, true_or, or_true, true_and, and_true]); omega) | (simp <;> fail) | skip) [runM_nil]
  refine hK _ _ ?_
  clear hK K
  first | refine pwp_sr ?_ | refine pwp_regionM ?_
  intro K hK
  simp (disch := first | (refine Ok.mk ?_; (try simp only [Lm, La, Lc, Ln, Lt, Ld, Lr, Li, true_or, or_true, true_and, and_true]); omega) | (simp <;> fail) | skip) [runM_nil]
  refine hK _ _ ?_
  clear hK K
  refine pwp_seq ?_
  first | refine pwp_sr ?_ | refine pwp_regionM ?_
  intro K hK
  simp (disch := first | (refine Ok.mk ?_; (try simp only [Lm, La, Lc, Ln, Lt, Ld, Lr, Li, true_or, or_true, true_and, and_true]); omega) | (simp <;> fail) | skip) [runM_nil]
  refine hK _ _ ?_
  clear hK K
  refine pwp_block ?_
  refine pwp_loopK [0, 5, 8, 9, 10] (fun m st H' => ∃ i n : Nat, i ≤ lead b ∧ i ≤ 10 ∧ m = b.length - i ∧ n < 18446744073709551616 ∧ (i ≤ 9 → n = num (b.take i)) ∧ H' = H ∧
      st = MS 51 [(0, .lst s (b.map u8) o), (5, .int .u64 n), (8, .lst s (b.map u8) false), (9, .int .i64 b.length), (10, .int .i64 i)]) (n := b.length)
    ⟨_, .refl _, 0, 0, Nat.zero_le _, by omega, rfl, by omega, fun _ => rfl, rfl, by simp [keepL_MS, keepA, getS]⟩ ?_
  rintro m st _ ⟨i, n, h1, h2, rfl, hn, hnum, rfl, rfl⟩
  by_cases hi : i < b.length
  case neg =>
    first | refine pwp_sr ?_ | refine pwp_regionM ?_
    intro K hK
    simp (disch := first | (refine Ok.mk ?_; (try simp only [Lm, La, Lc, Ln, Lt, Ld, Lr, Li, true_or, or_true, true_and, and_true]); omega) | (simp <;> fail) | skip) [runM_nil, hi]
    refine hK _ _ ?_
    clear hK K
    refine pwp_seq (pwp_cF (by simp) (pwp_exit ?_))
    by_cases h10 : i = 10
    · have e : vtake b = (0, [], 3) := by unfold vtake; rw [if_pos (by omega)]
      rw [e]
      have h3 : (10 : Int) ≤ b.length := by omega
      first | refine pwp_rif ?_ | refine pwp_rifE ?_
      intro K hK
      simp (disch := first | (refine Ok.mk ?_; (try simp only [Lm, La, Lc, Ln, Lt, Ld, Lr, Li, true_or, or_true, true_and, and_true]); omega) | (simp <;> fail) | skip) [runM_nil, h3]
      refine hK _ _ ?_
      clear hK K
      refine ifT (by simp (disch := first | (refine Ok.mk ?_; (try simp only [Lm, La, Lc, Ln, Lt, Ld, Lr, Li, true_or, or_true, true_and, and_true]); omega) | (simp <;> fail) | skip) [runM_nil]) ?_
      first | refine pwp_sr ?_ | refine pwp_regionM ?_
      intro K hK
      simp (disch := first | (refine Ok.mk ?_; (try simp only [Lm, La, Lc, Ln, Lt, Ld, Lr, Li, true_or, or_true, true_and, and_true]); omega) | (simp <;> fail) | skip) [runM_nil]
      refine hK _ _ ?_
      clear hK K
      refine pwp_ret ⟨.inr rfl, _, _, _, (by simp (disch := first | (refine Ok.mk ?_; (try simp only [Lm, La, Lc, Ln, Lt, Ld, Lr, Li, true_or, or_true, true_and, and_true]); omega) | (simp <;> fail) | skip) [runM_nil, resL]; rfl), .refl _, (by simp (disch := first | (refine Ok.mk ?_; (try simp only [Lm, La, Lc, Ln, Lt, Ld, Lr, Li, true_or, or_true, true_and, and_true]); omega) | (simp <;> fail) | skip) [resV]), rfl, rfl⟩
    · have e : vtake b = (0, [], 2) := by unfold vtake; rw [if_neg (by omega), if_pos (by omega)]
      rw [e]
      have h3 : ¬ (10 : Int) ≤ b.length := by omega
      first | refine pwp_rif ?_ | refine pwp_rifE ?_
      intro K hK
      simp (disch := first | (refine Ok.mk ?_; (try simp only [Lm, La, Lc, Ln, Lt, Ld, Lr, Li, true_or, or_true, true_and, and_true]); omega) | (simp <;> fail) | skip) [runM_nil, h3]
      refine hK _ _ ?_
      clear hK K
      refine ifF (by simp (disch := first | (refine Ok.mk ?_; (try simp only [Lm, La, Lc, Ln, Lt, Ld, Lr, Li, true_or, or_true, true_and, and_true]); omega) | (simp <;> fail) | skip) [runM_nil]) (pwp_skip ?_)
      first | refine pwp_sr ?_ | refine pwp_regionM ?_
      intro K hK
      simp (disch := first | (refine Ok.mk ?_; (try simp only [Lm, La, Lc, Ln, Lt, Ld, Lr, Li, true_or, or_true, true_and, and_true]); omega) | (simp <;> fail) | skip) [runM_nil]
      refine hK _ _ ?_
      clear hK K
      refine pwp_ret ⟨.inr rfl, _, _, _, (by simp (disch := first | (refine Ok.mk ?_; (try simp only [Lm, La, Lc, Ln, Lt, Ld, Lr, Li, true_or, or_true, true_and, and_true]); omega) | (simp <;> fail) | skip) [runM_nil, resL]; rfl), .refl _, (by simp (disch := first | (refine Ok.mk ?_; (try simp only [Lm, La, Lc, Ln, Lt, Ld, Lr, Li, true_or, or_true, true_and, and_true]); omega) | (simp <;> fail) | skip) [resV]), rfl, rfl⟩
  have hxm : ∃ x, b[i]? = some x ∧ x < 256 ∧ b.getD i 0 = x := ⟨b[i], List.getElem?_eq_getElem hi, hw _ (List.getElem_mem hi), by simp [List.getD, List.getElem?_eq_getElem hi]⟩
  obtain ⟨x, hgx, hx, hgd⟩ := hxm
  obtain rfl : s = 1 := by omega
  first | refine pwp_sr ?_ | refine pwp_regionM ?_
  intro K hK
  simp (disch := first | (refine Ok.mk ?_; (try simp only [Lm, La, Lc, Ln, Lt, Ld, Lr, Li, true_or, or_true, true_and, and_true]); omega) | (simp <;> fail) | skip) [runM_nil, hi]
  refine hK _ _ ?_
  clear hK K
  refine pwp_seq (pwp_cT (by simp) (pwp_skip ?_))
  refine pwp_seq (pwp_block ?_)
  first | refine pwp_sr ?_ | refine pwp_regionM ?_
  intro K hK
  simp (disch := first | (refine Ok.mk ?_; (try simp only [Lm, La, Lc, Ln, Lt, Ld, Lr, Li, true_or, or_true, true_and, and_true]); omega) | (simp <;> fail) | skip) [runM_nil, hgx]
  refine hK _ _ ?_
  clear hK K
  by_cases h10 : i = 10
  · have e : vtake b = (0, [], 3) := by unfold vtake; rw [if_pos (by omega)]
    have h10' : (i : Int) = 10 := by omega
    first | refine pwp_rif ?_ | refine pwp_rifE ?_
    intro K hK
    simp (disch := first | (refine Ok.mk ?_; (try simp only [Lm, La, Lc, Ln, Lt, Ld, Lr, Li, true_or, or_true, true_and, and_true]); omega) | (simp <;> fail) | skip) [runM_nil, h10']
    refine hK _ _ ?_
    clear hK K
    refine ifT (by simp (disch := first | (refine Ok.mk ?_; (try simp only [Lm, La, Lc, Ln, Lt, Ld, Lr, Li, true_or, or_true, true_and, and_true]); omega) | (simp <;> fail) | skip) [runM_nil]) ?_
    refine pwp_exit ?_
    rw [e]
    have h3 : (10 : Int) ≤ b.length := by omega
    first | refine pwp_rif ?_ | refine pwp_rifE ?_
    intro K hK
    simp (disch := first | (refine Ok.mk ?_; (try simp only [Lm, La, Lc, Ln, Lt, Ld, Lr, Li, true_or, or_true, true_and, and_true]); omega) | (simp <;> fail) | skip) [runM_nil, h3]
    refine hK _ _ ?_
    clear hK K
    refine ifT (by simp (disch := first | (refine Ok.mk ?_; (try simp only [Lm, La, Lc, Ln, Lt, Ld, Lr, Li, true_or, or_true, true_and, and_true]); omega) | (simp <;> fail) | skip) [runM_nil]) ?_
    first | refine pwp_sr ?_ | refine pwp_regionM ?_
    intro K hK
    simp (disch := first | (refine Ok.mk ?_; (try simp only [Lm, La, Lc, Ln, Lt, Ld, Lr, Li, true_or, or_true, true_and, and_true]); omega) | (simp <;> fail) | skip) [runM_nil]
    refine hK _ _ ?_
    clear hK K
    refine pwp_ret ⟨.inr rfl, _, _, _, (by simp (disch := first | (refine Ok.mk ?_; (try simp only [Lm, La, Lc, Ln, Lt, Ld, Lr, Li, true_or, or_true, true_and, and_true]); omega) | (simp <;> fail) | skip) [runM_nil, resL]; rfl), .refl _, (by simp (disch := first | (refine Ok.mk ?_; (try simp only [Lm, La, Lc, Ln, Lt, Ld, Lr, Li, true_or, or_true, true_and, and_true]); omega) | (simp <;> fail) | skip) [resV]), rfl, rfl⟩
  have h10' : ¬ (i : Int) = 10 := by omega
  first | refine pwp_rif ?_ | refine pwp_rifE ?_
  intro K hK
  simp (disch := first | (refine Ok.mk ?_; (try simp only [Lm, La, Lc, Ln, Lt, Ld, Lr, Li, true_or, or_true, true_and, and_true]); omega) | (simp <;> fail) | skip) [runM_nil, h10']
  refine hK _ _ ?_
  clear hK K
  refine ifF (by simp (disch := first | (refine Ok.mk ?_; (try simp only [Lm, La, Lc, Ln, Lt, Ld, Lr, Li, true_or, or_true, true_and, and_true]); omega) | (simp <;> fail) | skip) [runM_nil]) (pwp_skip ?_)
  have ha := andNot128 x (List.mem_range.2 hx)
  have e2 : min (7 * (i : Int)).toNat 64 = 7 * i := by omega
  have hgl := gv_lt x i
  first | refine pwp_sr ?_ | refine pwp_regionM ?_
  intro K hK
  simp (disch := first | (refine Ok.mk ?_; (try simp only [Lm, La, Lc, Ln, Lt, Ld, Lr, Li, true_or, or_true, true_and, and_true]); omega) | (simp <;> fail) | skip) [runM_nil, ha, e2, gv_wrap]
  refine hK _ _ ?_
  clear hK K
  have hnn := hnum (by omega)
  have hna := num_lt (b.take i)
  rw [List.length_take, Nat.min_eq_left (by omega), ← hnn] at hna
  by_cases hc : 128 ≤ x
  · have hc' : (128 : Int) ≤ x := by omega
    first | refine pwp_rif ?_ | refine pwp_rifE ?_
    intro K hK
    simp (disch := first | (refine Ok.mk ?_; (try simp only [Lm, La, Lc, Ln, Lt, Ld, Lr, Li, true_or, or_true, true_and, and_true]); omega) | (simp <;> fail) | skip) [runM_nil, hc']
    refine hK _ _ ?_
    clear hK K
    refine ifT (by simp (disch := first | (refine Ok.mk ?_; (try simp only [Lm, La, Lc, Ln, Lt, Ld, Lr, Li, true_or, or_true, true_and, and_true]); omega) | (simp <;> fail) | skip) [runM_nil]) ?_
    have hne : lead b ≠ i := by
      intro he
      have := lead_lo b (by omega)
      rw [he, hgd] at this
      omega
    refine pwp_exit ?_
    first | refine pwp_sr ?_ | refine pwp_regionM ?_
    intro K hK
    simp (disch := first | (refine Ok.mk ?_; (try simp only [Lm, La, Lc, Ln, Lt, Ld, Lr, Li, true_or, or_true, true_and, and_true]); omega) | (simp <;> fail) | skip) [runM_nil]
    refine hK _ _ ?_
    clear hK K
    refine ⟨b.length - (i + 1), by omega, _, .refl _, i + 1, n ||| gv x i, by omega, by omega, rfl, Nat.or_lt_two_pow (n := 64) hn hgl, fun h9 => ?_, rfl, by simp [keepL_MS, keepA, getS]⟩
    rw [gv_or (by omega) (by omega) hna, take_snoc hi, num_snoc, List.length_take, Nat.min_eq_left (by omega), hgd, ← hnn]
  · have hc' : ¬ (128 : Int) ≤ x := by omega
    have he : lead b = i := by
      rcases Nat.lt_or_ge i (lead b) with h3 | h3
      · have := lead_hi b i h3; omega
      · omega
    first | refine pwp_rif ?_ | refine pwp_rifE ?_
    intro K hK
    simp (disch := first | (refine Ok.mk ?_; (try simp only [Lm, La, Lc, Ln, Lt, Ld, Lr, Li, true_or, or_true, true_and, and_true]); omega) | (simp <;> fail) | skip) [runM_nil, hc']
    refine hK _ _ ?_
    clear hK K
    refine ifF (by simp (disch := first | (refine Ok.mk ?_; (try simp only [Lm, La, Lc, Ln, Lt, Ld, Lr, Li, true_or, or_true, true_and, and_true]); omega) | (simp <;> fail) | skip) [runM_nil]) (pwp_skip ?_)
    have hdrop : (b.drop (i + 1)).length ≤ 100000000000000 := by rw [Ld]; omega
    have bad : vbad b i → vtake b = (0, [], 3) := fun h => by unfold vtake; rw [he, if_neg (by omega), if_neg (by omega), if_pos h]
    have good : ¬ vbad b i → vtake b = (n ||| gv x i, b.drop (i + 1), 0) := fun h => by
      have h9 : i = 9 → x % 128 ≤ 1 := fun h9 => by unfold vbad at h; rw [hgd] at h; omega
      unfold vtake
      rw [he, if_neg (by omega), if_neg (by omega), if_neg h, gv_or (by omega) h9 hna, take_snoc hi, num_snoc, List.length_take, Nat.min_eq_left (by omega), hgd, ← hnn]
    unfold vbad at bad good
    rw [hgd] at bad good
    have h4 : (x = 0 ∧ 0 < i) ∨ ¬ (x = 0 ∧ 0 < i) ∧ (i = 9 ∧ 1 < x) ∨ ¬ (x = 0 ∧ 0 < i) ∧ ¬ (i = 9 ∧ 1 < x) := by omega
    rcases h4 with ⟨q1, q2⟩ | ⟨q0, q1, q2⟩ | ⟨q1, q2⟩
    · have e := bad (.inl ⟨q1, q2⟩)
      subst q1
      first | refine pwp_rif ?_ | refine pwp_rifE ?_
      intro K hK
      simp (disch := first | (refine Ok.mk ?_; (try simp only [Lm, La, Lc, Ln, Lt, Ld, Lr, Li, true_or, or_true, true_and, and_true]); omega) | (simp <;> fail) | skip) [runM_nil, q2]
      refine hK _ _ ?_
      clear hK K
      refine ifT (by simp (disch := first | (refine Ok.mk ?_; (try simp only [Lm, La, Lc, Ln, Lt, Ld, Lr, Li, true_or, or_true, true_and, and_true]); omega) | (simp <;> fail) | skip) [runM_nil]) ?_
      first | refine pwp_sr ?_ | refine pwp_regionM ?_
      intro K hK
      simp (disch := first | (refine Ok.mk ?_; (try simp only [Lm, La, Lc, Ln, Lt, Ld, Lr, Li, true_or, or_true, true_and, and_true]); omega) | (simp <;> fail) | skip) [runM_nil]
      refine hK _ _ ?_
      clear hK K
      rw [e]
      refine pwp_ret ⟨.inr rfl, _, _, _, (by simp (disch := first | (refine Ok.mk ?_; (try simp only [Lm, La, Lc, Ln, Lt, Ld, Lr, Li, true_or, or_true, true_and, and_true]); omega) | (simp <;> fail) | skip) [runM_nil, resL]; rfl), .refl _, (by simp (disch := first | (refine Ok.mk ?_; (try simp only [Lm, La, Lc, Ln, Lt, Ld, Lr, Li, true_or, or_true, true_and, and_true]); omega) | (simp <;> fail) | skip) [resV]), rfl, rfl⟩
    · have e := bad (.inr ⟨q1, q2⟩)
      subst q1
      have q3 : (1 : Int) < x := by omega
      have q4 : ¬ x = 0 := by omega
      first | refine pwp_rif ?_ | refine pwp_rifE ?_
      intro K hK
      simp (disch := first | (refine Ok.mk ?_; (try simp only [Lm, La, Lc, Ln, Lt, Ld, Lr, Li, true_or, or_true, true_and, and_true]); omega) | (simp <;> fail) | skip) [runM_nil, q3, q4]
      refine hK _ _ ?_
      clear hK K
      refine ifT (by simp (disch := first | (refine Ok.mk ?_; (try simp only [Lm, La, Lc, Ln, Lt, Ld, Lr, Li, true_or, or_true, true_and, and_true]); omega) | (simp <;> fail) | skip) [runM_nil]) ?_
      first | refine pwp_sr ?_ | refine pwp_regionM ?_
      intro K hK
      simp (disch := first | (refine Ok.mk ?_; (try simp only [Lm, La, Lc, Ln, Lt, Ld, Lr, Li, true_or, or_true, true_and, and_true]); omega) | (simp <;> fail) | skip) [runM_nil]
      refine hK _ _ ?_
      clear hK K
      rw [e]
      refine pwp_ret ⟨.inr rfl, _, _, _, (by simp (disch := first | (refine Ok.mk ?_; (try simp only [Lm, La, Lc, Ln, Lt, Ld, Lr, Li, true_or, or_true, true_and, and_true]); omega) | (simp <;> fail) | skip) [runM_nil, resL]; rfl), .refl _, (by simp (disch := first | (refine Ok.mk ?_; (try simp only [Lm, La, Lc, Ln, Lt, Ld, Lr, Li, true_or, or_true, true_and, and_true]); omega) | (simp <;> fail) | skip) [resV]), rfl, rfl⟩
    · have e := good (by rintro (h | h); exact q1 h; exact q2 h)
      rw [e]
      have q5 : (i : Int) = 9 ∨ ¬ (i : Int) = 9 := by omega
      have q6 : x = 0 ∨ ¬ x = 0 := by omega
      rcases q6 with q6 | q6
      · have q7 : i = 0 := by omega
        subst q7 q6
        first | refine pwp_rif ?_ | refine pwp_rifE ?_
        intro K hK
        simp (disch := first | (refine Ok.mk ?_; (try simp only [Lm, La, Lc, Ln, Lt, Ld, Lr, Li, true_or, or_true, true_and, and_true]); omega) | (simp <;> fail) | skip) [runM_nil]
        refine hK _ _ ?_
        clear hK K
        refine ifF (by simp (disch := first | (refine Ok.mk ?_; (try simp only [Lm, La, Lc, Ln, Lt, Ld, Lr, Li, true_or, or_true, true_and, and_true]); omega) | (simp <;> fail) | skip) [runM_nil]) (pwp_skip ?_)
        first | refine pwp_sr ?_ | refine pwp_regionM ?_
        intro K hK
        simp (disch := first | (refine Ok.mk ?_; (try simp only [Lm, La, Lc, Ln, Lt, Ld, Lr, Li, true_or, or_true, true_and, and_true]); omega) | (simp <;> fail) | skip) [runM_nil]
        refine useP (clone_ok (l := b.drop (0 + 1)) (by simp) (.inl rfl) hdrop) ?_
        simp (disch := first | (refine Ok.mk ?_; (try simp only [Lm, La, Lc, Ln, Lt, Ld, Lr, Li, true_or, or_true, true_and, and_true]); omega) | (simp <;> fail) | skip) [runM_nil]
        refine hK _ _ ?_
        clear hK K
        refine pwp_ret ⟨.inr rfl, _, _, _, (by simp (disch := first | (refine Ok.mk ?_; (try simp only [Lm, La, Lc, Ln, Lt, Ld, Lr, Li, true_or, or_true, true_and, and_true]); omega) | (simp <;> fail) | skip) [runM_nil, resL]; rfl), .refl _, (by simp (disch := first | (refine Ok.mk ?_; (try simp only [Lm, La, Lc, Ln, Lt, Ld, Lr, Li, true_or, or_true, true_and, and_true]); omega) | (simp <;> fail) | skip) [resV]), rfl, rfl⟩
      · rcases q5 with q5 | q5
        all_goals
          first | refine pwp_rif ?_ | refine pwp_rifE ?_
          intro K hK
          simp (disch := first | (refine Ok.mk ?_; (try simp only [Lm, La, Lc, Ln, Lt, Ld, Lr, Li, true_or, or_true, true_and, and_true]); omega) | (simp <;> fail) | skip) [runM_nil]
          refine hK _ _ ?_
          clear hK K
          refine ifF (by simp (disch := first | (refine Ok.mk ?_; (try simp only [Lm, La, Lc, Ln, Lt, Ld, Lr, Li, true_or, or_true, true_and, and_true]); omega) | (simp <;> fail) | skip) [runM_nil]) (pwp_skip ?_)
          first | refine pwp_sr ?_ | refine pwp_regionM ?_
          intro K hK
          simp (disch := first | (refine Ok.mk ?_; (try simp only [Lm, La, Lc, Ln, Lt, Ld, Lr, Li, true_or, or_true, true_and, and_true]); omega) | (simp <;> fail) | skip) [runM_nil]
          refine useP (clone_ok (l := b.drop (i + 1)) (by simp) (.inl rfl) hdrop) ?_
          simp (disch := first | (refine Ok.mk ?_; (try simp only [Lm, La, Lc, Ln, Lt, Ld, Lr, Li, true_or, or_true, true_and, and_true]); omega) | (simp <;> fail) | skip) [runM_nil]
          refine hK _ _ ?_
          clear hK K
          refine pwp_ret ⟨.inr rfl, _, _, _, (by simp (disch := first | (refine Ok.mk ?_; (try simp only [Lm, La, Lc, Ln, Lt, Ld, Lr, Li, true_or, or_true, true_and, and_true]); omega) | (simp <;> fail) | skip) [runM_nil, resL]; rfl), .refl _, (by simp (disch := first | (refine Ok.mk ?_; (try simp only [Lm, La, Lc, Ln, Lt, Ld, Lr, Li, true_or, or_true, true_and, and_true]); omega) | (simp <;> fail) | skip) [resV]), rfl, rfl⟩
end Go.Proofs.Ytibmolekndeofaa.E
/- Varints: a frame taken off; the document's. -/
namespace Go.Proofs.Ytibmolekndeofaa.E
open Go Go.RowKit Go.Proofs
set_option linter.unusedVariables false
set_option linter.unusedSimpArgs false
theorem toInts_u8 : ∀ l : List Nat, toInts (l.map u8) = some (ci l)
  | [] => rfl
  | x :: l => by simp [toInts, toInts_u8 l, ci]
theorem norm_ci {l : List Nat} (hw : ∀ x ∈ l, x < 256) : (ci l).map norm8 = ci l := by
  simp only [ci, List.map_map]
  refine List.map_congr_left fun x hx => ?_
  have := hw x hx
  simp only [Function.comp_apply]
  exact norm8_of (by omega)
theorem cvS_u8 {s : Nat} {xs : List PV} {o : Bool} {l : List Nat} (hx : xs = l.map u8) (hs : s = 1 ∨ l.length = 0) (hw : ∀ x ∈ l, x < 256) : cvSP (.lst s xs o) = some (.str (ci l)) := by
  subst hx
  have h1 : s = 1 ∨ (l.map u8).isEmpty = true := hs.imp id fun h => by rw [List.length_eq_zero_iff.1 h]; rfl
  simp only [cvSP, if_pos h1, toInts_u8, Option.map_some, norm_ci hw]
theorem ci_iff {a b : List Nat} : ci a = ci b ↔ a = b := ⟨ci_inj, fun h => by rw [h]⟩
attribute [simp] ci_iff ci_nil
def vframe (b : List Nat) (most : Int) : List Nat × List Nat × Nat :=
  if (vtake b).2.2 ≠ 0 then ([], [], (vtake b).2.2) else if most < 0 ∨ most < (vtake b).1 then ([], [], 5) else if (vtake b).2.1.length < (vtake b).1 then ([], [], 2)
  else ((vtake b).2.1.take (vtake b).1, (vtake b).2.1.drop (vtake b).1, 0)
theorem vtake_wf {b : List Nat} (hw : ∀ x ∈ b, x < 256) : ∀ x ∈ (vtake b).2.1, x < 256 := fun x hx => hw x (vtake_rest.2 x hx)
theorem vtake_err (b : List Nat) : (vtake b).2.2 ≤ 3 := by
  unfold vtake
  split
  · exact Nat.le_refl _
  split
  · exact (by decide : 2 ≤ 3)
  split
  · exact Nat.le_refl _
  · exact Nat.zero_le _
/-- The ways of a frame. -/
theorem vframe_cases (b : List Nat) (most : Int) {n : Nat} {r : List Nat} {e : Nat} (h1 : (vtake b).1 = n) (h2 : (vtake b).2.1 = r) (h3 : (vtake b).2.2 = e) :
    (e ≠ 0 ∧ vframe b most = ([], [], e)) ∨ (e = 0 ∧ most < 0 ∧ vframe b most = ([], [], 5)) ∨ (e = 0 ∧ 0 ≤ most ∧ most < n ∧ vframe b most = ([], [], 5)) ∨
    (e = 0 ∧ 0 ≤ most ∧ n ≤ most ∧ r.length < n ∧ vframe b most = ([], [], 2)) ∨ (e = 0 ∧ 0 ≤ most ∧ n ≤ most ∧ n ≤ r.length ∧ vframe b most = (r.take n, r.drop n, 0)) := by
  unfold vframe
  rw [h1, h2, h3]
  by_cases q1 : e = 0
  · rw [if_neg (by omega)]
    by_cases q2 : most < 0
    · rw [if_pos (.inl q2)]; simp [q1, q2]
    · by_cases q3 : most < n
      · rw [if_pos (.inr q3)]; simp [q1, q2, q3]; omega
      · rw [if_neg (by omega)]
        by_cases q4 : r.length < n
        · rw [if_pos q4]; simp [q1, q4]; omega
        · rw [if_neg q4]; simp [q1]; omega
  · rw [if_pos q1]; simp [q1]
set_option maxRecDepth 4000 in
theorem takeFrame_ok {s : Nat} {xs : List PV} {o : Bool} {b : List Nat} (hx : xs = b.map u8) (hs : s = 1 ∨ b.length = 0) (hw : ∀ x ∈ b, x < 256) (hl : b.length ≤ 100000000000000) (most : Int) (hm : most < 9223372036854775808) :
    PSpec Try.prog 28 [.lst s xs o, .int .i64 most] (.tup [.str (ci (vframe b most).1), bV (vframe b most).2.1 (decide ((vframe b most).2.2 ≠ 0)), .int .i64 ((vframe b most).2.2 : Nat)]) := by
  intro H
  have c := take_ok (o := false) hx hs hw hl
  have hwr := vtake_wf hw
  have hn := vtake_lt hw
  have hrl : (vtake b).2.1.length ≤ b.length := (vtake_rest (s := b)).1
  have hc := vframe_cases b most rfl rfl rfl
  have he := vtake_err b
  generalize hv : vframe b most = v at *
  generalize (vtake b).1 = n at *
  generalize (vtake b).2.1 = r at *
  generalize (vtake b).2.2 = e at *
  refine spec_ofU t28 (by simp [p28]) ?_
  simp only [p28]
  first | refine pwp_sr ?_ | refine pwp_regionM ?_
  intro K hK
  simp (disch := first | (refine Ok.mk ?_; (try simp only [Lm, La, Lc, Ln, Lt, Ld, Lr, Li, true_or, or_true, true_and, and_true]); omega) | (simp <;> fail) | skip) [runM_nil]
  refine hK _ _ ?_
  clear hK K
  first | refine pwp_sr ?_ | refine pwp_regionM ?_
  intro K hK
  simp (disch := first | (refine Ok.mk ?_; (try simp only [Lm, La, Lc, Ln, Lt, Ld, Lr, Li, true_or, or_true, true_and, and_true]); omega) | (simp <;> fail) | skip) [runM_nil]
  refine useP (c) ?_
  simp (disch := first | (refine Ok.mk ?_; (try simp only [Lm, La, Lc, Ln, Lt, Ld, Lr, Li, true_or, or_true, true_and, and_true]); omega) | (simp <;> fail) | skip) [runM_nil]
  refine hK _ _ ?_
  clear hK K
  refine pwp_seq (pwp_block ?_)
  rcases hc with ⟨q1, rfl⟩ | ⟨q1, q2, rfl⟩ | ⟨q1, q2, q3, rfl⟩ | ⟨q1, q2, q3, q4, rfl⟩ | ⟨q1, q2, q3, q4, rfl⟩
  · first | refine pwp_sr ?_ | refine pwp_regionM ?_
    intro K hK
    simp (disch := first | (refine Ok.mk ?_; (try simp only [Lm, La, Lc, Ln, Lt, Ld, Lr, Li, true_or, or_true, true_and, and_true]); omega) | (simp <;> fail) | skip) [runM_nil]
    refine hK _ _ ?_
    clear hK K
    refine pwp_cT (by simp) ?_
    first | refine pwp_sr ?_ | refine pwp_regionM ?_
    intro K hK
    simp (disch := first | (refine Ok.mk ?_; (try simp only [Lm, La, Lc, Ln, Lt, Ld, Lr, Li, true_or, or_true, true_and, and_true]); omega) | (simp <;> fail) | skip) [runM_nil]
    refine hK _ _ ?_
    clear hK K
    refine pwp_ret ⟨.inr rfl, _, _, _, (by simp (disch := first | (refine Ok.mk ?_; (try simp only [Lm, La, Lc, Ln, Lt, Ld, Lr, Li, true_or, or_true, true_and, and_true]); omega) | (simp <;> fail) | skip) [runM_nil, resL, q1]; rfl), .refl _, (by simp (disch := first | (refine Ok.mk ?_; (try simp only [Lm, La, Lc, Ln, Lt, Ld, Lr, Li, true_or, or_true, true_and, and_true]); omega) | (simp <;> fail) | skip) [resV, q1]), rfl, rfl⟩
  · first | refine pwp_sr ?_ | refine pwp_regionM ?_
    intro K hK
    simp (disch := first | (refine Ok.mk ?_; (try simp only [Lm, La, Lc, Ln, Lt, Ld, Lr, Li, true_or, or_true, true_and, and_true]); omega) | (simp <;> fail) | skip) [runM_nil]
    refine hK _ _ ?_
    clear hK K
    refine pwp_cF (by simp) ?_
    first | refine pwp_sr ?_ | refine pwp_regionM ?_
    intro K hK
    simp (disch := first | (refine Ok.mk ?_; (try simp only [Lm, La, Lc, Ln, Lt, Ld, Lr, Li, true_or, or_true, true_and, and_true]); omega) | (simp <;> fail) | skip) [runM_nil]
    refine hK _ _ ?_
    clear hK K
    refine pwp_cT (by simp) ?_
    first | refine pwp_sr ?_ | refine pwp_regionM ?_
    intro K hK
    simp (disch := first | (refine Ok.mk ?_; (try simp only [Lm, La, Lc, Ln, Lt, Ld, Lr, Li, true_or, or_true, true_and, and_true]); omega) | (simp <;> fail) | skip) [runM_nil]
    refine hK _ _ ?_
    clear hK K
    refine pwp_ret ⟨.inr rfl, _, _, _, (by simp (disch := first | (refine Ok.mk ?_; (try simp only [Lm, La, Lc, Ln, Lt, Ld, Lr, Li, true_or, or_true, true_and, and_true]); omega) | (simp <;> fail) | skip) [runM_nil, resL]; rfl), .refl _, (by simp (disch := first | (refine Ok.mk ?_; (try simp only [Lm, La, Lc, Ln, Lt, Ld, Lr, Li, true_or, or_true, true_and, and_true]); omega) | (simp <;> fail) | skip) [resV]), rfl, rfl⟩
  · first | refine pwp_sr ?_ | refine pwp_regionM ?_
    intro K hK
    simp (disch := first | (refine Ok.mk ?_; (try simp only [Lm, La, Lc, Ln, Lt, Ld, Lr, Li, true_or, or_true, true_and, and_true]); omega) | (simp <;> fail) | skip) [runM_nil]
    refine hK _ _ ?_
    clear hK K
    refine pwp_cF (by simp) ?_
    first | refine pwp_sr ?_ | refine pwp_regionM ?_
    intro K hK
    simp (disch := first | (refine Ok.mk ?_; (try simp only [Lm, La, Lc, Ln, Lt, Ld, Lr, Li, true_or, or_true, true_and, and_true]); omega) | (simp <;> fail) | skip) [runM_nil]
    refine hK _ _ ?_
    clear hK K
    refine pwp_cT (by simp) ?_
    first | refine pwp_sr ?_ | refine pwp_regionM ?_
    intro K hK
    simp (disch := first | (refine Ok.mk ?_; (try simp only [Lm, La, Lc, Ln, Lt, Ld, Lr, Li, true_or, or_true, true_and, and_true]); omega) | (simp <;> fail) | skip) [runM_nil]
    refine hK _ _ ?_
    clear hK K
    refine pwp_ret ⟨.inr rfl, _, _, _, (by simp (disch := first | (refine Ok.mk ?_; (try simp only [Lm, La, Lc, Ln, Lt, Ld, Lr, Li, true_or, or_true, true_and, and_true]); omega) | (simp <;> fail) | skip) [runM_nil, resL]; rfl), .refl _, (by simp (disch := first | (refine Ok.mk ?_; (try simp only [Lm, La, Lc, Ln, Lt, Ld, Lr, Li, true_or, or_true, true_and, and_true]); omega) | (simp <;> fail) | skip) [resV]), rfl, rfl⟩
  · first | refine pwp_sr ?_ | refine pwp_regionM ?_
    intro K hK
    simp (disch := first | (refine Ok.mk ?_; (try simp only [Lm, La, Lc, Ln, Lt, Ld, Lr, Li, true_or, or_true, true_and, and_true]); omega) | (simp <;> fail) | skip) [runM_nil]
    refine hK _ _ ?_
    clear hK K
    refine pwp_cF (by simp) ?_
    first | refine pwp_sr ?_ | refine pwp_regionM ?_
    intro K hK
    simp (disch := first | (refine Ok.mk ?_; (try simp only [Lm, La, Lc, Ln, Lt, Ld, Lr, Li, true_or, or_true, true_and, and_true]); omega) | (simp <;> fail) | skip) [runM_nil]
    refine hK _ _ ?_
    clear hK K
    refine pwp_cF (by simp) ?_
    first | refine pwp_sr ?_ | refine pwp_regionM ?_
    intro K hK
    simp (disch := first | (refine Ok.mk ?_; (try simp only [Lm, La, Lc, Ln, Lt, Ld, Lr, Li, true_or, or_true, true_and, and_true]); omega) | (simp <;> fail) | skip) [runM_nil]
    refine hK _ _ ?_
    clear hK K
    refine pwp_cT (by simp) ?_
    first | refine pwp_sr ?_ | refine pwp_regionM ?_
    intro K hK
    simp (disch := first | (refine Ok.mk ?_; (try simp only [Lm, La, Lc, Ln, Lt, Ld, Lr, Li, true_or, or_true, true_and, and_true]); omega) | (simp <;> fail) | skip) [runM_nil]
    refine hK _ _ ?_
    clear hK K
    refine pwp_ret ⟨.inr rfl, _, _, _, (by simp (disch := first | (refine Ok.mk ?_; (try simp only [Lm, La, Lc, Ln, Lt, Ld, Lr, Li, true_or, or_true, true_and, and_true]); omega) | (simp <;> fail) | skip) [runM_nil, resL]; rfl), .refl _, (by simp (disch := first | (refine Ok.mk ?_; (try simp only [Lm, La, Lc, Ln, Lt, Ld, Lr, Li, true_or, or_true, true_and, and_true]); omega) | (simp <;> fail) | skip) [resV]), rfl, rfl⟩
  · first | refine pwp_sr ?_ | refine pwp_regionM ?_
    intro K hK
    simp (disch := first | (refine Ok.mk ?_; (try simp only [Lm, La, Lc, Ln, Lt, Ld, Lr, Li, true_or, or_true, true_and, and_true]); omega) | (simp <;> fail) | skip) [runM_nil]
    refine hK _ _ ?_
    clear hK K
    refine pwp_cF (by simp) ?_
    first | refine pwp_sr ?_ | refine pwp_regionM ?_
    intro K hK
    simp (disch := first | (refine Ok.mk ?_; (try simp only [Lm, La, Lc, Ln, Lt, Ld, Lr, Li, true_or, or_true, true_and, and_true]); omega) | (simp <;> fail) | skip) [runM_nil]
    refine hK _ _ ?_
    clear hK K
    refine pwp_cF (by simp) ?_
    first | refine pwp_sr ?_ | refine pwp_regionM ?_
    intro K hK
    simp (disch := first | (refine Ok.mk ?_; (try simp only [Lm, La, Lc, Ln, Lt, Ld, Lr, Li, true_or, or_true, true_and, and_true]); omega) | (simp <;> fail) | skip) [runM_nil]
    refine hK _ _ ?_
    clear hK K
    refine pwp_cF (by simp) ?_
    refine pwp_skip ?_
    have cs := cvS_u8 (s := 1) (o := false) (l := r.take n) rfl (.inl rfl) (fun x hx => hwr x (List.mem_of_mem_take hx))
    rw [List.map_take] at cs
    first | refine pwp_sd hmix ?_ | refine pwp_drawM hmix ?_
    intro K hK
    simp (disch := first | (refine Ok.mk ?_; (try simp only [Lm, La, Lc, Ln, Lt, Ld, Lr, Li, true_or, or_true, true_and, and_true]); omega) | (simp <;> fail) | skip) [runM_nil, cs]
    refine hK _ _ ?_
    clear hK K
    refine pwp_ret ⟨.inr rfl, _, _, _, (by simp (disch := first | (refine Ok.mk ?_; (try simp only [Lm, La, Lc, Ln, Lt, Ld, Lr, Li, true_or, or_true, true_and, and_true]); omega) | (simp <;> fail) | skip) [runM_nil, resL]; rfl), .refl _, (by simp (disch := first | (refine Ok.mk ?_; (try simp only [Lm, La, Lc, Ln, Lt, Ld, Lr, Li, true_or, or_true, true_and, and_true]); omega) | (simp <;> fail) | skip) [resV]), rfl, rfl⟩
end Go.Proofs.Ytibmolekndeofaa.E
/- Sums over bytes: the table, and what a register comes to. -/
namespace Go.Proofs.Ytibmolekndeofaa.E
open Go Go.RowKit Go.Proofs
set_option linter.unusedVariables false
set_option linter.unusedSimpArgs false
theorem stp_lt {c : Nat} (h : c < 4294967296) : stp c < 4294967296 := by
  unfold stp
  split
  · exact xor_lt32 (by omega) (by omega)
  · omega
theorem turn_ok (c : Nat) (h : c < 4294967296) : PSpec Try.prog 50 [.int .u32 c] (.int .u32 (stp c : Nat)) := by
  intro H
  have e : ((c : Int) / 2).toNat = c / 2 := by omega
  have hx : c / 2 ^^^ 3988292384 < 4294967296 := xor_lt32 (by omega) (by omega)
  refine spec_of t50 (by simp [p50]) ?_
  simp only [p50]
  first | refine pwp_sr ?_ | refine pwp_regionM ?_
  intro K hK
  simp (disch := first | (refine Ok.mk ?_; (try simp only [Lm, La, Lc, Ln, Lt, Ld, Lr, Li, true_or, or_true, true_and, and_true]); omega) | (simp <;> fail) | skip) [runM_nil]
  refine hK _ _ ?_
  clear hK K
  by_cases hc : c % 2 = 1
  · first | refine pwp_rif ?_ | refine pwp_rifE ?_
    intro K hK
    simp (disch := first | (refine Ok.mk ?_; (try simp only [Lm, La, Lc, Ln, Lt, Ld, Lr, Li, true_or, or_true, true_and, and_true]); omega) | (simp <;> fail) | skip) [runM_nil, hc]
    refine hK _ _ ?_
    clear hK K
    refine ifT (by simp (disch := first | (refine Ok.mk ?_; (try simp only [Lm, La, Lc, Ln, Lt, Ld, Lr, Li, true_or, or_true, true_and, and_true]); omega) | (simp <;> fail) | skip) [runM_nil]) ?_
    first | refine pwp_sr ?_ | refine pwp_regionM ?_
    intro K hK
    simp (disch := first | (refine Ok.mk ?_; (try simp only [Lm, La, Lc, Ln, Lt, Ld, Lr, Li, true_or, or_true, true_and, and_true]); omega) | (simp <;> fail) | skip) [runM_nil, e]
    refine hK _ _ ?_
    clear hK K
    refine pwp_ret ⟨.inr rfl, _, _, (by simp (disch := first | (refine Ok.mk ?_; (try simp only [Lm, La, Lc, Ln, Lt, Ld, Lr, Li, true_or, or_true, true_and, and_true]); omega) | (simp <;> fail) | skip) [runM_nil, resL, stp, hc]; rfl), .refl _, by simp (disch := first | (refine Ok.mk ?_; (try simp only [Lm, La, Lc, Ln, Lt, Ld, Lr, Li, true_or, or_true, true_and, and_true]); omega) | (simp <;> fail) | skip) [resV, stp, hc], rfl⟩
  · have hc0 : c % 2 = 0 := by omega
    first | refine pwp_rif ?_ | refine pwp_rifE ?_
    intro K hK
    simp (disch := first | (refine Ok.mk ?_; (try simp only [Lm, La, Lc, Ln, Lt, Ld, Lr, Li, true_or, or_true, true_and, and_true]); omega) | (simp <;> fail) | skip) [runM_nil, hc0]
    refine hK _ _ ?_
    clear hK K
    refine ifF (by simp (disch := first | (refine Ok.mk ?_; (try simp only [Lm, La, Lc, Ln, Lt, Ld, Lr, Li, true_or, or_true, true_and, and_true]); omega) | (simp <;> fail) | skip) [runM_nil]) (pwp_skip ?_)
    first | refine pwp_sr ?_ | refine pwp_regionM ?_
    intro K hK
    simp (disch := first | (refine Ok.mk ?_; (try simp only [Lm, La, Lc, Ln, Lt, Ld, Lr, Li, true_or, or_true, true_and, and_true]); omega) | (simp <;> fail) | skip) [runM_nil]
    refine hK _ _ ?_
    clear hK K
    refine pwp_ret ⟨.inr rfl, _, _, (by simp (disch := first | (refine Ok.mk ?_; (try simp only [Lm, La, Lc, Ln, Lt, Ld, Lr, Li, true_or, or_true, true_and, and_true]); omega) | (simp <;> fail) | skip) [runM_nil, resL, stp, hc]; rfl), .refl _, by simp (disch := first | (refine Ok.mk ?_; (try simp only [Lm, La, Lc, Ln, Lt, Ld, Lr, Li, true_or, or_true, true_and, and_true]); omega) | (simp <;> fail) | skip) [resV, stp, hc], rfl⟩
def stps : Nat → Nat → Nat
  | 0, c => c
  | n + 1, c => stp (stps n c)
theorem stps_lt {c : Nat} (h : c < 4294967296) : ∀ n, stps n c < 4294967296
  | 0 => h
  | n + 1 => stp_lt (stps_lt h n)
/-- The table, so far. -/
def tblC (i : Nat) : List PV := ((List.range i).map ent ++ List.replicate (256 - i) 0).map u32
theorem tblC_len {i : Nat} (h : i ≤ 256) : (tblC i).length = 256 := by simp [tblC]; omega
theorem tblC_set {i : Nat} (h : i < 256) : (tblC i).set i (.int .u32 (ent i : Nat)) = tblC (i + 1) := by
  have e1 : PV.int .u32 (ent i : Nat) = u32 (ent i) := rfl
  rw [e1]
  unfold tblC
  rw [← List.map_set]
  congr 1
  have e : 256 - i = (256 - (i + 1)) + 1 := by omega
  rw [List.set_append_right _ _ (by simp), List.length_map, List.length_range, Nat.sub_self, e, List.replicate_succ, List.set_cons_zero, List.range_succ, List.map_append, List.append_assoc]
  rfl
set_option maxRecDepth 4000 in
theorem table_ok : PSpec Try.prog 27 [] (.lst 1 (tbl.map u32) false) := by
  intro H
  refine spec_of t27r (by simp [p27r]) ?_
  simp only [p27r]
  first | refine pwp_sr ?_ | refine pwp_regionM ?_
  intro K hK
  simp (disch := first | (refine Ok.mk ?_; (try simp only [Lm, La, Lc, Ln, Lt, Ld, Lr, Li, true_or, or_true, true_and, and_true]); omega) | (simp <;> fail) | skip) [runM_nil]
  refine hK _ _ ?_
  clear hK K
  have e0 : List.replicate 256 (PV.int .u32 0) = tblC 0 := by simp [tblC, -List.reduceReplicate]
  first | refine pwp_sr ?_ | refine pwp_regionM ?_
  intro K hK
  simp (disch := first | (refine Ok.mk ?_; (try simp only [Lm, La, Lc, Ln, Lt, Ld, Lr, Li, true_or, or_true, true_and, and_true]); omega) | (simp <;> fail) | skip) [runM_nil, e0, -List.reduceReplicate]
  intro b h_b
  try simp (disch := first | (refine Ok.mk ?_; (try simp only [Lm, La, Lc, Ln, Lt, Ld, Lr, Li, true_or, or_true, true_and, and_true]); omega) | (simp <;> fail) | skip) [runM_nil, e0, -List.reduceReplicate]
  refine hK _ _ ?_
  clear hK K
  refine pwp_seq ?_
  first | refine pwp_sr ?_ | refine pwp_regionM ?_
  intro K hK
  simp (disch := first | (refine Ok.mk ?_; (try simp only [Lm, La, Lc, Ln, Lt, Ld, Lr, Li, true_or, or_true, true_and, and_true]); omega) | (simp <;> fail) | skip) [runM_nil]
  refine hK _ _ ?_
  clear hK K
  refine pwp_block ?_
  refine pwp_loopK [1, 6, 7] (fun m st H' => ∃ i : Nat, i ≤ 256 ∧ m = 256 - i ∧ H' = (b, tblC i) :: H ∧ st = MS 23 [(1, .row b 0 256 256), (6, .int .i64 256), (7, .int .i64 i)]) (n := 256)
    ⟨_, .refl _, 0, by omega, rfl, rfl, by simp [keepL_MS, keepA, getS]⟩ ?_
  rintro m st _ ⟨i, hi, rfl, rfl, rfl⟩
  have hlen := tblC_len hi
  by_cases hlt : i < 256
  · have hset := tblC_set hlt
    generalize tblC i = T at *
    first | refine pwp_sr ?_ | refine pwp_regionM ?_
    intro K hK
    simp (disch := first | (refine Ok.mk ?_; (try simp only [Lm, La, Lc, Ln, Lt, Ld, Lr, Li, true_or, or_true, true_and, and_true]); omega) | (simp <;> fail) | skip) [runM_nil]
    refine hK _ _ ?_
    clear hK K
    refine pwp_seq (pwp_cT (by simp) (pwp_skip ?_))
    refine pwp_seq (pwp_block ?_)
    first | refine pwp_sr ?_ | refine pwp_regionM ?_
    intro K hK
    simp (disch := first | (refine Ok.mk ?_; (try simp only [Lm, La, Lc, Ln, Lt, Ld, Lr, Li, true_or, or_true, true_and, and_true]); omega) | (simp <;> fail) | skip) [runM_nil]
    refine hK _ _ ?_
    clear hK K
    first | refine pwp_sr ?_ | refine pwp_regionM ?_
    intro K hK
    simp (disch := first | (refine Ok.mk ?_; (try simp only [Lm, La, Lc, Ln, Lt, Ld, Lr, Li, true_or, or_true, true_and, and_true]); omega) | (simp <;> fail) | skip) [runM_nil]
    refine hK _ _ ?_
    clear hK K
    refine pwp_seq (pwp_seq ?_)
    first | refine pwp_sr ?_ | refine pwp_regionM ?_
    intro K hK
    simp (disch := first | (refine Ok.mk ?_; (try simp only [Lm, La, Lc, Ln, Lt, Ld, Lr, Li, true_or, or_true, true_and, and_true]); omega) | (simp <;> fail) | skip) [runM_nil]
    refine hK _ _ ?_
    clear hK K
    refine pwp_block ?_
    refine pwp_loopK [1, 2, 3, 6, 7, 12] (fun m st H' => ∃ j : Nat, j ≤ 8 ∧ m = 8 - j ∧ H' = (b, T) :: H ∧ st = MS 23 [(1, .row b 0 256 256), (2, .int .i64 i), (3, .int .u32 (stps j i : Nat)), (6, .int .i64 256), (7, .int .i64 i), (12, .int .i64 j)]) (n := 8)
      ⟨_, .refl _, 0, by omega, rfl, rfl, by simp [keepL_MS, keepA, getS, stps]⟩ ?_
    rintro m st _ ⟨j, hj, rfl, rfl, rfl⟩
    have hsl := stps_lt (c := i) (by omega) j
    by_cases hj8 : j < 8
    · first | refine pwp_sr ?_ | refine pwp_regionM ?_
      intro K hK
      simp (disch := first | (refine Ok.mk ?_; (try simp only [Lm, La, Lc, Ln, Lt, Ld, Lr, Li, true_or, or_true, true_and, and_true]); omega) | (simp <;> fail) | skip) [runM_nil]
      refine hK _ _ ?_
      clear hK K
      refine pwp_seq (pwp_cT (by simp) (pwp_skip ?_))
      refine pwp_seq (pwp_block ?_)
      first | refine pwp_sr ?_ | refine pwp_regionM ?_
      intro K hK
      simp (disch := first | (refine Ok.mk ?_; (try simp only [Lm, La, Lc, Ln, Lt, Ld, Lr, Li, true_or, or_true, true_and, and_true]); omega) | (simp <;> fail) | skip) [runM_nil]
      refine useP (turn_ok _ hsl) ?_
      simp (disch := first | (refine Ok.mk ?_; (try simp only [Lm, La, Lc, Ln, Lt, Ld, Lr, Li, true_or, or_true, true_and, and_true]); omega) | (simp <;> fail) | skip) [runM_nil]
      refine hK _ _ ?_
      clear hK K
      first | refine pwp_sr ?_ | refine pwp_regionM ?_
      intro K hK
      simp (disch := first | (refine Ok.mk ?_; (try simp only [Lm, La, Lc, Ln, Lt, Ld, Lr, Li, true_or, or_true, true_and, and_true]); omega) | (simp <;> fail) | skip) [runM_nil]
      refine hK _ _ ?_
      clear hK K
      exact ⟨8 - (j + 1), by omega, _, .refl _, j + 1, by omega, rfl, rfl, by simp [keepL_MS, keepA, getS, stps]⟩
    · obtain rfl : j = 8 := by omega
      first | refine pwp_sr ?_ | refine pwp_regionM ?_
      intro K hK
      simp (disch := first | (refine Ok.mk ?_; (try simp only [Lm, La, Lc, Ln, Lt, Ld, Lr, Li, true_or, or_true, true_and, and_true]); omega) | (simp <;> fail) | skip) [runM_nil]
      refine hK _ _ ?_
      clear hK K
      refine pwp_seq (pwp_cF (by simp) (pwp_exit ?_))
      have he : stps 8 i = ent i := rfl
      have hsc := set_cell (cs := T) (i := i) (v := .int .u32 (ent i : Nat)) (by omega)
      first | refine pwp_sr ?_ | refine pwp_regionM ?_
      intro K hK
      simp (disch := first | (refine Ok.mk ?_; (try simp only [Lm, La, Lc, Ln, Lt, Ld, Lr, Li, true_or, or_true, true_and, and_true]); omega) | (simp <;> fail) | skip) [runM_nil, he, hlen, hsc, hset]
      refine hK _ _ ?_
      clear hK K
      first | refine pwp_sr ?_ | refine pwp_regionM ?_
      intro K hK
      simp (disch := first | (refine Ok.mk ?_; (try simp only [Lm, La, Lc, Ln, Lt, Ld, Lr, Li, true_or, or_true, true_and, and_true]); omega) | (simp <;> fail) | skip) [runM_nil]
      refine hK _ _ ?_
      clear hK K
      exact ⟨256 - (i + 1), by omega, _, .refl _, i + 1, by omega, rfl, rfl, by simp [keepL_MS, keepA, getS]⟩
  · obtain rfl : i = 256 := by omega
    first | refine pwp_sr ?_ | refine pwp_regionM ?_
    intro K hK
    simp (disch := first | (refine Ok.mk ?_; (try simp only [Lm, La, Lc, Ln, Lt, Ld, Lr, Li, true_or, or_true, true_and, and_true]); omega) | (simp <;> fail) | skip) [runM_nil]
    refine hK _ _ ?_
    clear hK K
    refine pwp_seq (pwp_cF (by simp) (pwp_exit ?_))
    refine pwp_ro h_b ?_
    have hr : rowL 1 false (tblC 256) 256 256 = some (.lst 1 (tbl.map u32) false) := by
      have e1 : tblC 256 = tbl.map u32 := by simp [tblC, tbl]
      rw [e1, rowL_plain (lendL_map (fun a => rfl) tbl) (by rw [Lm]; exact tbl_length) (by omega)]
    first | refine pwp_sr ?_ | refine pwp_regionM ?_
    intro K hK
    simp (disch := first | (refine Ok.mk ?_; (try simp only [Lm, La, Lc, Ln, Lt, Ld, Lr, Li, true_or, or_true, true_and, and_true]); omega) | (simp <;> fail) | skip) [runM_nil, hr]
    refine hK _ _ ?_
    clear hK K
    refine pwp_ret ⟨.inr rfl, _, _, (by simp (disch := first | (refine Ok.mk ?_; (try simp only [Lm, La, Lc, Ln, Lt, Ld, Lr, Li, true_or, or_true, true_and, and_true]); omega) | (simp <;> fail) | skip) [runM_nil, resL]; rfl), .refl _, by simp (disch := first | (refine Ok.mk ?_; (try simp only [Lm, La, Lc, Ln, Lt, Ld, Lr, Li, true_or, or_true, true_and, and_true]); omega) | (simp <;> fail) | skip) [resV], rfl⟩
end Go.Proofs.Ytibmolekndeofaa.E
/- slices.Grow of a nil slice, over the model itself. -/
namespace Go.Proofs.Ytibmolekndeofaa.E
open Go Go.RowKit Go.Proofs
set_option linter.unusedVariables false
set_option linter.unusedSimpArgs false
theorem growNil_run {P : Program} {t ti ty e : TypeId} {i : TypeInfo} {z : Value} {k : IntKind} (ht : P.underlying t = some (.slice e)) (hti : P.underlying ti = some (.int k)) (hi : P.info? e = some i) (hz : i.zero = some z)
    (hzs : z.cells.size = i.size) (hsz : 0 < i.size) (hby : 1 ≤ i.bytes) (A : Option Addr) (n : Nat) (hn : 0 < n) (hb : n * i.bytes ≤ 140737488355328) (w : World) :
    ∃ cap rest, n ≤ cap ∧ cap ≤ maxLen ∧ rest.size = cap * i.size ∧ (Builtin.append_ #[t, ti] ty #[.slice A 0 0, .int .i64 n]).run P w = .ok (.slice (some ⟨w.heap.size, 0, none⟩) n cap) (w.drew.alloc (.cells rest e)) := by
  have hle : n ≤ 140737488355328 := Nat.le_trans (Nat.le_mul_of_pos_right _ hby) hb
  have h63 : n ≤ maxLen := by simp only [maxLen]; omega
  have hw : IntKind.i64.wrap (n : Int) = n := by rw [IntKind.wrap_i64]; omega
  have hneg : ¬ ((n : Int) < 0) := by omega
  have hbig : ¬ (281474976710656 < (n : Int) * (i.bytes : Int)) := by rw [← Int.natCast_mul]; omega
  have hcapn : ¬ (0 + n ≤ 0) := by omega
  have h63' : ¬ (9223372036854775807 < (((0 : Nat) : Int) + (n : Int))) := by simp only [maxLen] at h63; omega
  have hfit := growslice_fits (need := n) (old := 0) (bytes := i.bytes) (by omega) hb
  have h48' : ¬ (281474976710656 < Builtin.nextslicecap (0 + n) 0 * i.bytes) := by rw [Nat.zero_add]; omega
  have hsn : i.size ≠ 0 := by omega
  have hmz : ¬ (n * i.size = 0) := Nat.mul_ne_zero (by omega) hsn
  have hfc : (Builtin.firstCells i.size 0 (.slice A 0 0)).run P w.drew = .ok #[] w.drew := by cases A <;> simp [Builtin.firstCells, loadCells, loadCellsFrom]
  refine ⟨grownCap w n 0 e, Builtin.zeroCells z.cells n ++ Builtin.zeroCells z.cells (grownCap w n 0 e - n), grownCap_ge _ _ _ _, grownCap_le_maxLen _ _ _ _ h63, ?_, ?_⟩
  · have := grownCap_ge w n 0 e
    rw [Array.size_append, size_zeroCells, size_zeroCells, hzs, ← Nat.add_mul]
    congr 1
    omega
  · simp only [Nat.zero_add] at hcapn h63' h48'
    have hn0 : n ≠ 0 := by omega
    simp [Builtin.append_, run_underlying ht, run_underlying hti, sizeOf, typeInfo, zeroValue, hi, hz, asInt, asIntOf, hw, hneg, hbig, h48', Question.forced, newRow, grownCap, hmz, hn0, hfc]
    omega
/-- What a call that makes a value comes to. -/
theorem spec_step {P : Program} {f : Nat} {args : List PV} {r : PV} (hc : callable P f = true) (h : ∀ (out : List Nat) (w : World) (g : Ghost) (vals : Array Value), WRel out w g → VRl true w g args vals.toList →
    Calls P f vals w fun e w' => ∃ v g', e = .returned v ∧ Step [] w g w' g' r v) : PSpec P f args r := by
  refine fun H => ⟨hc, fun out w g vals hw hH hV hun => (h out w g vals hw hV).mono ?_⟩
  rintro e w' ⟨v, g', rfl, hs⟩
  have hlt : ∀ b f, g b = .tail f → b < w.heap.size := fun b f hf => hw.lt (by rw [hf]; simp)
  have hE : Evol (out ++ toksH w H) w g w' g' := hs.toStep0.evol (by simp) fun b hb => by
    refine ⟨?_, by simp⟩
    rcases List.mem_append.1 hb with hb | hb
    · obtain ⟨f, hf⟩ := hw.outT b hb; exact hlt b f hf
    · obtain ⟨f, hf⟩ := toksH_tail hH b hb; exact hlt b f hf
  have hm : ∀ b, g b = .mut → w'.heap[b]? = w.heap[b]? ∧ g' b = .mut := fun b hb => by
    obtain ⟨k1, k2⟩ := hs.old b (hw.lt (by rw [hb]; simp)) (by simp)
    exact ⟨k1, k2.trans hb⟩
  obtain ⟨hH', hT⟩ := HRel.keep hE hm hH (fun b hb => List.mem_append_right _ hb)
  refine ⟨v, r, H, g', rfl, ⟨rfl, rfl⟩, hs.toStep0.wrel hw (by simp), hH', hs.rv, fun b => ?_, hE.sub (fun b hb => List.mem_append_left _ hb)⟩
  rw [hT]
  have h1 := hun b
  have h2 := hs.rt b
  by_cases hb : b ∈ toks r v
  · rcases hs.rs b hb with hm | hm
    · cases hm
    · have z1 : (toksH w H).count b = 0 := count_mem_zero fun hh => by obtain ⟨f, hf⟩ := toksH_tail hH b hh; have := hlt b f hf; omega
      have z2 : out.count b = 0 := count_mem_zero fun hh => by obtain ⟨f, hf⟩ := hw.outT b hh; have := hlt b f hf; omega
      omega
  · have := count_mem_zero hb
    omega
theorem wp_growNil {P : Program} {ops : Array Oper} {rest' : List Oper} {o : Oper} {a : Act} {W : World} {Q : Exit → Act → World → Prop} (hgd : o.guard = none) (s x : Operand) (t ti e : TypeId) {i : TypeInfo} {z : Value} {k : IntKind}
    (ho : o.op = .call { callee := .builtin .append, args := #[s, x], argTypes := #[t, ti] }) (ht : P.underlying t = some (.slice e)) (hti : P.underlying ti = some (.int k)) (hi : P.info? e = some i) (hz : i.zero = some z)
    (hzs : z.cells.size = i.size) (hsz : 0 < i.size) (hby : 1 ≤ i.bytes) (A : Option Addr) (n : Nat) (hn : 0 < n) (hb : n * i.bytes ≤ 140737488355328) (hs : a.eval s = .slice A 0 0) (hx : a.eval x = .int .i64 n)
    (h : ∀ cap rest, n ≤ cap → cap ≤ maxLen → rest.size = cap * i.size → wpList P ops Q rest' (a.put o.dst (.slice (some ⟨W.heap.size, 0, none⟩) n cap)) (W.drew.alloc (.cells rest e))) : wpList P ops Q (o :: rest') a W := by
  obtain ⟨cap, rest, k1, k2, k3, hr1⟩ := growNil_run (ty := o.type) ht hti hi hz hzs hsz hby A n hn hb W
  refine wpList_plain hgd fun K hK => ?_
  unfold Oper.wp execOp
  simp only [ho, resolve, invoke, builtin, Sem.run_bind, Sem.run_pure, Result.andThen_ok, List.map_toArray, List.map_cons, List.map_nil, hs, hx, hr1]
  exact hK _ _ (h cap rest k1 k2 k3)
theorem slice_len {P : Program} {t e : TypeId} {i : TypeInfo} (ht : P.underlying t = some (.slice e)) (hi : P.info? e = some i) (A : Option Addr) (n c : Nat) (hc : n ≤ c) :
    ∀ W : World, (Instr.slice t (.slice A n c) none (some (.int .i64 0)) none).run P W = .ok (.slice A 0 c) W := by
  intro W
  have hel : P.elem t = e := by simp [Program.elem, ht]
  have hu : P.underlying t = some (.slice (P.elem t)) := by rw [hel]; exact ht
  have ha : (A.map fun x => x.add 0) = A := by cases A <;> simp [Addr.add]
  rw [run_slice_h W t A n c hu .i64 0 (by omega) (by omega), hel]
  simp [sizeOf, typeInfo, hi, sliced, Result.andThen, ha]
theorem grow_ok (n : Nat) (hn : n ≤ 100000000000000) : PSpec Try.prog 70 [.lst 0 [] true, .int .i64 n] (.lst 1 [] true) := by
  refine spec_step (by kernel_rfl) ?_
  intro out w g vals hw hV
  obtain ⟨v, vs, e1, hv, v2, vs2, e2, hv2, e3⟩ := hV
  subst e2 e3
  obtain ⟨A, cap, rfl, c1, c2, c3, c4⟩ := hv
  obtain rfl : cap = 0 := by
    by_cases h : ([] : List PV).length < cap
    · exact absurd (c4 rfl rfl h).1 (by omega)
    · simpa using h
  cases hv2
  obtain rfl : vals = #[.slice A 0 0, .int .i64 n] := by cases vals; simp_all
  have hinfo : (Try.prog.info? 5).map (fun i => (i.zero, i.size, i.bytes)) = some (some (.int .u8 0), 1, 1) := by kernel_rfl
  obtain ⟨i, hi, hzz⟩ := Option.map_eq_some_iff.1 hinfo
  simp only [Prod.mk.injEq] at hzz
  obtain ⟨hz0, hz1, hz2⟩ := hzz
  have c1 : decide ((n : Int) < 0) = false := decide_eq_false (by omega)
  have e1 : IntKind.i64.wrap (n : Int) = n := by rw [IntKind.wrap_i64]; omega
  have hcap : ∀ W : World, (Instr.slice 25 (.slice A 0 0) none (some (.int .i64 0)) none).run Try.prog W = .ok (.slice A 0 0) W := slice_len Try.underlying25 hi A 0 0 (Nat.le_refl _)
  by_cases hp : 0 < n
  · have c2 : decide (0 < (n : Int)) = true := decide_eq_true (by omega)
    go_enter Try.func70, Try.ntmps70
    go_wp2_with (first | (at_builtin; refine wp_growNil rfl (.tmp 20) (.tmp 21) 25 3 5 rfl Try.underlying25 Try.underlying3 hi hz0 (by rw [hz1]; rfl) (by omega) (by omega) A n hp (by rw [hz2]; omega) rfl rfl ?_; intro cap rest k1 k2 k3; have hcut := slice_len Try.underlying25 hi (some ⟨w.heap.size, 0, none⟩) n cap k1))
    go_ret
    have hS : Step0 [] w g (w.drew.alloc (.cells rest 5)) (upd g w.heap.size (.tail 0)) := Step0.alloc (out := out) (tk := []) (fz := (0, 0)) hw rfl rfl rfl rfl (by simp) (fun f hf => by cases hf; exact ⟨rfl, Nat.zero_le _⟩)
    have ht : ∀ b ∈ toks (.lst 1 [] true) (.slice (some ⟨w.heap.size, 0, none⟩) 0 cap), b = w.heap.size := fun b hb => by
      rw [toks_lst (n := 0) rfl] at hb
      split at hb
      · simpa using hb
      · cases hb
    refine ⟨.slice (some ⟨w.heap.size, 0, none⟩) 0 cap, rfl, upd g w.heap.size (.tail 0), ⟨hS, ?_, fun b => ?_, fun b hb => .inr (by rw [ht b hb]; exact Nat.le_refl _)⟩⟩
    · refine ⟨_, cap, rfl, Nat.zero_le _, k2, .inl rfl, fun _ _ hlt => ⟨by omega, w.heap.size, rest, _, rfl, heap_alloc_new w.drew _, by rw [upd_same]; rfl, by rw [k3, hz1]; omega⟩⟩
    · rw [toks_lst (n := 0) rfl]
      exact count_one _ _ _
  · obtain rfl : n = 0 := by omega
    go_enter Try.func70, Try.ntmps70
    go_wp2
    go_ret
    refine ⟨_, rfl, g, Step.same hw ⟨A, 0, rfl, Nat.le_refl _, Nat.zero_le _, .inl rfl, fun _ _ h => absurd h (by simp)⟩ (by cases A <;> simp [toks])⟩
end Go.Proofs.Ytibmolekndeofaa.E
/- Sums over bytes: sealed, and opened. -/
namespace Go.Proofs.Ytibmolekndeofaa.E
open Go Go.RowKit Go.Proofs
set_option linter.unusedVariables false
set_option linter.unusedSimpArgs false
def rowsV (ls : List (Nat × List Nat)) : List PV := ls.map fun p => .lst p.1 (p.2.map u8) false
def flat (ls : List (Nat × List Nat)) (i : Nat) : List Nat := (ls.take i).flatMap (·.2)
theorem flat_succ {ls : List (Nat × List Nat)} {i : Nat} (h : i < ls.length) : flat ls (i + 1) = flat ls i ++ ls[i].2 := by
  rw [flat, List.take_succ_eq_append_getElem h, List.flatMap_append]
  simp [flat]
theorem flat_le {ls : List (Nat × List Nat)} (i : Nat) : (flat ls i).length ≤ (ls.flatMap (·.2)).length := by
  have h : ls.flatMap (·.2) = flat ls i ++ (ls.drop i).flatMap (·.2) := by rw [flat, ← List.flatMap_append, List.take_append_drop]
  rw [h, List.length_append]
  omega
theorem flat_all (ls : List (Nat × List Nat)) : flat ls ls.length = ls.flatMap (·.2) := by rw [flat, List.take_length]
set_option maxRecDepth 4000 in
theorem concat_ok {es : List PV} {o : Bool} (ls : List (Nat × List Nat)) (he : es = rowsV ls) (hs : ∀ p ∈ ls, p.1 = 1 ∨ p.2.length = 0) (hn : ls.length ≤ 1000000) (hl : (ls.flatMap (·.2)).length ≤ 100000000000000) :
    PSpec Try.prog 57 [.lst 1 es o] (bV (ls.flatMap (·.2)) true) := by
  intro H
  have hel : es.length = ls.length := by rw [he, rowsV, Lm]
  have hge : ∀ i (h : i < ls.length), es[i]? = some (.lst ls[i].1 (ls[i].2.map u8) false) := fun i h => by rw [he, rowsV, List.getElem?_map, List.getElem?_eq_getElem h]; rfl
  clear he
  refine spec_of t57t (by simp [p57t]) ?_
  simp only [p57t]
  first | refine pwp_sr ?_ | refine pwp_regionM ?_
  intro K hK
  simp (disch := first | (refine Ok.mk ?_; (try simp only [Lm, La, Lc, Ln, Lt, Ld, Lr, Li, true_or, or_true, true_and, and_true]); omega) | (simp <;> fail) | skip) [runM_nil]
  refine hK _ _ ?_
  clear hK K
  first | refine pwp_sr ?_ | refine pwp_regionM ?_
  intro K hK
  simp (disch := first | (refine Ok.mk ?_; (try simp only [Lm, La, Lc, Ln, Lt, Ld, Lr, Li, true_or, or_true, true_and, and_true]); omega) | (simp <;> fail) | skip) [runM_nil]
  refine hK _ _ ?_
  clear hK K
  refine pwp_seq (pwp_seq ?_)
  first | refine pwp_sr ?_ | refine pwp_regionM ?_
  intro K hK
  simp (disch := first | (refine Ok.mk ?_; (try simp only [Lm, La, Lc, Ln, Lt, Ld, Lr, Li, true_or, or_true, true_and, and_true]); omega) | (simp <;> fail) | skip) [runM_nil, hel]
  refine hK _ _ ?_
  clear hK K
  refine pwp_block ?_
  refine pwp_loopK [0, 3, 9, 10, 11] (fun m st H' => ∃ i : Nat, i ≤ ls.length ∧ m = ls.length - i ∧ H' = H ∧ st = MS 36 [(0, .lst 1 es o), (3, .int .i64 (flat ls i).length), (9, .lst 1 es false), (10, .int .i64 ls.length), (11, .int .i64 i)]) (n := ls.length)
    ⟨_, .refl _, 0, Nat.zero_le _, rfl, rfl, by simp [keepL_MS, keepA, getS, flat]⟩ ?_
  rintro m st H' ⟨i, hi, rfl, rfl, rfl⟩
  by_cases hlt : i < ls.length
  · have hg := hge i hlt
    have hf := flat_succ hlt
    have hfl := flat_le (ls := ls) (i + 1)
    have hfl2 := congrArg List.length hf
    rw [La] at hfl2
    generalize ls[i] = q at *
    first | refine pwp_sr ?_ | refine pwp_regionM ?_
    intro K hK
    simp (disch := first | (refine Ok.mk ?_; (try simp only [Lm, La, Lc, Ln, Lt, Ld, Lr, Li, true_or, or_true, true_and, and_true]); omega) | (simp <;> fail) | skip) [runM_nil, hel]
    refine hK _ _ ?_
    clear hK K
    refine pwp_seq (pwp_cT (by simp) (pwp_skip ?_))
    refine pwp_seq (pwp_block ?_)
    first | refine pwp_sr ?_ | refine pwp_regionM ?_
    intro K hK
    simp (disch := first | (refine Ok.mk ?_; (try simp only [Lm, La, Lc, Ln, Lt, Ld, Lr, Li, true_or, or_true, true_and, and_true]); omega) | (simp <;> fail) | skip) [runM_nil, hg, hel]
    refine hK _ _ ?_
    clear hK K
    first | refine pwp_sr ?_ | refine pwp_regionM ?_
    intro K hK
    simp (disch := first | (refine Ok.mk ?_; (try simp only [Lm, La, Lc, Ln, Lt, Ld, Lr, Li, true_or, or_true, true_and, and_true]); omega) | (simp <;> fail) | skip) [runM_nil]
    refine hK _ _ ?_
    clear hK K
    first | refine pwp_rif ?_ | refine pwp_rifE ?_
    intro K hK
    simp (disch := first | (refine Ok.mk ?_; (try simp only [Lm, La, Lc, Ln, Lt, Ld, Lr, Li, true_or, or_true, true_and, and_true]); omega) | (simp <;> fail) | skip) [runM_nil]
    refine hK _ _ ?_
    clear hK K
    refine ifF (by simp (disch := first | (refine Ok.mk ?_; (try simp only [Lm, La, Lc, Ln, Lt, Ld, Lr, Li, true_or, or_true, true_and, and_true]); omega) | (simp <;> fail) | skip) [runM_nil]) (pwp_skip ?_)
    first | refine pwp_sr ?_ | refine pwp_regionM ?_
    intro K hK
    simp (disch := first | (refine Ok.mk ?_; (try simp only [Lm, La, Lc, Ln, Lt, Ld, Lr, Li, true_or, or_true, true_and, and_true]); omega) | (simp <;> fail) | skip) [runM_nil]
    refine hK _ _ ?_
    clear hK K
    exact ⟨ls.length - (i + 1), by omega, _, .refl _, i + 1, by omega, rfl, rfl, by simp [keepL_MS, keepA, getS, hfl2]⟩
  · obtain rfl : i = ls.length := by omega
    first | refine pwp_sr ?_ | refine pwp_regionM ?_
    intro K hK
    simp (disch := first | (refine Ok.mk ?_; (try simp only [Lm, La, Lc, Ln, Lt, Ld, Lr, Li, true_or, or_true, true_and, and_true]); omega) | (simp <;> fail) | skip) [runM_nil, hel]
    refine hK _ _ ?_
    clear hK K
    refine pwp_seq (pwp_cF (by simp) (pwp_exit ?_))
    have hfa := flat_all ls
    generalize hF : ls.flatMap (·.2) = F at *
    rw [hfa]
    first | refine pwp_sr ?_ | refine pwp_regionM ?_
    intro K hK
    simp (disch := first | (refine Ok.mk ?_; (try simp only [Lm, La, Lc, Ln, Lt, Ld, Lr, Li, true_or, or_true, true_and, and_true]); omega) | (simp <;> fail) | skip) [runM_nil]
    refine useP (grow_ok _ hl) ?_
    simp (disch := first | (refine Ok.mk ?_; (try simp only [Lm, La, Lc, Ln, Lt, Ld, Lr, Li, true_or, or_true, true_and, and_true]); omega) | (simp <;> fail) | skip) [runM_nil]
    refine hK _ _ ?_
    clear hK K
    refine pwp_seq (pwp_seq ?_)
    first | refine pwp_sr ?_ | refine pwp_regionM ?_
    intro K hK
    simp (disch := first | (refine Ok.mk ?_; (try simp only [Lm, La, Lc, Ln, Lt, Ld, Lr, Li, true_or, or_true, true_and, and_true]); omega) | (simp <;> fail) | skip) [runM_nil, hel]
    refine hK _ _ ?_
    clear hK K
    refine pwp_block ?_
    refine pwp_loopK [6, 25, 26, 27] (fun m st H2 => ∃ i : Nat, i ≤ ls.length ∧ m = ls.length - i ∧ H2 = H' ∧ st = MS 36 [(6, bV (flat ls i) true), (25, .lst 1 es false), (26, .int .i64 ls.length), (27, .int .i64 i)]) (n := ls.length)
      ⟨_, .refl _, 0, Nat.zero_le _, rfl, rfl, by simp [keepL_MS, keepA, getS, flat]⟩ ?_
    clear hlt hi
    rintro m st _ ⟨i, hi, rfl, rfl, rfl⟩
    by_cases hlt : i < ls.length
    · have hg := hge i hlt
      have hsi := hs _ (List.getElem_mem hlt)
      have hf := flat_succ hlt
      have hfl := flat_le (ls := ls) (i + 1)
      rw [hF] at hfl
      have hfl2 := congrArg List.length hf
      rw [La] at hfl2
      generalize ls[i] = q at *
      first | refine pwp_sr ?_ | refine pwp_regionM ?_
      intro K hK
      simp (disch := first | (refine Ok.mk ?_; (try simp only [Lm, La, Lc, Ln, Lt, Ld, Lr, Li, true_or, or_true, true_and, and_true]); omega) | (simp <;> fail) | skip) [runM_nil, hel]
      refine hK _ _ ?_
      clear hK K
      refine pwp_seq (pwp_cT (by simp) (pwp_skip ?_))
      refine pwp_seq (pwp_block ?_)
      first | refine pwp_sr ?_ | refine pwp_regionM ?_
      intro K hK
      simp (disch := first | (refine Ok.mk ?_; (try simp only [Lm, La, Lc, Ln, Lt, Ld, Lr, Li, true_or, or_true, true_and, and_true]); omega) | (simp <;> fail) | skip) [runM_nil, hg, hel]
      refine hK _ _ ?_
      clear hK K
      first | refine pwp_sr ?_ | refine pwp_regionM ?_
      intro K hK
      simp (disch := first | (refine Ok.mk ?_; (try simp only [Lm, La, Lc, Ln, Lt, Ld, Lr, Li, true_or, or_true, true_and, and_true]); omega) | (simp <;> fail) | skip) [runM_nil]
      refine hK _ _ ?_
      clear hK K
      first | refine pwp_sr ?_ | refine pwp_regionM ?_
      intro K hK
      simp (disch := first | (refine Ok.mk ?_; (try simp only [Lm, La, Lc, Ln, Lt, Ld, Lr, Li, true_or, or_true, true_and, and_true]); omega) | (simp <;> fail) | skip) [runM_nil]
      refine hK _ _ ?_
      clear hK K
      exact ⟨ls.length - (i + 1), by omega, _, .refl _, i + 1, by omega, rfl, rfl, by simp [keepL_MS, keepA, getS, hf]⟩
    · obtain rfl : i = ls.length := by omega
      first | refine pwp_sr ?_ | refine pwp_regionM ?_
      intro K hK
      simp (disch := first | (refine Ok.mk ?_; (try simp only [Lm, La, Lc, Ln, Lt, Ld, Lr, Li, true_or, or_true, true_and, and_true]); omega) | (simp <;> fail) | skip) [runM_nil, hel]
      refine hK _ _ ?_
      clear hK K
      refine pwp_seq (pwp_cF (by simp) (pwp_exit ?_))
      rw [hfa]
      first | refine pwp_sr ?_ | refine pwp_regionM ?_
      intro K hK
      simp (disch := first | (refine Ok.mk ?_; (try simp only [Lm, La, Lc, Ln, Lt, Ld, Lr, Li, true_or, or_true, true_and, and_true]); omega) | (simp <;> fail) | skip) [runM_nil]
      refine hK _ _ ?_
      clear hK K
      refine pwp_ret ⟨.inr rfl, _, _, (by simp (disch := first | (refine Ok.mk ?_; (try simp only [Lm, La, Lc, Ln, Lt, Ld, Lr, Li, true_or, or_true, true_and, and_true]); omega) | (simp <;> fail) | skip) [runM_nil, resL]; rfl), .refl _, by simp (disch := first | (refine Ok.mk ?_; (try simp only [Lm, La, Lc, Ln, Lt, Ld, Lr, Li, true_or, or_true, true_and, and_true]); omega) | (simp <;> fail) | skip) [resV], rfl⟩
end Go.Proofs.Ytibmolekndeofaa.E
/- Sums over bytes: what is sealed, and opened. -/
namespace Go.Proofs.Ytibmolekndeofaa.E
open Go Go.RowKit Go.Proofs
set_option linter.unusedVariables false
set_option linter.unusedSimpArgs false
/-- The register's next number. -/
def nxt (t : List Nat) (c x : Nat) : Nat := t.getD ((c % 256) ^^^ x) 0 ^^^ (c / 256)
theorem mor_cons (t : List Nat) (c x : Nat) (b : List Nat) : mor t c (x :: b) = mor t (nxt t c x) b := rfl
theorem mor_drop {t b : List Nat} {c i : Nat} (h : i < b.length) : mor t c (b.drop i) = mor t (nxt t c b[i]) (b.drop (i + 1)) := by
  rw [List.drop_eq_getElem_cons h, mor_cons]
set_option maxRecDepth 4000 in
theorem more_ok {t : List Nat} (ht : t.length = 256) (ht2 : ∀ x ∈ t, x < 4294967296) {ot o : Bool} {s : Nat} {xs : List PV} {b : List Nat} (hx : xs = b.map u8) (hs : s = 1 ∨ b.length = 0) (hw : ∀ x ∈ b, x < 256) (hl : b.length ≤ 100000000000000) (c : Nat) (hc : c < 4294967296) :
    PSpec Try.prog 69 [.lst 1 (t.map u32) ot, .int .u32 c, .lst s xs o] (.tup [.int .u32 (mor t c b : Nat), .int .i64 0]) := by
  subst hx
  intro H
  refine spec_of t69 (by simp [p69]) ?_
  simp only [p69]
  first | refine pwp_sr ?_ | refine pwp_regionM ?_
  intro K hK
  simp (disch := first | (refine Ok.mk ?_; (try simp only [Lm, La, Lc, Ln, Lt, Ld, Lr, Li, true_or, or_true, true_and, and_true]); omega) | (simp <;> fail) | skip) [runM_nil]
  refine hK _ _ ?_
  clear hK K
  first | refine pwp_rif ?_ | refine pwp_rifE ?_
  intro K hK
  simp (disch := first | (refine Ok.mk ?_; (try simp only [Lm, La, Lc, Ln, Lt, Ld, Lr, Li, true_or, or_true, true_and, and_true]); omega) | (simp <;> fail) | skip) [runM_nil, ht]
  refine hK _ _ ?_
  clear hK K
  refine ifF (by simp (disch := first | (refine Ok.mk ?_; (try simp only [Lm, La, Lc, Ln, Lt, Ld, Lr, Li, true_or, or_true, true_and, and_true]); omega) | (simp <;> fail) | skip) [runM_nil]) (pwp_skip ?_)
  refine pwp_seq (pwp_seq ?_)
  first | refine pwp_sr ?_ | refine pwp_regionM ?_
  intro K hK
  simp (disch := first | (refine Ok.mk ?_; (try simp only [Lm, La, Lc, Ln, Lt, Ld, Lr, Li, true_or, or_true, true_and, and_true]); omega) | (simp <;> fail) | skip) [runM_nil]
  refine hK _ _ ?_
  clear hK K
  refine pwp_block ?_
  refine pwp_loopK [0, 1, 13, 14, 15] (fun m st H' => ∃ i d : Nat, i ≤ b.length ∧ m = b.length - i ∧ d < 4294967296 ∧ mor t d (b.drop i) = mor t c b ∧ H' = H ∧ st = MS 31 [(0, .lst 1 (t.map u32) ot), (1, .int .u32 d), (13, .lst s (b.map u8) false), (14, .int .i64 b.length), (15, .int .i64 i)]) (n := b.length)
    ⟨_, .refl _, 0, c, Nat.zero_le _, rfl, hc, rfl, rfl, by simp [keepL_MS, keepA, getS]⟩ ?_
  rintro m st H' ⟨i, d, hi, rfl, hd, hm, rfl, rfl⟩
  by_cases hlt : i < b.length
  · obtain rfl : s = 1 := by omega
    have hxb : b[i] < 256 := hw _ (List.getElem_mem hlt)
    have hgx : b[i]? = some b[i] := List.getElem?_eq_getElem hlt
    rw [mor_drop hlt] at hm
    generalize b[i] = x at *
    have hk : (d % 256) ^^^ x < 256 := xor_lt8 (by omega) hxb
    have hgt : t[(d % 256) ^^^ x]? = some (t.getD ((d % 256) ^^^ x) 0) := by rw [List.getD_eq_getElem?_getD, List.getElem?_eq_getElem (by omega)]; rfl
    have htl : t.getD ((d % 256) ^^^ x) 0 < 4294967296 := getD_lt ht2 (by omega)
    have hnx : nxt t d x = t.getD ((d % 256) ^^^ x) 0 ^^^ (d / 256) := rfl
    have e1 : ((d : Int) % 256).toNat = d % 256 := by omega
    have e2 : ((d : Int) / 256).toNat = d / 256 := by omega
    have hnl : nxt t d x < 4294967296 := nxt_lt ht2 d x hd
    generalize t.getD ((d % 256) ^^^ x) 0 = y at *
    first | refine pwp_sr ?_ | refine pwp_regionM ?_
    intro K hK
    simp (disch := first | (refine Ok.mk ?_; (try simp only [Lm, La, Lc, Ln, Lt, Ld, Lr, Li, true_or, or_true, true_and, and_true]); omega) | (simp <;> fail) | skip) [runM_nil]
    refine hK _ _ ?_
    clear hK K
    refine pwp_seq (pwp_cT (by simp) (pwp_skip ?_))
    refine pwp_seq (pwp_block ?_)
    first | refine pwp_sr ?_ | refine pwp_regionM ?_
    intro K hK
    simp (disch := first | (refine Ok.mk ?_; (try simp only [Lm, La, Lc, Ln, Lt, Ld, Lr, Li, true_or, or_true, true_and, and_true]); omega) | (simp <;> fail) | skip) [runM_nil, hgx]
    refine hK _ _ ?_
    clear hK K
    have hkt : (d % 256) ^^^ x < t.length := by omega
    first | refine pwp_sr ?_ | refine pwp_regionM ?_
    intro K hK
    simp (disch := first | (refine Ok.mk ?_; (try simp only [Lm, La, Lc, Ln, Lt, Ld, Lr, Li, true_or, or_true, true_and, and_true]); omega) | (simp <;> fail) | skip) [runM_nil, wm_u8, e1, e2, hgt, ht, hk]
    refine hK _ _ ?_
    clear hK K
    first | refine pwp_sr ?_ | refine pwp_regionM ?_
    intro K hK
    simp (disch := first | (refine Ok.mk ?_; (try simp only [Lm, La, Lc, Ln, Lt, Ld, Lr, Li, true_or, or_true, true_and, and_true]); omega) | (simp <;> fail) | skip) [runM_nil]
    refine hK _ _ ?_
    clear hK K
    exact ⟨b.length - (i + 1), by omega, _, .refl _, i + 1, nxt t d x, by omega, rfl, hnl, hm, rfl, by simp [keepL_MS, keepA, getS, hnx]⟩
  · obtain rfl : i = b.length := by omega
    rw [List.drop_length] at hm
    first | refine pwp_sr ?_ | refine pwp_regionM ?_
    intro K hK
    simp (disch := first | (refine Ok.mk ?_; (try simp only [Lm, La, Lc, Ln, Lt, Ld, Lr, Li, true_or, or_true, true_and, and_true]); omega) | (simp <;> fail) | skip) [runM_nil]
    refine hK _ _ ?_
    clear hK K
    refine pwp_seq (pwp_cF (by simp) (pwp_exit ?_))
    first | refine pwp_sr ?_ | refine pwp_regionM ?_
    intro K hK
    simp (disch := first | (refine Ok.mk ?_; (try simp only [Lm, La, Lc, Ln, Lt, Ld, Lr, Li, true_or, or_true, true_and, and_true]); omega) | (simp <;> fail) | skip) [runM_nil]
    refine hK _ _ ?_
    clear hK K
    rw [← hm]
    refine pwp_ret ⟨.inr rfl, _, _, (by simp (disch := first | (refine Ok.mk ?_; (try simp only [Lm, La, Lc, Ln, Lt, Ld, Lr, Li, true_or, or_true, true_and, and_true]); omega) | (simp <;> fail) | skip) [runM_nil, resL, mor]; rfl), .refl _, by simp (disch := first | (refine Ok.mk ?_; (try simp only [Lm, La, Lc, Ln, Lt, Ld, Lr, Li, true_or, or_true, true_and, and_true]); omega) | (simp <;> fail) | skip) [resV, mor], rfl⟩
end Go.Proofs.Ytibmolekndeofaa.E
/- Sums over bytes: sealed, and opened; the document's. -/
namespace Go.Proofs.Ytibmolekndeofaa.E
open Go Go.RowKit Go.Proofs
set_option linter.unusedVariables false
set_option linter.unusedSimpArgs false
theorem sum_ok {t : List Nat} (ht : t.length = 256) (ht2 : ∀ x ∈ t, x < 4294967296) {ot o : Bool} {s : Nat} {xs : List PV} {b : List Nat} (hx : xs = b.map u8) (hs : s = 1 ∨ b.length = 0) (hw : ∀ x ∈ b, x < 256) (hl : b.length ≤ 100000000000000) :
    PSpec Try.prog 56 [.lst 1 (t.map u32) ot, .lst s xs o] (.tup [.int .u32 (csum t b : Nat), .int .i64 0]) := by
  intro H
  have c := more_ok ht ht2 (ot := false) (o := false) hx hs hw hl 4294967295 (by omega)
  have hml := mor_lt ht2 b 4294967295 (by omega)
  have hcs : csum t b = mor t 4294967295 b ^^^ 4294967295 := rfl
  have hcc := Nat.xor_comm (mor t 4294967295 b) 4294967295
  generalize mor t 4294967295 b = m at *
  refine spec_of t56 (by simp [p56]) ?_
  simp only [p56]
  first | refine pwp_sr ?_ | refine pwp_regionM ?_
  intro K hK
  simp (disch := first | (refine Ok.mk ?_; (try simp only [Lm, La, Lc, Ln, Lt, Ld, Lr, Li, true_or, or_true, true_and, and_true]); omega) | (simp <;> fail) | skip) [runM_nil]
  refine hK _ _ ?_
  clear hK K
  first | refine pwp_sr ?_ | refine pwp_regionM ?_
  intro K hK
  simp (disch := first | (refine Ok.mk ?_; (try simp only [Lm, La, Lc, Ln, Lt, Ld, Lr, Li, true_or, or_true, true_and, and_true]); omega) | (simp <;> fail) | skip) [runM_nil]
  refine useP (c) ?_
  simp (disch := first | (refine Ok.mk ?_; (try simp only [Lm, La, Lc, Ln, Lt, Ld, Lr, Li, true_or, or_true, true_and, and_true]); omega) | (simp <;> fail) | skip) [runM_nil]
  refine hK _ _ ?_
  clear hK K
  first | refine pwp_rif ?_ | refine pwp_rifE ?_
  intro K hK
  simp (disch := first | (refine Ok.mk ?_; (try simp only [Lm, La, Lc, Ln, Lt, Ld, Lr, Li, true_or, or_true, true_and, and_true]); omega) | (simp <;> fail) | skip) [runM_nil]
  refine hK _ _ ?_
  clear hK K
  refine ifF (by simp (disch := first | (refine Ok.mk ?_; (try simp only [Lm, La, Lc, Ln, Lt, Ld, Lr, Li, true_or, or_true, true_and, and_true]); omega) | (simp <;> fail) | skip) [runM_nil]) (pwp_skip ?_)
  have hmax : IntKind.u32.max = 4294967295 := rfl
  first | refine pwp_sr ?_ | refine pwp_regionM ?_
  intro K hK
  simp (disch := first | (refine Ok.mk ?_; (try simp only [Lm, La, Lc, Ln, Lt, Ld, Lr, Li, true_or, or_true, true_and, and_true]); omega) | (simp <;> fail) | skip) [runM_nil, hmax, IntKind.signed]
  refine hK _ _ ?_
  clear hK K
  rw [hcs, hcc]
  refine pwp_ret ⟨.inr rfl, _, _, (by simp (disch := first | (refine Ok.mk ?_; (try simp only [Lm, La, Lc, Ln, Lt, Ld, Lr, Li, true_or, or_true, true_and, and_true]); omega) | (simp <;> fail) | skip) [runM_nil, resL]; rfl), .refl _, by simp (disch := first | (refine Ok.mk ?_; (try simp only [Lm, La, Lc, Ln, Lt, Ld, Lr, Li, true_or, or_true, true_and, and_true]); omega) | (simp <;> fail) | skip) [resV], rfl⟩
theorem tail_ok (c : Nat) (hc : c < 4294967296) : PSpec Try.prog 58 [.int .u32 c] (bV (four c) true) := by
  intro H
  refine spec_of t58 (by simp [p58]) ?_
  simp only [p58]
  first | refine pwp_sr ?_ | refine pwp_regionM ?_
  intro K hK
  simp (disch := first | (refine Ok.mk ?_; (try simp only [Lm, La, Lc, Ln, Lt, Ld, Lr, Li, true_or, or_true, true_and, and_true]); omega) | (simp <;> fail) | skip) [runM_nil]
  refine hK _ _ ?_
  clear hK K
  have e : ((c : Int) / 16777216) % 256 = (c : Int) / 16777216 := by omega
  first | refine pwp_sr ?_ | refine pwp_regionM ?_
  intro K hK
  simp (disch := first | (refine Ok.mk ?_; (try simp only [Lm, La, Lc, Ln, Lt, Ld, Lr, Li, true_or, or_true, true_and, and_true]); omega) | (simp <;> fail) | skip) [runM_nil, wm_u8]
  refine hK _ _ ?_
  clear hK K
  refine pwp_ret ⟨.inr rfl, _, _, (by simp (disch := first | (refine Ok.mk ?_; (try simp only [Lm, La, Lc, Ln, Lt, Ld, Lr, Li, true_or, or_true, true_and, and_true]); omega) | (simp <;> fail) | skip) [runM_nil, resL, four, e]; rfl), .refl _, by simp (disch := first | (refine Ok.mk ?_; (try simp only [Lm, La, Lc, Ln, Lt, Ld, Lr, Li, true_or, or_true, true_and, and_true]); omega) | (simp <;> fail) | skip) [resV, four, e], rfl⟩
theorem equal_ok {s1 s2 : Nat} {xs ys : List PV} {o1 o2 : Bool} {a b : List Nat} (hx : xs = a.map u8) (hy : ys = b.map u8) (hs1 : s1 = 1 ∨ a.length = 0) (hs2 : s2 = 1 ∨ b.length = 0) (ha : ∀ x ∈ a, x < 256) (hb : ∀ x ∈ b, x < 256) :
    PSpec Try.prog 66 [.lst s1 xs o1, .lst s2 ys o2] (.bool (decide (a = b))) := by
  intro H
  have c1 := cvS_u8 (o := false) hx hs1 ha
  have c2 := cvS_u8 (o := false) hy hs2 hb
  refine spec_of t66 (by simp [p66]) ?_
  simp only [p66]
  first | refine pwp_sr ?_ | refine pwp_regionM ?_
  intro K hK
  simp (disch := first | (refine Ok.mk ?_; (try simp only [Lm, La, Lc, Ln, Lt, Ld, Lr, Li, true_or, or_true, true_and, and_true]); omega) | (simp <;> fail) | skip) [runM_nil]
  refine hK _ _ ?_
  clear hK K
  first | refine pwp_sr ?_ | refine pwp_regionM ?_
  intro K hK
  simp (disch := first | (refine Ok.mk ?_; (try simp only [Lm, La, Lc, Ln, Lt, Ld, Lr, Li, true_or, or_true, true_and, and_true]); omega) | (simp <;> fail) | skip) [runM_nil, c1, c2]
  refine hK _ _ ?_
  clear hK K
  refine pwp_ret ⟨.inr rfl, _, _, (by simp (disch := first | (refine Ok.mk ?_; (try simp only [Lm, La, Lc, Ln, Lt, Ld, Lr, Li, true_or, or_true, true_and, and_true]); omega) | (simp <;> fail) | skip) [runM_nil, resL]; rfl), .refl _, by simp (disch := first | (refine Ok.mk ?_; (try simp only [Lm, La, Lc, Ln, Lt, Ld, Lr, Li, true_or, or_true, true_and, and_true]); omega) | (simp <;> fail) | skip) [resV], rfl⟩
theorem seal_ok {t : List Nat} (ht : t.length = 256) (ht2 : ∀ x ∈ t, x < 4294967296) {ot o : Bool} {s : Nat} {xs : List PV} {b : List Nat} (hx : xs = b.map u8) (hs : s = 1 ∨ b.length = 0) (hw : ∀ x ∈ b, x < 256) (hl : b.length ≤ 90000000000000) :
    PSpec Try.prog 36 [.lst 1 (t.map u32) ot, .lst s xs o] (.tup [bV (sealed t b) true, .int .i64 0]) := by
  subst hx
  intro H
  have c := sum_ok ht ht2 (ot := false) (o := false) (xs := b.map u8) rfl hs hw (by omega)
  have hml := csum_lt ht2 b
  have c2 := tail_ok (csum t b) hml
  have c3 := concat_ok (es := [.lst s (b.map u8) false, .lst 1 ((four (csum t b)).map u8) false]) (o := false) [(s, b), (1, four (csum t b))] rfl (by
    intro p hp
    rcases List.mem_cons.1 hp with rfl | hp
    · exact hs
    · rcases List.mem_cons.1 hp with rfl | hp
      · exact .inl rfl
      · cases hp) (by simp) (by simp [four_length]; omega)
  have e : List.flatMap (fun x : Nat × List Nat => x.2) [(s, b), (1, four (csum t b))] = sealed t b := by simp [sealed]
  rw [e] at c3
  generalize sealed t b = z at *
  generalize four (csum t b) = f4 at *
  generalize csum t b = m at *
  refine spec_of t36 (by simp [p36]) ?_
  simp only [p36]
  first | refine pwp_sr ?_ | refine pwp_regionM ?_
  intro K hK
  simp (disch := first | (refine Ok.mk ?_; (try simp only [Lm, La, Lc, Ln, Lt, Ld, Lr, Li, true_or, or_true, true_and, and_true]); omega) | (simp <;> fail) | skip) [runM_nil]
  refine hK _ _ ?_
  clear hK K
  first | refine pwp_sr ?_ | refine pwp_regionM ?_
  intro K hK
  simp (disch := first | (refine Ok.mk ?_; (try simp only [Lm, La, Lc, Ln, Lt, Ld, Lr, Li, true_or, or_true, true_and, and_true]); omega) | (simp <;> fail) | skip) [runM_nil]
  refine useP (c) ?_
  simp (disch := first | (refine Ok.mk ?_; (try simp only [Lm, La, Lc, Ln, Lt, Ld, Lr, Li, true_or, or_true, true_and, and_true]); omega) | (simp <;> fail) | skip) [runM_nil]
  refine hK _ _ ?_
  clear hK K
  first | refine pwp_rif ?_ | refine pwp_rifE ?_
  intro K hK
  simp (disch := first | (refine Ok.mk ?_; (try simp only [Lm, La, Lc, Ln, Lt, Ld, Lr, Li, true_or, or_true, true_and, and_true]); omega) | (simp <;> fail) | skip) [runM_nil]
  refine hK _ _ ?_
  clear hK K
  refine ifF (by simp (disch := first | (refine Ok.mk ?_; (try simp only [Lm, La, Lc, Ln, Lt, Ld, Lr, Li, true_or, or_true, true_and, and_true]); omega) | (simp <;> fail) | skip) [runM_nil]) (pwp_skip ?_)
  first | refine pwp_sr ?_ | refine pwp_regionM ?_
  intro K hK
  simp (disch := first | (refine Ok.mk ?_; (try simp only [Lm, La, Lc, Ln, Lt, Ld, Lr, Li, true_or, or_true, true_and, and_true]); omega) | (simp <;> fail) | skip) [runM_nil]
  refine useP (c2) ?_
  simp (disch := first | (refine Ok.mk ?_; (try simp only [Lm, La, Lc, Ln, Lt, Ld, Lr, Li, true_or, or_true, true_and, and_true]); omega) | (simp <;> fail) | skip) [runM_nil]
  refine useP (c3) ?_
  simp (disch := first | (refine Ok.mk ?_; (try simp only [Lm, La, Lc, Ln, Lt, Ld, Lr, Li, true_or, or_true, true_and, and_true]); omega) | (simp <;> fail) | skip) [runM_nil]
  refine hK _ _ ?_
  clear hK K
  refine pwp_ret ⟨.inr rfl, _, _, (by simp (disch := first | (refine Ok.mk ?_; (try simp only [Lm, La, Lc, Ln, Lt, Ld, Lr, Li, true_or, or_true, true_and, and_true]); omega) | (simp <;> fail) | skip) [runM_nil, resL]; rfl), .refl _, by simp (disch := first | (refine Ok.mk ?_; (try simp only [Lm, La, Lc, Ln, Lt, Ld, Lr, Li, true_or, or_true, true_and, and_true]); omega) | (simp <;> fail) | skip) [resV], rfl⟩
theorem opened_cases (t s : List Nat) : (s.length < 4 ∧ opened t s = ([], 2)) ∨ (4 ≤ s.length ∧ four (csum t (s.take (s.length - 4))) = s.drop (s.length - 4) ∧ opened t s = (s.take (s.length - 4), 0)) ∨
    (4 ≤ s.length ∧ ¬ four (csum t (s.take (s.length - 4))) = s.drop (s.length - 4) ∧ opened t s = ([], 4)) := by
  unfold opened
  by_cases h : s.length < 4
  · rw [if_pos h]; exact .inl ⟨h, rfl⟩
  · rw [if_neg h]
    by_cases h2 : four (csum t (s.take (s.length - 4))) = s.drop (s.length - 4)
    · rw [if_pos h2]; exact .inr (.inl ⟨by omega, h2, rfl⟩)
    · rw [if_neg h2]; exact .inr (.inr ⟨by omega, h2, rfl⟩)
set_option maxRecDepth 4000 in
theorem open_ok {t : List Nat} (ht : t.length = 256) (ht2 : ∀ x ∈ t, x < 4294967296) {ot o : Bool} {s : Nat} {xs : List PV} {b : List Nat} (hx : xs = b.map u8) (hs : s = 1 ∨ b.length = 0) (hw : ∀ x ∈ b, x < 256) (hl : b.length ≤ 100000000000000) :
    PSpec Try.prog 52 [.lst 1 (t.map u32) ot, .lst s xs o] (.tup [bV (opened t b).1 true, .int .i64 ((opened t b).2 : Nat)]) := by
  subst hx
  intro H
  have hoc := opened_cases t b
  refine spec_ofU t52 (by simp [p52]) ?_
  simp only [p52]
  first | refine pwp_sr ?_ | refine pwp_regionM ?_
  intro K hK
  simp (disch := first | (refine Ok.mk ?_; (try simp only [Lm, La, Lc, Ln, Lt, Ld, Lr, Li, true_or, or_true, true_and, and_true]); omega) | (simp <;> fail) | skip) [runM_nil]
  refine hK _ _ ?_
  clear hK K
  first | refine pwp_sr ?_ | refine pwp_regionM ?_
  intro K hK
  simp (disch := first | (refine Ok.mk ?_; (try simp only [Lm, La, Lc, Ln, Lt, Ld, Lr, Li, true_or, or_true, true_and, and_true]); omega) | (simp <;> fail) | skip) [runM_nil]
  refine hK _ _ ?_
  clear hK K
  refine pwp_seq (pwp_block ?_)
  first | refine pwp_sr ?_ | refine pwp_regionM ?_
  intro K hK
  simp (disch := first | (refine Ok.mk ?_; (try simp only [Lm, La, Lc, Ln, Lt, Ld, Lr, Li, true_or, or_true, true_and, and_true]); omega) | (simp <;> fail) | skip) [runM_nil, ht]
  refine hK _ _ ?_
  clear hK K
  refine pwp_cF (by simp) ?_
  rcases hoc with ⟨h4, e⟩ | ⟨h4, h5, e⟩ | ⟨h4, h5, e⟩
  · first | refine pwp_sr ?_ | refine pwp_regionM ?_
    intro K hK
    simp (disch := first | (refine Ok.mk ?_; (try simp only [Lm, La, Lc, Ln, Lt, Ld, Lr, Li, true_or, or_true, true_and, and_true]); omega) | (simp <;> fail) | skip) [runM_nil]
    refine hK _ _ ?_
    clear hK K
    refine pwp_cT (by simp) ?_
    first | refine pwp_sr ?_ | refine pwp_regionM ?_
    intro K hK
    simp (disch := first | (refine Ok.mk ?_; (try simp only [Lm, La, Lc, Ln, Lt, Ld, Lr, Li, true_or, or_true, true_and, and_true]); omega) | (simp <;> fail) | skip) [runM_nil]
    refine hK _ _ ?_
    clear hK K
    rw [e]
    refine pwp_ret ⟨.inr rfl, _, _, _, (by simp (disch := first | (refine Ok.mk ?_; (try simp only [Lm, La, Lc, Ln, Lt, Ld, Lr, Li, true_or, or_true, true_and, and_true]); omega) | (simp <;> fail) | skip) [runM_nil, resL]; rfl), .refl _, (by simp (disch := first | (refine Ok.mk ?_; (try simp only [Lm, La, Lc, Ln, Lt, Ld, Lr, Li, true_or, or_true, true_and, and_true]); omega) | (simp <;> fail) | skip) [resV]), rfl, rfl⟩
  · rw [e]
    first | refine pwp_sr ?_ | refine pwp_regionM ?_
    intro K hK
    simp (disch := first | (refine Ok.mk ?_; (try simp only [Lm, La, Lc, Ln, Lt, Ld, Lr, Li, true_or, or_true, true_and, and_true]); omega) | (simp <;> fail) | skip) [runM_nil]
    refine hK _ _ ?_
    clear hK K
    refine pwp_cF (by simp) (pwp_skip ?_)
    have hml := csum_lt ht2 (b.take (b.length - 4))
    have e1 : ((b.length : Int) - 4).toNat = b.length - 4 := by omega
    have hsT : s = 1 := by omega
    subst hsT
    first | refine pwp_sr ?_ | refine pwp_regionM ?_
    intro K hK
    simp (disch := first | (refine Ok.mk ?_; (try simp only [Lm, La, Lc, Ln, Lt, Ld, Lr, Li, true_or, or_true, true_and, and_true]); omega) | (simp <;> fail) | skip) [runM_nil, e1]
    refine useP (sum_ok ht ht2 (b := b.take (b.length - 4)) (by simp) (.inl rfl) (fun x hx => hw x (List.mem_of_mem_take hx)) (by rw [Lt]; omega)) ?_
    simp (disch := first | (refine Ok.mk ?_; (try simp only [Lm, La, Lc, Ln, Lt, Ld, Lr, Li, true_or, or_true, true_and, and_true]); omega) | (simp <;> fail) | skip) [runM_nil, e1]
    refine hK _ _ ?_
    clear hK K
    first | refine pwp_dif hmix ?_ | refine pwp_difE hmix ?_
    intro K hK
    simp (disch := first | (refine Ok.mk ?_; (try simp only [Lm, La, Lc, Ln, Lt, Ld, Lr, Li, true_or, or_true, true_and, and_true]); omega) | (simp <;> fail) | skip) [runM_nil, e1]
    refine useD (tail_ok _ hml) ?_
    simp (disch := first | (refine Ok.mk ?_; (try simp only [Lm, La, Lc, Ln, Lt, Ld, Lr, Li, true_or, or_true, true_and, and_true]); omega) | (simp <;> fail) | skip) [runM_nil, e1]
    refine useD (equal_ok (a := four (csum t (b.take (b.length - 4)))) (b := b.drop (b.length - 4)) rfl (by simp) (.inl rfl) (.inl rfl) (four_lt _) (fun x hx => hw x (List.mem_of_mem_drop hx))) ?_
    simp (disch := first | (refine Ok.mk ?_; (try simp only [Lm, La, Lc, Ln, Lt, Ld, Lr, Li, true_or, or_true, true_and, and_true]); omega) | (simp <;> fail) | skip) [runM_nil, e1]
    refine hK _ _ ?_
    clear hK K
    refine ifF (by simp (disch := first | (refine Ok.mk ?_; (try simp only [Lm, La, Lc, Ln, Lt, Ld, Lr, Li, true_or, or_true, true_and, and_true]); omega) | (simp <;> fail) | skip) [runM_nil, h5]) (pwp_skip ?_)
    first | refine pwp_sr ?_ | refine pwp_regionM ?_
    intro K hK
    simp (disch := first | (refine Ok.mk ?_; (try simp only [Lm, La, Lc, Ln, Lt, Ld, Lr, Li, true_or, or_true, true_and, and_true]); omega) | (simp <;> fail) | skip) [runM_nil, e1]
    refine useP (clone_ok (l := b.take (b.length - 4)) (by simp) (.inl rfl) (by rw [Lt]; omega)) ?_
    simp (disch := first | (refine Ok.mk ?_; (try simp only [Lm, La, Lc, Ln, Lt, Ld, Lr, Li, true_or, or_true, true_and, and_true]); omega) | (simp <;> fail) | skip) [runM_nil, e1]
    refine hK _ _ ?_
    clear hK K
    refine pwp_ret ⟨.inr rfl, _, _, _, (by simp (disch := first | (refine Ok.mk ?_; (try simp only [Lm, La, Lc, Ln, Lt, Ld, Lr, Li, true_or, or_true, true_and, and_true]); omega) | (simp <;> fail) | skip) [runM_nil, resL]; rfl), .refl _, (by simp (disch := first | (refine Ok.mk ?_; (try simp only [Lm, La, Lc, Ln, Lt, Ld, Lr, Li, true_or, or_true, true_and, and_true]); omega) | (simp <;> fail) | skip) [resV]), rfl, rfl⟩
  · rw [e]
    first | refine pwp_sr ?_ | refine pwp_regionM ?_
    intro K hK
    simp (disch := first | (refine Ok.mk ?_; (try simp only [Lm, La, Lc, Ln, Lt, Ld, Lr, Li, true_or, or_true, true_and, and_true]); omega) | (simp <;> fail) | skip) [runM_nil]
    refine hK _ _ ?_
    clear hK K
    refine pwp_cF (by simp) (pwp_skip ?_)
    have hml := csum_lt ht2 (b.take (b.length - 4))
    have e1 : ((b.length : Int) - 4).toNat = b.length - 4 := by omega
    have hsT : s = 1 := by omega
    subst hsT
    first | refine pwp_sr ?_ | refine pwp_regionM ?_
    intro K hK
    simp (disch := first | (refine Ok.mk ?_; (try simp only [Lm, La, Lc, Ln, Lt, Ld, Lr, Li, true_or, or_true, true_and, and_true]); omega) | (simp <;> fail) | skip) [runM_nil, e1]
    refine useP (sum_ok ht ht2 (b := b.take (b.length - 4)) (by simp) (.inl rfl) (fun x hx => hw x (List.mem_of_mem_take hx)) (by rw [Lt]; omega)) ?_
    simp (disch := first | (refine Ok.mk ?_; (try simp only [Lm, La, Lc, Ln, Lt, Ld, Lr, Li, true_or, or_true, true_and, and_true]); omega) | (simp <;> fail) | skip) [runM_nil, e1]
    refine hK _ _ ?_
    clear hK K
    first | refine pwp_dif hmix ?_ | refine pwp_difE hmix ?_
    intro K hK
    simp (disch := first | (refine Ok.mk ?_; (try simp only [Lm, La, Lc, Ln, Lt, Ld, Lr, Li, true_or, or_true, true_and, and_true]); omega) | (simp <;> fail) | skip) [runM_nil, e1]
    refine useD (tail_ok _ hml) ?_
    simp (disch := first | (refine Ok.mk ?_; (try simp only [Lm, La, Lc, Ln, Lt, Ld, Lr, Li, true_or, or_true, true_and, and_true]); omega) | (simp <;> fail) | skip) [runM_nil, e1]
    refine useD (equal_ok (a := four (csum t (b.take (b.length - 4)))) (b := b.drop (b.length - 4)) rfl (by simp) (.inl rfl) (.inl rfl) (four_lt _) (fun x hx => hw x (List.mem_of_mem_drop hx))) ?_
    simp (disch := first | (refine Ok.mk ?_; (try simp only [Lm, La, Lc, Ln, Lt, Ld, Lr, Li, true_or, or_true, true_and, and_true]); omega) | (simp <;> fail) | skip) [runM_nil, e1]
    refine hK _ _ ?_
    clear hK K
    refine ifT (by simp (disch := first | (refine Ok.mk ?_; (try simp only [Lm, La, Lc, Ln, Lt, Ld, Lr, Li, true_or, or_true, true_and, and_true]); omega) | (simp <;> fail) | skip) [runM_nil, h5]) ?_
    first | refine pwp_sr ?_ | refine pwp_regionM ?_
    intro K hK
    simp (disch := first | (refine Ok.mk ?_; (try simp only [Lm, La, Lc, Ln, Lt, Ld, Lr, Li, true_or, or_true, true_and, and_true]); omega) | (simp <;> fail) | skip) [runM_nil]
    refine hK _ _ ?_
    clear hK K
    refine pwp_ret ⟨.inr rfl, _, _, _, (by simp (disch := first | (refine Ok.mk ?_; (try simp only [Lm, La, Lc, Ln, Lt, Ld, Lr, Li, true_or, or_true, true_and, and_true]); omega) | (simp <;> fail) | skip) [runM_nil, resL]; rfl), .refl _, (by simp (disch := first | (refine Ok.mk ?_; (try simp only [Lm, La, Lc, Ln, Lt, Ld, Lr, Li, true_or, or_true, true_and, and_true]); omega) | (simp <;> fail) | skip) [resV]), rfl, rfl⟩
end Go.Proofs.Ytibmolekndeofaa.E
/- Sums over bytes: the document's. -/
namespace Go.Proofs.Ytibmolekndeofaa.E
open Go Go.RowKit Go.Proofs
set_option linter.unusedVariables false
set_option linter.unusedSimpArgs false
theorem entry_ok (i : Nat) (hi : i < 4294967296) : PSpec Try.prog 71 [.int .i64 i] (.int .u32 (ent i : Nat)) := by
  intro H
  refine spec_of t71 (by simp [p71]) ?_
  simp only [p71]
  first | refine pwp_sr ?_ | refine pwp_regionM ?_
  intro K hK
  simp (disch := first | (refine Ok.mk ?_; (try simp only [Lm, La, Lc, Ln, Lt, Ld, Lr, Li, true_or, or_true, true_and, and_true]); omega) | (simp <;> fail) | skip) [runM_nil]
  refine hK _ _ ?_
  clear hK K
  first | refine pwp_sr ?_ | refine pwp_regionM ?_
  intro K hK
  simp (disch := first | (refine Ok.mk ?_; (try simp only [Lm, La, Lc, Ln, Lt, Ld, Lr, Li, true_or, or_true, true_and, and_true]); omega) | (simp <;> fail) | skip) [runM_nil]
  refine hK _ _ ?_
  clear hK K
  refine pwp_seq ?_
  first | refine pwp_sr ?_ | refine pwp_regionM ?_
  intro K hK
  simp (disch := first | (refine Ok.mk ?_; (try simp only [Lm, La, Lc, Ln, Lt, Ld, Lr, Li, true_or, or_true, true_and, and_true]); omega) | (simp <;> fail) | skip) [runM_nil]
  refine hK _ _ ?_
  clear hK K
  refine pwp_block ?_
  refine pwp_loopK [3, 4] (fun m st H' => ∃ j : Nat, j ≤ 8 ∧ m = 8 - j ∧ H' = H ∧ st = MS 21 [(3, .int .u32 (stps j i : Nat)), (4, .int .i64 j)]) (n := 8)
    ⟨_, .refl _, 0, by omega, rfl, rfl, by simp [keepL_MS, keepA, getS, stps]⟩ ?_
  rintro m st H' ⟨j, hj, rfl, rfl, rfl⟩
  have hsl := stps_lt hi j
  have hst : stps (j + 1) i = stp (stps j i) := rfl
  by_cases hj8 : j < 8
  · generalize stps j i = c at *
    have e : ((c : Int) / 2).toNat = c / 2 := by omega
    have hx : c / 2 ^^^ 3988292384 < 4294967296 := xor_lt32 (by omega) (by omega)
    first | refine pwp_rif ?_ | refine pwp_rifE ?_
    intro K hK
    simp (disch := first | (refine Ok.mk ?_; (try simp only [Lm, La, Lc, Ln, Lt, Ld, Lr, Li, true_or, or_true, true_and, and_true]); omega) | (simp <;> fail) | skip) [runM_nil]
    refine hK _ _ ?_
    clear hK K
    refine ifT (by simp (disch := first | (refine Ok.mk ?_; (try simp only [Lm, La, Lc, Ln, Lt, Ld, Lr, Li, true_or, or_true, true_and, and_true]); omega) | (simp <;> fail) | skip) [runM_nil]) (pwp_skip ?_)
    refine pwp_seq (pwp_block ?_)
    by_cases hc : c % 2 = 1
    · have hc' : (c : Int) % 2 = 1 := by omega
      first | refine pwp_sr ?_ | refine pwp_regionM ?_
      intro K hK
      simp (disch := first | (refine Ok.mk ?_; (try simp only [Lm, La, Lc, Ln, Lt, Ld, Lr, Li, true_or, or_true, true_and, and_true]); omega) | (simp <;> fail) | skip) [runM_nil]
      refine hK _ _ ?_
      clear hK K
      first | refine pwp_sr ?_ | refine pwp_regionM ?_
      intro K hK
      simp (disch := first | (refine Ok.mk ?_; (try simp only [Lm, La, Lc, Ln, Lt, Ld, Lr, Li, true_or, or_true, true_and, and_true]); omega) | (simp <;> fail) | skip) [runM_nil]
      refine hK _ _ ?_
      clear hK K
      first | refine pwp_rif ?_ | refine pwp_rifE ?_
      intro K hK
      simp (disch := first | (refine Ok.mk ?_; (try simp only [Lm, La, Lc, Ln, Lt, Ld, Lr, Li, true_or, or_true, true_and, and_true]); omega) | (simp <;> fail) | skip) [runM_nil]
      refine hK _ _ ?_
      clear hK K
      refine ifT (by simp (disch := first | (refine Ok.mk ?_; (try simp only [Lm, La, Lc, Ln, Lt, Ld, Lr, Li, true_or, or_true, true_and, and_true]); omega) | (simp <;> fail) | skip) [runM_nil]) ?_
      first | refine pwp_sr ?_ | refine pwp_regionM ?_
      intro K hK
      simp (disch := first | (refine Ok.mk ?_; (try simp only [Lm, La, Lc, Ln, Lt, Ld, Lr, Li, true_or, or_true, true_and, and_true]); omega) | (simp <;> fail) | skip) [runM_nil, e]
      refine hK _ _ ?_
      clear hK K
      first | refine pwp_sr ?_ | refine pwp_regionM ?_
      intro K hK
      simp (disch := first | (refine Ok.mk ?_; (try simp only [Lm, La, Lc, Ln, Lt, Ld, Lr, Li, true_or, or_true, true_and, and_true]); omega) | (simp <;> fail) | skip) [runM_nil]
      refine hK _ _ ?_
      clear hK K
      exact ⟨8 - (j + 1), by omega, _, .refl _, j + 1, by omega, rfl, rfl, by simp [keepL_MS, keepA, getS, hst, stp, hc]⟩
    · have hc' : ¬ (c : Int) % 2 = 1 := by omega
      first | refine pwp_sr ?_ | refine pwp_regionM ?_
      intro K hK
      simp (disch := first | (refine Ok.mk ?_; (try simp only [Lm, La, Lc, Ln, Lt, Ld, Lr, Li, true_or, or_true, true_and, and_true]); omega) | (simp <;> fail) | skip) [runM_nil]
      refine hK _ _ ?_
      clear hK K
      first | refine pwp_sr ?_ | refine pwp_regionM ?_
      intro K hK
      simp (disch := first | (refine Ok.mk ?_; (try simp only [Lm, La, Lc, Ln, Lt, Ld, Lr, Li, true_or, or_true, true_and, and_true]); omega) | (simp <;> fail) | skip) [runM_nil]
      refine hK _ _ ?_
      clear hK K
      first | refine pwp_rif ?_ | refine pwp_rifE ?_
      intro K hK
      simp (disch := first | (refine Ok.mk ?_; (try simp only [Lm, La, Lc, Ln, Lt, Ld, Lr, Li, true_or, or_true, true_and, and_true]); omega) | (simp <;> fail) | skip) [runM_nil]
      refine hK _ _ ?_
      clear hK K
      refine ifF (by simp (disch := first | (refine Ok.mk ?_; (try simp only [Lm, La, Lc, Ln, Lt, Ld, Lr, Li, true_or, or_true, true_and, and_true]); omega) | (simp <;> fail) | skip) [runM_nil]) (pwp_skip ?_)
      first | refine pwp_sr ?_ | refine pwp_regionM ?_
      intro K hK
      simp (disch := first | (refine Ok.mk ?_; (try simp only [Lm, La, Lc, Ln, Lt, Ld, Lr, Li, true_or, or_true, true_and, and_true]); omega) | (simp <;> fail) | skip) [runM_nil]
      refine hK _ _ ?_
      clear hK K
      exact ⟨8 - (j + 1), by omega, _, .refl _, j + 1, by omega, rfl, rfl, by simp [keepL_MS, keepA, getS, hst, stp, hc]⟩
  · obtain rfl : j = 8 := by omega
    have he : stps 8 i = ent i := rfl
    first | refine pwp_rif ?_ | refine pwp_rifE ?_
    intro K hK
    simp (disch := first | (refine Ok.mk ?_; (try simp only [Lm, La, Lc, Ln, Lt, Ld, Lr, Li, true_or, or_true, true_and, and_true]); omega) | (simp <;> fail) | skip) [runM_nil]
    refine hK _ _ ?_
    clear hK K
    refine ifF (by simp (disch := first | (refine Ok.mk ?_; (try simp only [Lm, La, Lc, Ln, Lt, Ld, Lr, Li, true_or, or_true, true_and, and_true]); omega) | (simp <;> fail) | skip) [runM_nil]) ?_
    refine pwp_exit ?_
    first | refine pwp_sr ?_ | refine pwp_regionM ?_
    intro K hK
    simp (disch := first | (refine Ok.mk ?_; (try simp only [Lm, La, Lc, Ln, Lt, Ld, Lr, Li, true_or, or_true, true_and, and_true]); omega) | (simp <;> fail) | skip) [runM_nil]
    refine hK _ _ ?_
    clear hK K
    rw [he]
    refine pwp_ret ⟨.inr rfl, _, _, (by simp (disch := first | (refine Ok.mk ?_; (try simp only [Lm, La, Lc, Ln, Lt, Ld, Lr, Li, true_or, or_true, true_and, and_true]); omega) | (simp <;> fail) | skip) [runM_nil, resL]; rfl), .refl _, by simp (disch := first | (refine Ok.mk ?_; (try simp only [Lm, La, Lc, Ln, Lt, Ld, Lr, Li, true_or, or_true, true_and, and_true]); omega) | (simp <;> fail) | skip) [resV], rfl⟩
set_option maxRecDepth 4000 in
theorem plainSum_ok {o : Bool} {s : Nat} {xs : List PV} {b : List Nat} (hx : xs = b.map u8) (hs : s = 1 ∨ b.length = 0) (hw : ∀ x ∈ b, x < 256) (hl : b.length ≤ 100000000000000) :
    PSpec Try.prog 61 [.lst s xs o] (.int .u32 (csum tbl b : Nat)) := by
  subst hx
  intro H
  refine spec_of t61 (by simp [p61]) ?_
  simp only [p61]
  first | refine pwp_sr ?_ | refine pwp_regionM ?_
  intro K hK
  simp (disch := first | (refine Ok.mk ?_; (try simp only [Lm, La, Lc, Ln, Lt, Ld, Lr, Li, true_or, or_true, true_and, and_true]); omega) | (simp <;> fail) | skip) [runM_nil]
  refine hK _ _ ?_
  clear hK K
  first | refine pwp_sr ?_ | refine pwp_regionM ?_
  intro K hK
  simp (disch := first | (refine Ok.mk ?_; (try simp only [Lm, La, Lc, Ln, Lt, Ld, Lr, Li, true_or, or_true, true_and, and_true]); omega) | (simp <;> fail) | skip) [runM_nil]
  refine hK _ _ ?_
  clear hK K
  refine pwp_seq ?_
  first | refine pwp_sr ?_ | refine pwp_regionM ?_
  intro K hK
  simp (disch := first | (refine Ok.mk ?_; (try simp only [Lm, La, Lc, Ln, Lt, Ld, Lr, Li, true_or, or_true, true_and, and_true]); omega) | (simp <;> fail) | skip) [runM_nil]
  refine hK _ _ ?_
  clear hK K
  refine pwp_block ?_
  refine pwp_loopK [0, 3, 4] (fun m st H' => ∃ i d : Nat, i ≤ b.length ∧ m = b.length - i ∧ d < 4294967296 ∧ mor tbl d (b.drop i) = mor tbl 4294967295 b ∧ H' = H ∧ st = MS 26 [(0, .lst s (b.map u8) o), (3, .int .u32 d), (4, .int .i64 i)]) (n := b.length)
    ⟨_, .refl _, 0, 4294967295, Nat.zero_le _, rfl, by omega, rfl, rfl, by simp [keepL_MS, keepA, getS]⟩ ?_
  rintro m st H' ⟨i, d, hi, rfl, hd, hm, rfl, rfl⟩
  by_cases hlt : i < b.length
  · obtain rfl : s = 1 := by omega
    have hxb : b[i] < 256 := hw _ (List.getElem_mem hlt)
    have hgx : b[i]? = some b[i] := List.getElem?_eq_getElem hlt
    rw [mor_drop hlt] at hm
    generalize b[i] = x at *
    have hk : (d % 256) ^^^ x < 256 := xor_lt8 (by omega) hxb
    have hdx : d ^^^ x < 4294967296 := xor_lt32 hd (by omega)
    have hxm : (d ^^^ x) % 256 = (d % 256) ^^^ x := xor_mod256 hxb
    have hxm' : ((d ^^^ x : Nat) : Int) % 256 = ((d % 256) ^^^ x : Nat) := by omega
    have hta : tbl.getD ((d % 256) ^^^ x) 0 = ent ((d % 256) ^^^ x) := tbl_at hk
    have htl : tbl.getD ((d % 256) ^^^ x) 0 < 4294967296 := getD_lt tbl_lt (by omega)
    have hnx : nxt tbl d x = tbl.getD ((d % 256) ^^^ x) 0 ^^^ (d / 256) := rfl
    have hnl : nxt tbl d x < 4294967296 := nxt_lt tbl_lt d x hd
    rw [hta] at htl hnx
    have ce := entry_ok ((d % 256) ^^^ x) (by omega)
    have e2 : ((d : Int) / 256).toNat = d / 256 := by omega
    generalize ent ((d % 256) ^^^ x) = y at *
    first | refine pwp_rif ?_ | refine pwp_rifE ?_
    intro K hK
    simp (disch := first | (refine Ok.mk ?_; (try simp only [Lm, La, Lc, Ln, Lt, Ld, Lr, Li, true_or, or_true, true_and, and_true]); omega) | (simp <;> fail) | skip) [runM_nil]
    refine hK _ _ ?_
    clear hK K
    refine ifT (by simp (disch := first | (refine Ok.mk ?_; (try simp only [Lm, La, Lc, Ln, Lt, Ld, Lr, Li, true_or, or_true, true_and, and_true]); omega) | (simp <;> fail) | skip) [runM_nil]) (pwp_skip ?_)
    refine pwp_seq (pwp_block ?_)
    first | refine pwp_sr ?_ | refine pwp_regionM ?_
    intro K hK
    simp (disch := first | (refine Ok.mk ?_; (try simp only [Lm, La, Lc, Ln, Lt, Ld, Lr, Li, true_or, or_true, true_and, and_true]); omega) | (simp <;> fail) | skip) [runM_nil, hgx, hxm', e2]
    refine useP (ce) ?_
    simp (disch := first | (refine Ok.mk ?_; (try simp only [Lm, La, Lc, Ln, Lt, Ld, Lr, Li, true_or, or_true, true_and, and_true]); omega) | (simp <;> fail) | skip) [runM_nil, hgx, hxm', e2]
    refine hK _ _ ?_
    clear hK K
    first | refine pwp_sr ?_ | refine pwp_regionM ?_
    intro K hK
    simp (disch := first | (refine Ok.mk ?_; (try simp only [Lm, La, Lc, Ln, Lt, Ld, Lr, Li, true_or, or_true, true_and, and_true]); omega) | (simp <;> fail) | skip) [runM_nil]
    refine hK _ _ ?_
    clear hK K
    exact ⟨b.length - (i + 1), by omega, _, .refl _, i + 1, nxt tbl d x, by omega, rfl, hnl, hm, rfl, by simp [keepL_MS, keepA, getS, hnx]⟩
  · obtain rfl : i = b.length := by omega
    rw [List.drop_length] at hm
    first | refine pwp_rif ?_ | refine pwp_rifE ?_
    intro K hK
    simp (disch := first | (refine Ok.mk ?_; (try simp only [Lm, La, Lc, Ln, Lt, Ld, Lr, Li, true_or, or_true, true_and, and_true]); omega) | (simp <;> fail) | skip) [runM_nil]
    refine hK _ _ ?_
    clear hK K
    refine ifF (by simp (disch := first | (refine Ok.mk ?_; (try simp only [Lm, La, Lc, Ln, Lt, Ld, Lr, Li, true_or, or_true, true_and, and_true]); omega) | (simp <;> fail) | skip) [runM_nil]) ?_
    refine pwp_exit ?_
    first | refine pwp_sr ?_ | refine pwp_regionM ?_
    intro K hK
    simp (disch := first | (refine Ok.mk ?_; (try simp only [Lm, La, Lc, Ln, Lt, Ld, Lr, Li, true_or, or_true, true_and, and_true]); omega) | (simp <;> fail) | skip) [runM_nil]
    refine hK _ _ ?_
    clear hK K
    have hcs : csum tbl b = d ^^^ 4294967295 := by rw [csum, ← hm]; rfl
    rw [hcs]
    refine pwp_ret ⟨.inr rfl, _, _, (by simp (disch := first | (refine Ok.mk ?_; (try simp only [Lm, La, Lc, Ln, Lt, Ld, Lr, Li, true_or, or_true, true_and, and_true]); omega) | (simp <;> fail) | skip) [runM_nil, resL]; rfl), .refl _, by simp (disch := first | (refine Ok.mk ?_; (try simp only [Lm, La, Lc, Ln, Lt, Ld, Lr, Li, true_or, or_true, true_and, and_true]); omega) | (simp <;> fail) | skip) [resV], rfl⟩
theorem four_ok (c : Nat) (hc : c < 4294967296) : PSpec Try.prog 60 [.int .u32 c] (bV (four c) true) := by
  intro H
  refine spec_of t60 (by simp [p60]) ?_
  simp only [p60]
  first | refine pwp_sr ?_ | refine pwp_regionM ?_
  intro K hK
  simp (disch := first | (refine Ok.mk ?_; (try simp only [Lm, La, Lc, Ln, Lt, Ld, Lr, Li, true_or, or_true, true_and, and_true]); omega) | (simp <;> fail) | skip) [runM_nil]
  refine hK _ _ ?_
  clear hK K
  have e : ((c : Int) / 16777216) % 256 = (c : Int) / 16777216 := by omega
  first | refine pwp_sr ?_ | refine pwp_regionM ?_
  intro K hK
  simp (disch := first | (refine Ok.mk ?_; (try simp only [Lm, La, Lc, Ln, Lt, Ld, Lr, Li, true_or, or_true, true_and, and_true]); omega) | (simp <;> fail) | skip) [runM_nil, wm_u8]
  refine hK _ _ ?_
  clear hK K
  refine pwp_ret ⟨.inr rfl, _, _, (by simp (disch := first | (refine Ok.mk ?_; (try simp only [Lm, La, Lc, Ln, Lt, Ld, Lr, Li, true_or, or_true, true_and, and_true]); omega) | (simp <;> fail) | skip) [runM_nil, resL, four, e]; rfl), .refl _, by simp (disch := first | (refine Ok.mk ?_; (try simp only [Lm, La, Lc, Ln, Lt, Ld, Lr, Li, true_or, or_true, true_and, and_true]); omega) | (simp <;> fail) | skip) [resV, four, e], rfl⟩
theorem sealed_ok {o : Bool} {s : Nat} {xs : List PV} {b : List Nat} (hx : xs = b.map u8) (hs : s = 1 ∨ b.length = 0) (hw : ∀ x ∈ b, x < 256) (hl : b.length ≤ 90000000000000) :
    PSpec Try.prog 40 [.lst s xs o] (bV (sealed tbl b) true) := by
  subst hx
  intro H
  have hml := csum_lt tbl_lt b
  refine spec_of t40 (by simp [p40]) ?_
  simp only [p40]
  first | refine pwp_sr ?_ | refine pwp_regionM ?_
  intro K hK
  simp (disch := first | (refine Ok.mk ?_; (try simp only [Lm, La, Lc, Ln, Lt, Ld, Lr, Li, true_or, or_true, true_and, and_true]); omega) | (simp <;> fail) | skip) [runM_nil]
  refine hK _ _ ?_
  clear hK K
  first | refine pwp_sr ?_ | refine pwp_regionM ?_
  intro K hK
  simp (disch := first | (refine Ok.mk ?_; (try simp only [Lm, La, Lc, Ln, Lt, Ld, Lr, Li, true_or, or_true, true_and, and_true]); omega) | (simp <;> fail) | skip) [runM_nil]
  refine hK _ _ ?_
  clear hK K
  have h4 := four_length (csum tbl b)
  first | refine pwp_sr ?_ | refine pwp_regionM ?_
  intro K hK
  simp (disch := first | (refine Ok.mk ?_; (try simp only [Lm, La, Lc, Ln, Lt, Ld, Lr, Li, true_or, or_true, true_and, and_true]); omega) | (simp <;> fail) | skip) [runM_nil]
  refine useP (plainSum_ok (o := false) rfl hs hw (by omega)) ?_
  simp (disch := first | (refine Ok.mk ?_; (try simp only [Lm, La, Lc, Ln, Lt, Ld, Lr, Li, true_or, or_true, true_and, and_true]); omega) | (simp <;> fail) | skip) [runM_nil]
  refine useP (four_ok _ hml) ?_
  simp (disch := first | (refine Ok.mk ?_; (try simp only [Lm, La, Lc, Ln, Lt, Ld, Lr, Li, true_or, or_true, true_and, and_true]); omega) | (simp <;> fail) | skip) [runM_nil]
  refine hK _ _ ?_
  clear hK K
  refine pwp_ret ⟨.inr rfl, _, _, (by simp (disch := first | (refine Ok.mk ?_; (try simp only [Lm, La, Lc, Ln, Lt, Ld, Lr, Li, true_or, or_true, true_and, and_true]); omega) | (simp <;> fail) | skip) [runM_nil, resL, sealed]; rfl), .refl _, by simp (disch := first | (refine Ok.mk ?_; (try simp only [Lm, La, Lc, Ln, Lt, Ld, Lr, Li, true_or, or_true, true_and, and_true]); omega) | (simp <;> fail) | skip) [resV, sealed], rfl⟩
set_option maxRecDepth 4000 in
theorem rOpened_ok {o : Bool} {s : Nat} {xs : List PV} {b : List Nat} (hx : xs = b.map u8) (hs : s = 1 ∨ b.length = 0) (hw : ∀ x ∈ b, x < 256) (hl : b.length ≤ 100000000000000) :
    PSpec Try.prog 63 [.lst s xs o] (.tup [bV (opened tbl b).1 true, .int .i64 ((opened tbl b).2 : Nat)]) := by
  subst hx
  intro H
  have hoc := opened_cases tbl b
  refine spec_ofU t63 (by simp [p63]) ?_
  simp only [p63]
  first | refine pwp_sr ?_ | refine pwp_regionM ?_
  intro K hK
  simp (disch := first | (refine Ok.mk ?_; (try simp only [Lm, La, Lc, Ln, Lt, Ld, Lr, Li, true_or, or_true, true_and, and_true]); omega) | (simp <;> fail) | skip) [runM_nil]
  refine hK _ _ ?_
  clear hK K
  first | refine pwp_sr ?_ | refine pwp_regionM ?_
  intro K hK
  simp (disch := first | (refine Ok.mk ?_; (try simp only [Lm, La, Lc, Ln, Lt, Ld, Lr, Li, true_or, or_true, true_and, and_true]); omega) | (simp <;> fail) | skip) [runM_nil]
  refine hK _ _ ?_
  clear hK K
  rcases hoc with ⟨h4, e⟩ | ⟨h4, h5, e⟩ | ⟨h4, h5, e⟩
  · first | refine pwp_rif ?_ | refine pwp_rifE ?_
    intro K hK
    simp (disch := first | (refine Ok.mk ?_; (try simp only [Lm, La, Lc, Ln, Lt, Ld, Lr, Li, true_or, or_true, true_and, and_true]); omega) | (simp <;> fail) | skip) [runM_nil]
    refine hK _ _ ?_
    clear hK K
    refine ifT (by simp (disch := first | (refine Ok.mk ?_; (try simp only [Lm, La, Lc, Ln, Lt, Ld, Lr, Li, true_or, or_true, true_and, and_true]); omega) | (simp <;> fail) | skip) [runM_nil]) ?_
    first | refine pwp_sr ?_ | refine pwp_regionM ?_
    intro K hK
    simp (disch := first | (refine Ok.mk ?_; (try simp only [Lm, La, Lc, Ln, Lt, Ld, Lr, Li, true_or, or_true, true_and, and_true]); omega) | (simp <;> fail) | skip) [runM_nil]
    refine hK _ _ ?_
    clear hK K
    rw [e]
    refine pwp_ret ⟨.inr rfl, _, _, _, (by simp (disch := first | (refine Ok.mk ?_; (try simp only [Lm, La, Lc, Ln, Lt, Ld, Lr, Li, true_or, or_true, true_and, and_true]); omega) | (simp <;> fail) | skip) [runM_nil, resL]; rfl), .refl _, (by simp (disch := first | (refine Ok.mk ?_; (try simp only [Lm, La, Lc, Ln, Lt, Ld, Lr, Li, true_or, or_true, true_and, and_true]); omega) | (simp <;> fail) | skip) [resV]), rfl, rfl⟩
  all_goals
    have hml := csum_lt tbl_lt (b.take (b.length - 4))
    have e1 : ((b.length : Int) - 4).toNat = b.length - 4 := by omega
    have hsT : s = 1 := by omega
    subst hsT
    have v1 := cvS_u8 (s := 1) (o := false) (l := four (csum tbl (b.take (b.length - 4)))) rfl (.inl rfl) (four_lt _)
    have v2 := cvS_u8 (s := 1) (o := false) (xs := (b.map u8).drop (b.length - 4)) (l := b.drop (b.length - 4)) (by simp) (.inl rfl) (fun x hx => hw x (List.mem_of_mem_drop hx))
    rw [e]
    first | refine pwp_rif ?_ | refine pwp_rifE ?_
    intro K hK
    simp (disch := first | (refine Ok.mk ?_; (try simp only [Lm, La, Lc, Ln, Lt, Ld, Lr, Li, true_or, or_true, true_and, and_true]); omega) | (simp <;> fail) | skip) [runM_nil]
    refine hK _ _ ?_
    clear hK K
    refine ifF (by simp (disch := first | (refine Ok.mk ?_; (try simp only [Lm, La, Lc, Ln, Lt, Ld, Lr, Li, true_or, or_true, true_and, and_true]); omega) | (simp <;> fail) | skip) [runM_nil]) (pwp_skip ?_)
    first | refine pwp_dif hmix ?_ | refine pwp_difE hmix ?_
    intro K hK
    simp (disch := first | (refine Ok.mk ?_; (try simp only [Lm, La, Lc, Ln, Lt, Ld, Lr, Li, true_or, or_true, true_and, and_true]); omega) | (simp <;> fail) | skip) [runM_nil, e1, v1, v2]
    refine useD (plainSum_ok (b := b.take (b.length - 4)) (by simp) (.inl rfl) (fun x hx => hw x (List.mem_of_mem_take hx)) (by rw [Lt]; omega)) ?_
    simp (disch := first | (refine Ok.mk ?_; (try simp only [Lm, La, Lc, Ln, Lt, Ld, Lr, Li, true_or, or_true, true_and, and_true]); omega) | (simp <;> fail) | skip) [runM_nil, e1, v1, v2]
    refine useD (four_ok _ hml) ?_
    simp (disch := first | (refine Ok.mk ?_; (try simp only [Lm, La, Lc, Ln, Lt, Ld, Lr, Li, true_or, or_true, true_and, and_true]); omega) | (simp <;> fail) | skip) [runM_nil, e1, v1, v2]
    refine hK _ _ ?_
    clear hK K
  · refine ifF (by simp (disch := first | (refine Ok.mk ?_; (try simp only [Lm, La, Lc, Ln, Lt, Ld, Lr, Li, true_or, or_true, true_and, and_true]); omega) | (simp <;> fail) | skip) [runM_nil, h5]) (pwp_skip ?_)
    first | refine pwp_sr ?_ | refine pwp_regionM ?_
    intro K hK
    simp (disch := first | (refine Ok.mk ?_; (try simp only [Lm, La, Lc, Ln, Lt, Ld, Lr, Li, true_or, or_true, true_and, and_true]); omega) | (simp <;> fail) | skip) [runM_nil, e1]
    refine hK _ _ ?_
    clear hK K
    refine pwp_ret ⟨.inr rfl, _, _, _, (by simp (disch := first | (refine Ok.mk ?_; (try simp only [Lm, La, Lc, Ln, Lt, Ld, Lr, Li, true_or, or_true, true_and, and_true]); omega) | (simp <;> fail) | skip) [runM_nil, resL]; rfl), .refl _, (by simp (disch := first | (refine Ok.mk ?_; (try simp only [Lm, La, Lc, Ln, Lt, Ld, Lr, Li, true_or, or_true, true_and, and_true]); omega) | (simp <;> fail) | skip) [resV]), rfl, rfl⟩
  · refine ifT (by simp (disch := first | (refine Ok.mk ?_; (try simp only [Lm, La, Lc, Ln, Lt, Ld, Lr, Li, true_or, or_true, true_and, and_true]); omega) | (simp <;> fail) | skip) [runM_nil, h5]) ?_
    first | refine pwp_sr ?_ | refine pwp_regionM ?_
    intro K hK
    simp (disch := first | (refine Ok.mk ?_; (try simp only [Lm, La, Lc, Ln, Lt, Ld, Lr, Li, true_or, or_true, true_and, and_true]); omega) | (simp <;> fail) | skip) [runM_nil]
    refine hK _ _ ?_
    clear hK K
    refine pwp_ret ⟨.inr rfl, _, _, _, (by simp (disch := first | (refine Ok.mk ?_; (try simp only [Lm, La, Lc, Ln, Lt, Ld, Lr, Li, true_or, or_true, true_and, and_true]); omega) | (simp <;> fail) | skip) [runM_nil, resL]; rfl), .refl _, (by simp (disch := first | (refine Ok.mk ?_; (try simp only [Lm, La, Lc, Ln, Lt, Ld, Lr, Li, true_or, or_true, true_and, and_true]); omega) | (simp <;> fail) | skip) [resV]), rfl, rfl⟩
end Go.Proofs.Ytibmolekndeofaa.E
/- Varints: the document's. -/
namespace Go.Proofs.Ytibmolekndeofaa.E
open Go Go.RowKit Go.Proofs
set_option linter.unusedVariables false
set_option linter.unusedSimpArgs false
theorem rbytes_ok (n : Nat) (hn : n < 18446744073709551616) : PSpec Try.prog 59 [.int .u64 n] (bV (vb n) true) := by
  intro H
  refine spec_of t59 (by simp [p59]) ?_
  simp only [p59]
  first | refine pwp_sr ?_ | refine pwp_regionM ?_
  intro K hK
  simp (disch := first | (refine Ok.mk ?_; (try simp only [Lm, La, Lc, Ln, Lt, Ld, Lr, Li, true_or, or_true, true_and, and_true]); omega) | (simp <;> fail) | skip) [runM_nil]
  refine hK _ _ ?_
  clear hK K
  first | refine pwp_sr ?_ | refine pwp_regionM ?_
  intro K hK
  simp (disch := first | (refine Ok.mk ?_; (try simp only [Lm, La, Lc, Ln, Lt, Ld, Lr, Li, true_or, or_true, true_and, and_true]); omega) | (simp <;> fail) | skip) [runM_nil]
  refine hK _ _ ?_
  clear hK K
  refine pwp_seq (pwp_block ?_)
  refine pwp_loopK [0, 3] (fun k st H' => ∃ (acc : List Nat), acc ++ vb k = [] ++ vb n ∧ k < 18446744073709551616 ∧ H' = H ∧ st = MS 21 [(0, .int .u64 k), (3, bV acc true)]) (n := n)
    ⟨_, .refl _, [], rfl, hn, rfl, by simp [keepL_MS, keepA, getS]⟩ ?_
  rintro k st _ ⟨acc, ha, hk, rfl, rfl⟩
  have hal := vb_acc ha hn
  rw [Ln] at hal
  first | refine pwp_rif ?_ | refine pwp_rifE ?_
  intro K hK
  simp (disch := first | (refine Ok.mk ?_; (try simp only [Lm, La, Lc, Ln, Lt, Ld, Lr, Li, true_or, or_true, true_and, and_true]); omega) | (simp <;> fail) | skip) [runM_nil]
  refine hK _ _ ?_
  clear hK K
  refine ⟨_, (by simp (disch := first | (refine Ok.mk ?_; (try simp only [Lm, La, Lc, Ln, Lt, Ld, Lr, Li, true_or, or_true, true_and, and_true]); omega) | (simp <;> fail) | skip) [runM_nil]; rfl), fun hc => ?_, fun hc => ?_⟩ <;> try simp at hc
  · rw [vb_big (by omega)] at ha
    refine pwp_skip ?_
    refine pwp_block ?_
    first | refine pwp_sr ?_ | refine pwp_regionM ?_
    intro K hK
    simp (disch := first | (refine Ok.mk ?_; (try simp only [Lm, La, Lc, Ln, Lt, Ld, Lr, Li, true_or, or_true, true_and, and_true]); omega) | (simp <;> fail) | skip) [runM_nil]
    refine hK _ _ ?_
    clear hK K
    first | refine pwp_sr ?_ | refine pwp_regionM ?_
    intro K hK
    simp (disch := first | (refine Ok.mk ?_; (try simp only [Lm, La, Lc, Ln, Lt, Ld, Lr, Li, true_or, or_true, true_and, and_true]); omega) | (simp <;> fail) | skip) [runM_nil]
    refine hK _ _ ?_
    clear hK K
    refine ⟨k / 128, by omega, _, .refl _, acc ++ [k % 128 + 128], by rw [List.append_assoc]; exact ha, by omega, rfl, ?_⟩
    simp [keepL_MS, keepA, getS]
  · refine pwp_exit ?_
    rw [vb_small (by omega), List.nil_append] at ha
    first | refine pwp_sr ?_ | refine pwp_regionM ?_
    intro K hK
    simp (disch := first | (refine Ok.mk ?_; (try simp only [Lm, La, Lc, Ln, Lt, Ld, Lr, Li, true_or, or_true, true_and, and_true]); omega) | (simp <;> fail) | skip) [runM_nil]
    refine hK _ _ ?_
    clear hK K
    rw [← ha]
    refine pwp_ret ⟨.inr rfl, _, _, (by simp (disch := first | (refine Ok.mk ?_; (try simp only [Lm, La, Lc, Ln, Lt, Ld, Lr, Li, true_or, or_true, true_and, and_true]); omega) | (simp <;> fail) | skip) [runM_nil, resL]; rfl), .refl _, by simp (disch := first | (refine Ok.mk ?_; (try simp only [Lm, La, Lc, Ln, Lt, Ld, Lr, Li, true_or, or_true, true_and, and_true]); omega) | (simp <;> fail) | skip) [resV], rfl⟩
theorem rput_ok {s : Nat} {xs : List PV} {o : Bool} {b : List Nat} (hx : xs = b.map u8) (hs : s = 1 ∨ b.length = 0) (n : Nat) (hn : n < 18446744073709551616) (hl : b.length ≤ 100000000000000) :
    PSpec Try.prog 38 [.lst s xs o, .int .u64 n] (bV (b ++ vb n) true) := by
  subst hx
  intro H
  have h10 := vb_length_le10 hn
  refine spec_of t38 (by simp [p38]) ?_
  simp only [p38]
  first | refine pwp_sr ?_ | refine pwp_regionM ?_
  intro K hK
  simp (disch := first | (refine Ok.mk ?_; (try simp only [Lm, La, Lc, Ln, Lt, Ld, Lr, Li, true_or, or_true, true_and, and_true]); omega) | (simp <;> fail) | skip) [runM_nil]
  refine hK _ _ ?_
  clear hK K
  first | refine pwp_sr ?_ | refine pwp_regionM ?_
  intro K hK
  simp (disch := first | (refine Ok.mk ?_; (try simp only [Lm, La, Lc, Ln, Lt, Ld, Lr, Li, true_or, or_true, true_and, and_true]); omega) | (simp <;> fail) | skip) [runM_nil]
  refine hK _ _ ?_
  clear hK K
  first | refine pwp_sr ?_ | refine pwp_regionM ?_
  intro K hK
  simp (disch := first | (refine Ok.mk ?_; (try simp only [Lm, La, Lc, Ln, Lt, Ld, Lr, Li, true_or, or_true, true_and, and_true]); omega) | (simp <;> fail) | skip) [runM_nil]
  refine useP (rbytes_ok n hn) ?_
  simp (disch := first | (refine Ok.mk ?_; (try simp only [Lm, La, Lc, Ln, Lt, Ld, Lr, Li, true_or, or_true, true_and, and_true]); omega) | (simp <;> fail) | skip) [runM_nil]
  refine hK _ _ ?_
  clear hK K
  refine pwp_ret ⟨.inr rfl, _, _, (by simp (disch := first | (refine Ok.mk ?_; (try simp only [Lm, La, Lc, Ln, Lt, Ld, Lr, Li, true_or, or_true, true_and, and_true]); omega) | (simp <;> fail) | skip) [runM_nil, resL]; rfl), .refl _, by simp (disch := first | (refine Ok.mk ?_; (try simp only [Lm, La, Lc, Ln, Lt, Ld, Lr, Li, true_or, or_true, true_and, and_true]); omega) | (simp <;> fail) | skip) [resV], rfl⟩
theorem rframe_ok {s : Nat} {xs : List PV} {o : Bool} {b : List Nat} (hx : xs = b.map u8) (hs : s = 1 ∨ b.length = 0) (t : List Nat) (hl : b.length + t.length ≤ 100000000000000) :
    PSpec Try.prog 39 [.lst s xs o, .str (ci t)] (bV (b ++ vb t.length ++ t) true) := by
  intro H
  have h10 := vb_length_le10 (n := t.length) (by omega)
  have c := rput_ok (s := s) (o := false) hx hs t.length (by omega) (by omega)
  refine spec_of t39 (by simp [p39]) ?_
  simp only [p39]
  first | refine pwp_sr ?_ | refine pwp_regionM ?_
  intro K hK
  simp (disch := first | (refine Ok.mk ?_; (try simp only [Lm, La, Lc, Ln, Lt, Ld, Lr, Li, true_or, or_true, true_and, and_true]); omega) | (simp <;> fail) | skip) [runM_nil]
  refine hK _ _ ?_
  clear hK K
  first | refine pwp_sr ?_ | refine pwp_regionM ?_
  intro K hK
  simp (disch := first | (refine Ok.mk ?_; (try simp only [Lm, La, Lc, Ln, Lt, Ld, Lr, Li, true_or, or_true, true_and, and_true]); omega) | (simp <;> fail) | skip) [runM_nil]
  refine useP (c) ?_
  simp (disch := first | (refine Ok.mk ?_; (try simp only [Lm, La, Lc, Ln, Lt, Ld, Lr, Li, true_or, or_true, true_and, and_true]); omega) | (simp <;> fail) | skip) [runM_nil]
  refine hK _ _ ?_
  clear hK K
  first | refine pwp_sr ?_ | refine pwp_regionM ?_
  intro K hK
  simp (disch := first | (refine Ok.mk ?_; (try simp only [Lm, La, Lc, Ln, Lt, Ld, Lr, Li, true_or, or_true, true_and, and_true]); omega) | (simp <;> fail) | skip) [runM_nil]
  refine hK _ _ ?_
  clear hK K
  refine pwp_ret ⟨.inr rfl, _, _, (by simp (disch := first | (refine Ok.mk ?_; (try simp only [Lm, La, Lc, Ln, Lt, Ld, Lr, Li, true_or, or_true, true_and, and_true]); omega) | (simp <;> fail) | skip) [runM_nil, resL]; rfl), .refl _, by simp (disch := first | (refine Ok.mk ?_; (try simp only [Lm, La, Lc, Ln, Lt, Ld, Lr, Li, true_or, or_true, true_and, and_true]); omega) | (simp <;> fail) | skip) [resV], rfl⟩
set_option maxRecDepth 4000 in
theorem rtake_ok {s : Nat} {xs : List PV} {o : Bool} {b : List Nat} (hx : xs = b.map u8) (hs : s = 1 ∨ b.length = 0) (hw : ∀ x ∈ b, x < 256) (hl : b.length ≤ 100000000000000) :
    PSpec Try.prog 62 [.lst s xs o] (.tup [.int .u64 ((vtake b).1 : Nat), bV (vtake b).2.1 true, .int .i64 ((vtake b).2.2 : Nat)]) := by
  subst hx
  intro H
  have hll := lead_le b
  refine spec_ofU t62 (by simp [p62]) ?_
  simp only [p62]
  first | refine pwp_sr ?_ | refine pwp_regionM ?_
  intro K hK
  simp (disch := first | (refine Ok.mk ?_; (try simp only [Lm, La, Lc, Ln, Lt, Ld, Lr, Li, true_or, or_true, true_and, and_true]); omega) | (simp <;> fail) | skip) [runM_nil]
  refine hK _ _ ?_
  clear hK K
  first | refine pwp_sr ?_ | refine pwp_regionM ?_
  intro K hK
  simp (disch := first | (refine Ok.mk ?_; (try simp only [Lm, La, Lc, Ln, Lt, Ld, Lr, Li, true_or, or_true, true_and, and_true]); omega) | (simp <;> fail) | skip) [runM_nil]
  refine hK _ _ ?_
  clear hK K
  refine pwp_seq (pwp_block ?_)
  refine pwp_loopK [0, 5] (fun m st H' => ∃ i : Nat, i ≤ lead b ∧ i ≤ 10 ∧ m = 10 - i ∧ H' = H ∧ st = MS 61 [(0, .lst s (b.map u8) o), (5, .int .i64 i)]) (n := 10)
    ⟨_, .refl _, 0, Nat.zero_le _, by omega, rfl, rfl, by simp [keepL_MS, keepA, getS]⟩ ?_
  rintro m st H' ⟨i, h1, h2, rfl, rfl, rfl⟩
  by_cases hgo : i < lead b ∧ i < 10
  · have hi : i < b.length := by omega
    have hxm : ∃ x, b[i]? = some x ∧ 128 ≤ x := ⟨b[i], List.getElem?_eq_getElem hi, by have := lead_hi b i hgo.1; rwa [List.getD_eq_getElem?_getD, List.getElem?_eq_getElem hi] at this⟩
    obtain ⟨x, hgx, hx⟩ := hxm
    obtain rfl : s = 1 := by omega
    first | refine pwp_rif ?_ | refine pwp_rifE ?_
    intro K hK
    simp (disch := first | (refine Ok.mk ?_; (try simp only [Lm, La, Lc, Ln, Lt, Ld, Lr, Li, true_or, or_true, true_and, and_true]); omega) | (simp <;> fail) | skip) [runM_nil, hgx]
    refine hK _ _ ?_
    clear hK K
    refine ifT (by simp (disch := first | (refine Ok.mk ?_; (try simp only [Lm, La, Lc, Ln, Lt, Ld, Lr, Li, true_or, or_true, true_and, and_true]); omega) | (simp <;> fail) | skip) [runM_nil]) (pwp_skip ?_)
    refine pwp_block ?_
    first | refine pwp_sr ?_ | refine pwp_regionM ?_
    intro K hK
    simp (disch := first | (refine Ok.mk ?_; (try simp only [Lm, La, Lc, Ln, Lt, Ld, Lr, Li, true_or, or_true, true_and, and_true]); omega) | (simp <;> fail) | skip) [runM_nil]
    refine hK _ _ ?_
    clear hK K
    exact ⟨10 - (i + 1), by omega, _, .refl _, i + 1, by omega, by omega, rfl, rfl, by simp [keepL_MS, keepA, getS]⟩
  · have hst : i = 10 ∨ (¬ i = 10 ∧ i = b.length) ∨ (¬ i = 10 ∧ i < b.length ∧ i = lead b) := by omega
    refine pwp_rif ?_
    intro K hK
    have stop : ∀ st', argT st' (.t 22) = .bool false → keepL [0, 5] 0 st' = MS 61 [(0, .lst s (b.map u8) o), (5, .int .i64 i)] → K st' H' := by
      intro st' e1 e2
      refine hK _ _ (ifF e1 (pwp_exit ?_))
      clear hK
      show pwp _ _ _ _ _
      refine pwp_keep [0, 5] ?_
      rw [e2]
      clear e1 e2
      rcases hst with h10 | ⟨h10, hbl⟩ | ⟨h10, hbl, hld⟩
      · have e : vtake b = (0, [], 3) := by unfold vtake; rw [if_pos (by omega)]
        rw [e]
        first | refine pwp_rif ?_ | refine pwp_rifE ?_
        intro K hK
        simp (disch := first | (refine Ok.mk ?_; (try simp only [Lm, La, Lc, Ln, Lt, Ld, Lr, Li, true_or, or_true, true_and, and_true]); omega) | (simp <;> fail) | skip) [runM_nil]
        refine hK _ _ ?_
        clear hK K
        refine ifT (by simp (disch := first | (refine Ok.mk ?_; (try simp only [Lm, La, Lc, Ln, Lt, Ld, Lr, Li, true_or, or_true, true_and, and_true]); omega) | (simp <;> fail) | skip) [runM_nil]) ?_
        first | refine pwp_sr ?_ | refine pwp_regionM ?_
        intro K hK
        simp (disch := first | (refine Ok.mk ?_; (try simp only [Lm, La, Lc, Ln, Lt, Ld, Lr, Li, true_or, or_true, true_and, and_true]); omega) | (simp <;> fail) | skip) [runM_nil]
        refine hK _ _ ?_
        clear hK K
        refine pwp_ret ⟨.inr rfl, _, _, _, (by simp (disch := first | (refine Ok.mk ?_; (try simp only [Lm, La, Lc, Ln, Lt, Ld, Lr, Li, true_or, or_true, true_and, and_true]); omega) | (simp <;> fail) | skip) [runM_nil, resL]; rfl), .refl _, (by simp (disch := first | (refine Ok.mk ?_; (try simp only [Lm, La, Lc, Ln, Lt, Ld, Lr, Li, true_or, or_true, true_and, and_true]); omega) | (simp <;> fail) | skip) [resV]), rfl, rfl⟩
      · have e : vtake b = (0, [], 2) := by unfold vtake; rw [if_neg (by omega), if_pos (by omega)]
        rw [e]
        first | refine pwp_rif ?_ | refine pwp_rifE ?_
        intro K hK
        simp (disch := first | (refine Ok.mk ?_; (try simp only [Lm, La, Lc, Ln, Lt, Ld, Lr, Li, true_or, or_true, true_and, and_true]); omega) | (simp <;> fail) | skip) [runM_nil]
        refine hK _ _ ?_
        clear hK K
        refine ifF (by simp (disch := first | (refine Ok.mk ?_; (try simp only [Lm, La, Lc, Ln, Lt, Ld, Lr, Li, true_or, or_true, true_and, and_true]); omega) | (simp <;> fail) | skip) [runM_nil]) (pwp_skip ?_)
        first | refine pwp_rif ?_ | refine pwp_rifE ?_
        intro K hK
        simp (disch := first | (refine Ok.mk ?_; (try simp only [Lm, La, Lc, Ln, Lt, Ld, Lr, Li, true_or, or_true, true_and, and_true]); omega) | (simp <;> fail) | skip) [runM_nil]
        refine hK _ _ ?_
        clear hK K
        refine ifT (by simp (disch := first | (refine Ok.mk ?_; (try simp only [Lm, La, Lc, Ln, Lt, Ld, Lr, Li, true_or, or_true, true_and, and_true]); omega) | (simp <;> fail) | skip) [runM_nil]) ?_
        first | refine pwp_sr ?_ | refine pwp_regionM ?_
        intro K hK
        simp (disch := first | (refine Ok.mk ?_; (try simp only [Lm, La, Lc, Ln, Lt, Ld, Lr, Li, true_or, or_true, true_and, and_true]); omega) | (simp <;> fail) | skip) [runM_nil]
        refine hK _ _ ?_
        clear hK K
        refine pwp_ret ⟨.inr rfl, _, _, _, (by simp (disch := first | (refine Ok.mk ?_; (try simp only [Lm, La, Lc, Ln, Lt, Ld, Lr, Li, true_or, or_true, true_and, and_true]); omega) | (simp <;> fail) | skip) [runM_nil, resL]; rfl), .refl _, (by simp (disch := first | (refine Ok.mk ?_; (try simp only [Lm, La, Lc, Ln, Lt, Ld, Lr, Li, true_or, or_true, true_and, and_true]); omega) | (simp <;> fail) | skip) [resV]), rfl, rfl⟩
      · have hlo := lead_lo b (by omega)
        rw [← hld] at hlo
        first | refine pwp_rif ?_ | refine pwp_rifE ?_
        intro K hK
        simp (disch := first | (refine Ok.mk ?_; (try simp only [Lm, La, Lc, Ln, Lt, Ld, Lr, Li, true_or, or_true, true_and, and_true]); omega) | (simp <;> fail) | skip) [runM_nil]
        refine hK _ _ ?_
        clear hK K
        refine ifF (by simp (disch := first | (refine Ok.mk ?_; (try simp only [Lm, La, Lc, Ln, Lt, Ld, Lr, Li, true_or, or_true, true_and, and_true]); omega) | (simp <;> fail) | skip) [runM_nil]) (pwp_skip ?_)
        first | refine pwp_rif ?_ | refine pwp_rifE ?_
        intro K hK
        simp (disch := first | (refine Ok.mk ?_; (try simp only [Lm, La, Lc, Ln, Lt, Ld, Lr, Li, true_or, or_true, true_and, and_true]); omega) | (simp <;> fail) | skip) [runM_nil]
        refine hK _ _ ?_
        clear hK K
        refine ifF (by simp (disch := first | (refine Ok.mk ?_; (try simp only [Lm, La, Lc, Ln, Lt, Ld, Lr, Li, true_or, or_true, true_and, and_true]); omega) | (simp <;> fail) | skip) [runM_nil]) (pwp_skip ?_)
        first | refine pwp_sr ?_ | refine pwp_regionM ?_
        intro K hK
        simp (disch := first | (refine Ok.mk ?_; (try simp only [Lm, La, Lc, Ln, Lt, Ld, Lr, Li, true_or, or_true, true_and, and_true]); omega) | (simp <;> fail) | skip) [runM_nil]
        refine hK _ _ ?_
        clear hK K
        refine pwp_seq ?_
        first | refine pwp_sr ?_ | refine pwp_regionM ?_
        intro K hK
        simp (disch := first | (refine Ok.mk ?_; (try simp only [Lm, La, Lc, Ln, Lt, Ld, Lr, Li, true_or, or_true, true_and, and_true]); omega) | (simp <;> fail) | skip) [runM_nil]
        refine hK _ _ ?_
        clear hK K
        refine pwp_block ?_
        have hsl : ∀ j, num ((b.take (i + 1)).drop j) = if h : j < i + 1 then num ((b.take (i + 1)).drop (j + 1)) * 128 + b.getD j 0 % 128 else 0 := by
          intro j
          split
          · rename_i h
            have hj : j < (b.take (i + 1)).length := by rw [Lt]; omega
            rw [List.drop_eq_getElem_cons hj, num, List.getElem_take]
            rw [List.getD_eq_getElem?_getD, List.getElem?_eq_getElem (by omega)]
            simp only [Option.getD_some]
            omega
          · rename_i h
            rw [List.drop_eq_nil_of_le (by rw [Lt]; omega)]
            rfl
        refine pwp_loopK [0, 5, 6, 7] (fun m st H2 => m ≤ i + 1 ∧ H2 = H' ∧ st = MS 61 [(0, .lst s (b.map u8) o), (5, .int .i64 i), (6, .int .u64 (num ((b.take (i + 1)).drop m) % 18446744073709551616 : Nat)), (7, .int .i64 ((m : Int) - 1))]) (n := i + 1)
          ⟨_, .refl _, Nat.le_refl _, rfl, ?_⟩ ?_
        · rw [hsl]
          simp [keepL_MS, keepA, getS]
        rintro m st _ ⟨hm, rfl, rfl⟩
        obtain rfl : s = 1 := by omega
        rcases m with _ | m
        · first | refine pwp_rif ?_ | refine pwp_rifE ?_
          intro K hK
          simp (disch := first | (refine Ok.mk ?_; (try simp only [Lm, La, Lc, Ln, Lt, Ld, Lr, Li, true_or, or_true, true_and, and_true]); omega) | (simp <;> fail) | skip) [runM_nil]
          refine hK _ _ ?_
          clear hK K
          refine ifF (by simp (disch := first | (refine Ok.mk ?_; (try simp only [Lm, La, Lc, Ln, Lt, Ld, Lr, Li, true_or, or_true, true_and, and_true]); omega) | (simp <;> fail) | skip) [runM_nil]) ?_
          refine pwp_exit ?_
          have hbi : i < b.length := hbl
          have hcs := cvS_u8 (s := 1) (o := false) (l := b.take (i + 1)) rfl (.inl rfl) (fun x hx => hw x (List.mem_of_mem_take hx))
          rw [List.map_take] at hcs
          by_cases hbad : vbad b i
          · have e : vtake b = (0, [], 3) := by unfold vtake; rw [← hld, if_neg (by omega), if_neg (by omega), if_pos hbad]
            rw [e]
            have hne := not_canon (s := b) (by omega) (by omega) (by rw [← hld]; exact hbad)
            rw [← hld] at hne
            have hm : num (b.take (i + 1)) % 18446744073709551616 < 18446744073709551616 := Nat.mod_lt _ (by omega)
            have hcv := cvS_u8 (s := 1) (o := false) (l := vb (num (b.take (i + 1)) % 18446744073709551616)) rfl (.inl rfl) (vb_lt _)
            have cb := rbytes_ok _ hm
            first | refine pwp_dif hmix ?_ | refine pwp_difE hmix ?_
            intro K hK
            simp (disch := first | (refine Ok.mk ?_; (try simp only [Lm, La, Lc, Ln, Lt, Ld, Lr, Li, true_or, or_true, true_and, and_true]); omega) | (simp <;> fail) | skip) [runM_nil, hcs, hcv, hne]
            refine useD (cb) ?_
            simp (disch := first | (refine Ok.mk ?_; (try simp only [Lm, La, Lc, Ln, Lt, Ld, Lr, Li, true_or, or_true, true_and, and_true]); omega) | (simp <;> fail) | skip) [runM_nil, hcs, hcv, hne]
            refine hK _ _ ?_
            clear hK K
            refine ifT (by simp (disch := first | (refine Ok.mk ?_; (try simp only [Lm, La, Lc, Ln, Lt, Ld, Lr, Li, true_or, or_true, true_and, and_true]); omega) | (simp <;> fail) | skip) [runM_nil, hne]) ?_
            first | refine pwp_sr ?_ | refine pwp_regionM ?_
            intro K hK
            simp (disch := first | (refine Ok.mk ?_; (try simp only [Lm, La, Lc, Ln, Lt, Ld, Lr, Li, true_or, or_true, true_and, and_true]); omega) | (simp <;> fail) | skip) [runM_nil]
            refine hK _ _ ?_
            clear hK K
            refine pwp_ret ⟨.inr rfl, _, _, _, (by simp (disch := first | (refine Ok.mk ?_; (try simp only [Lm, La, Lc, Ln, Lt, Ld, Lr, Li, true_or, or_true, true_and, and_true]); omega) | (simp <;> fail) | skip) [runM_nil, resL]; rfl), .refl _, (by simp (disch := first | (refine Ok.mk ?_; (try simp only [Lm, La, Lc, Ln, Lt, Ld, Lr, Li, true_or, or_true, true_and, and_true]); omega) | (simp <;> fail) | skip) [resV]), rfl, rfl⟩
          · obtain ⟨c1, c2⟩ := canon (s := b) hw (by omega) (by omega) (by rw [← hld]; exact hbad)
            rw [← hld] at c1 c2
            have e : vtake b = (num (b.take (i + 1)), b.drop (i + 1), 0) := by unfold vtake; rw [← hld, if_neg (by omega), if_neg (by omega), if_neg hbad]
            rw [e]
            have hm : num (b.take (i + 1)) % 18446744073709551616 = num (b.take (i + 1)) := Nat.mod_eq_of_lt c1
            have hcv := cvS_u8 (s := 1) (o := false) (l := vb (num (b.take (i + 1)))) rfl (.inl rfl) (vb_lt _)
            have cb := rbytes_ok _ c1
            rw [c2] at hcv
            have hm2 : (num (b.take (i + 1)) : Int) % 18446744073709551616 = num (b.take (i + 1)) := by omega
            first | refine pwp_dif hmix ?_ | refine pwp_difE hmix ?_
            intro K hK
            simp (disch := first | (refine Ok.mk ?_; (try simp only [Lm, La, Lc, Ln, Lt, Ld, Lr, Li, true_or, or_true, true_and, and_true]); omega) | (simp <;> fail) | skip) [runM_nil, hcs, hcv, c2, hm2]
            refine useD (cb) ?_
            simp (disch := first | (refine Ok.mk ?_; (try simp only [Lm, La, Lc, Ln, Lt, Ld, Lr, Li, true_or, or_true, true_and, and_true]); omega) | (simp <;> fail) | skip) [runM_nil, hcs, hcv, c2, hm2]
            refine hK _ _ ?_
            clear hK K
            refine ifF (by simp (disch := first | (refine Ok.mk ?_; (try simp only [Lm, La, Lc, Ln, Lt, Ld, Lr, Li, true_or, or_true, true_and, and_true]); omega) | (simp <;> fail) | skip) [runM_nil]) (pwp_skip ?_)
            first | refine pwp_sr ?_ | refine pwp_regionM ?_
            intro K hK
            simp (disch := first | (refine Ok.mk ?_; (try simp only [Lm, La, Lc, Ln, Lt, Ld, Lr, Li, true_or, or_true, true_and, and_true]); omega) | (simp <;> fail) | skip) [runM_nil, hm2]
            refine hK _ _ ?_
            clear hK K
            refine pwp_ret ⟨.inr rfl, _, _, _, (by simp (disch := first | (refine Ok.mk ?_; (try simp only [Lm, La, Lc, Ln, Lt, Ld, Lr, Li, true_or, or_true, true_and, and_true]); omega) | (simp <;> fail) | skip) [runM_nil, resL]; rfl), .refl _, (by simp (disch := first | (refine Ok.mk ?_; (try simp only [Lm, La, Lc, Ln, Lt, Ld, Lr, Li, true_or, or_true, true_and, and_true]); omega) | (simp <;> fail) | skip) [resV]), rfl, rfl⟩
        · have hxm : ∃ x, b[m]? = some x ∧ b.getD m 0 = x ∧ x < 256 := ⟨b[m]'(by omega), List.getElem?_eq_getElem _, by simp [List.getD, List.getElem?_eq_getElem (show m < b.length by omega)], hw _ (List.getElem_mem _)⟩
          obtain ⟨x, hgx, hgd, hx⟩ := hxm
          have hst := hsl m
          rw [dif_pos (by omega), hgd] at hst
          have e3 : ((num ((b.take (i + 1)).drop (m + 1)) : Int) % 18446744073709551616 * 128 % 18446744073709551616 + x % 128) = ((num ((b.take (i + 1)).drop m) : Nat) : Int) % 18446744073709551616 := by rw [hst]; omega
          first | refine pwp_rif ?_ | refine pwp_rifE ?_
          intro K hK
          simp (disch := first | (refine Ok.mk ?_; (try simp only [Lm, La, Lc, Ln, Lt, Ld, Lr, Li, true_or, or_true, true_and, and_true]); omega) | (simp <;> fail) | skip) [runM_nil]
          refine hK _ _ ?_
          clear hK K
          refine ifT (by simp (disch := first | (refine Ok.mk ?_; (try simp only [Lm, La, Lc, Ln, Lt, Ld, Lr, Li, true_or, or_true, true_and, and_true]); omega) | (simp <;> fail) | skip) [runM_nil]) (pwp_skip ?_)
          refine pwp_seq (pwp_block ?_)
          first | refine pwp_sr ?_ | refine pwp_regionM ?_
          intro K hK
          simp (disch := first | (refine Ok.mk ?_; (try simp only [Lm, La, Lc, Ln, Lt, Ld, Lr, Li, true_or, or_true, true_and, and_true]); omega) | (simp <;> fail) | skip) [runM_nil, hgx, wm_u64]
          refine hK _ _ ?_
          clear hK K
          first | refine pwp_sr ?_ | refine pwp_regionM ?_
          intro K hK
          simp (disch := first | (refine Ok.mk ?_; (try simp only [Lm, La, Lc, Ln, Lt, Ld, Lr, Li, true_or, or_true, true_and, and_true]); omega) | (simp <;> fail) | skip) [runM_nil]
          refine hK _ _ ?_
          clear hK K
          refine ⟨m, by omega, _, .refl _, by omega, rfl, ?_⟩
          simp [keepL_MS, keepA, getS, e3]
    rcases hst with h10 | ⟨h10, hbl⟩ | ⟨h10, hbl, hld⟩
    · by_cases hbl : i < b.length
      all_goals
        simp (disch := first | (refine Ok.mk ?_; (try simp only [Lm, La, Lc, Ln, Lt, Ld, Lr, Li, true_or, or_true, true_and, and_true]); omega) | (simp <;> fail) | skip)
        exact stop _ (by simp) (by simp [keepL_MS, keepA, getS])
    · simp (disch := first | (refine Ok.mk ?_; (try simp only [Lm, La, Lc, Ln, Lt, Ld, Lr, Li, true_or, or_true, true_and, and_true]); omega) | (simp <;> fail) | skip)
      exact stop _ (by simp) (by simp [keepL_MS, keepA, getS])
    · have hlo := lead_lo b (by omega)
      rw [← hld] at hlo
      have hxm : ∃ x, b[i]? = some x ∧ x < 128 := ⟨b[i], List.getElem?_eq_getElem hbl, by rwa [List.getD_eq_getElem?_getD, List.getElem?_eq_getElem hbl] at hlo⟩
      obtain ⟨x, hgx, hx⟩ := hxm
      obtain rfl : s = 1 := by omega
      simp (disch := first | (refine Ok.mk ?_; (try simp only [Lm, La, Lc, Ln, Lt, Ld, Lr, Li, true_or, or_true, true_and, and_true]); omega) | (simp <;> fail) | skip) [hgx]
      exact stop _ (by simp) (by simp [keepL_MS, keepA, getS])
theorem rtakeFrame_ok {s : Nat} {xs : List PV} {o : Bool} {b : List Nat} (hx : xs = b.map u8) (hs : s = 1 ∨ b.length = 0) (hw : ∀ x ∈ b, x < 256) (hl : b.length ≤ 100000000000000) (most : Int) (hm : most < 9223372036854775808) :
    PSpec Try.prog 41 [.lst s xs o, .int .i64 most] (.tup [.str (ci (vframe b most).1), bV (vframe b most).2.1 true, .int .i64 ((vframe b most).2.2 : Nat)]) := by
  intro H
  have c := rtake_ok (o := false) hx hs hw hl
  have hwr := vtake_wf hw
  have hn := vtake_lt hw
  have hrl : (vtake b).2.1.length ≤ b.length := (vtake_rest (s := b)).1
  have hc := vframe_cases b most rfl rfl rfl
  have he := vtake_err b
  generalize hv : vframe b most = v at *
  generalize (vtake b).1 = n at *
  generalize (vtake b).2.1 = r at *
  generalize (vtake b).2.2 = e at *
  refine spec_ofU t41 (by simp [p41]) ?_
  simp only [p41]
  first | refine pwp_sr ?_ | refine pwp_regionM ?_
  intro K hK
  simp (disch := first | (refine Ok.mk ?_; (try simp only [Lm, La, Lc, Ln, Lt, Ld, Lr, Li, true_or, or_true, true_and, and_true]); omega) | (simp <;> fail) | skip) [runM_nil]
  refine hK _ _ ?_
  clear hK K
  first | refine pwp_sr ?_ | refine pwp_regionM ?_
  intro K hK
  simp (disch := first | (refine Ok.mk ?_; (try simp only [Lm, La, Lc, Ln, Lt, Ld, Lr, Li, true_or, or_true, true_and, and_true]); omega) | (simp <;> fail) | skip) [runM_nil]
  refine useP (c) ?_
  simp (disch := first | (refine Ok.mk ?_; (try simp only [Lm, La, Lc, Ln, Lt, Ld, Lr, Li, true_or, or_true, true_and, and_true]); omega) | (simp <;> fail) | skip) [runM_nil]
  refine hK _ _ ?_
  clear hK K
  rcases hc with ⟨q1, rfl⟩ | ⟨q1, q2, rfl⟩ | ⟨q1, q2, q3, rfl⟩ | ⟨q1, q2, q3, q4, rfl⟩ | ⟨q1, q2, q3, q4, rfl⟩
  · first | refine pwp_rif ?_ | refine pwp_rifE ?_
    intro K hK
    simp (disch := first | (refine Ok.mk ?_; (try simp only [Lm, La, Lc, Ln, Lt, Ld, Lr, Li, true_or, or_true, true_and, and_true]); omega) | (simp <;> fail) | skip) [runM_nil]
    refine hK _ _ ?_
    clear hK K
    refine ifT (by simp (disch := first | (refine Ok.mk ?_; (try simp only [Lm, La, Lc, Ln, Lt, Ld, Lr, Li, true_or, or_true, true_and, and_true]); omega) | (simp <;> fail) | skip) [runM_nil]) ?_
    first | refine pwp_sr ?_ | refine pwp_regionM ?_
    intro K hK
    simp (disch := first | (refine Ok.mk ?_; (try simp only [Lm, La, Lc, Ln, Lt, Ld, Lr, Li, true_or, or_true, true_and, and_true]); omega) | (simp <;> fail) | skip) [runM_nil]
    refine hK _ _ ?_
    clear hK K
    refine pwp_ret ⟨.inr rfl, _, _, _, (by simp (disch := first | (refine Ok.mk ?_; (try simp only [Lm, La, Lc, Ln, Lt, Ld, Lr, Li, true_or, or_true, true_and, and_true]); omega) | (simp <;> fail) | skip) [runM_nil, resL]; rfl), .refl _, (by simp (disch := first | (refine Ok.mk ?_; (try simp only [Lm, La, Lc, Ln, Lt, Ld, Lr, Li, true_or, or_true, true_and, and_true]); omega) | (simp <;> fail) | skip) [resV]), rfl, rfl⟩
  · first | refine pwp_rif ?_ | refine pwp_rifE ?_
    intro K hK
    simp (disch := first | (refine Ok.mk ?_; (try simp only [Lm, La, Lc, Ln, Lt, Ld, Lr, Li, true_or, or_true, true_and, and_true]); omega) | (simp <;> fail) | skip) [runM_nil]
    refine hK _ _ ?_
    clear hK K
    refine ifF (by simp (disch := first | (refine Ok.mk ?_; (try simp only [Lm, La, Lc, Ln, Lt, Ld, Lr, Li, true_or, or_true, true_and, and_true]); omega) | (simp <;> fail) | skip) [runM_nil]) (pwp_skip ?_)
    first | refine pwp_rif ?_ | refine pwp_rifE ?_
    intro K hK
    simp (disch := first | (refine Ok.mk ?_; (try simp only [Lm, La, Lc, Ln, Lt, Ld, Lr, Li, true_or, or_true, true_and, and_true]); omega) | (simp <;> fail) | skip) [runM_nil]
    refine hK _ _ ?_
    clear hK K
    refine ifT (by simp (disch := first | (refine Ok.mk ?_; (try simp only [Lm, La, Lc, Ln, Lt, Ld, Lr, Li, true_or, or_true, true_and, and_true]); omega) | (simp <;> fail) | skip) [runM_nil]) ?_
    first | refine pwp_sr ?_ | refine pwp_regionM ?_
    intro K hK
    simp (disch := first | (refine Ok.mk ?_; (try simp only [Lm, La, Lc, Ln, Lt, Ld, Lr, Li, true_or, or_true, true_and, and_true]); omega) | (simp <;> fail) | skip) [runM_nil]
    refine hK _ _ ?_
    clear hK K
    refine pwp_ret ⟨.inr rfl, _, _, _, (by simp (disch := first | (refine Ok.mk ?_; (try simp only [Lm, La, Lc, Ln, Lt, Ld, Lr, Li, true_or, or_true, true_and, and_true]); omega) | (simp <;> fail) | skip) [runM_nil, resL]; rfl), .refl _, (by simp (disch := first | (refine Ok.mk ?_; (try simp only [Lm, La, Lc, Ln, Lt, Ld, Lr, Li, true_or, or_true, true_and, and_true]); omega) | (simp <;> fail) | skip) [resV]), rfl, rfl⟩
  · first | refine pwp_rif ?_ | refine pwp_rifE ?_
    intro K hK
    simp (disch := first | (refine Ok.mk ?_; (try simp only [Lm, La, Lc, Ln, Lt, Ld, Lr, Li, true_or, or_true, true_and, and_true]); omega) | (simp <;> fail) | skip) [runM_nil]
    refine hK _ _ ?_
    clear hK K
    refine ifF (by simp (disch := first | (refine Ok.mk ?_; (try simp only [Lm, La, Lc, Ln, Lt, Ld, Lr, Li, true_or, or_true, true_and, and_true]); omega) | (simp <;> fail) | skip) [runM_nil]) (pwp_skip ?_)
    first | refine pwp_rif ?_ | refine pwp_rifE ?_
    intro K hK
    simp (disch := first | (refine Ok.mk ?_; (try simp only [Lm, La, Lc, Ln, Lt, Ld, Lr, Li, true_or, or_true, true_and, and_true]); omega) | (simp <;> fail) | skip) [runM_nil]
    refine hK _ _ ?_
    clear hK K
    refine ifT (by simp (disch := first | (refine Ok.mk ?_; (try simp only [Lm, La, Lc, Ln, Lt, Ld, Lr, Li, true_or, or_true, true_and, and_true]); omega) | (simp <;> fail) | skip) [runM_nil]) ?_
    first | refine pwp_sr ?_ | refine pwp_regionM ?_
    intro K hK
    simp (disch := first | (refine Ok.mk ?_; (try simp only [Lm, La, Lc, Ln, Lt, Ld, Lr, Li, true_or, or_true, true_and, and_true]); omega) | (simp <;> fail) | skip) [runM_nil]
    refine hK _ _ ?_
    clear hK K
    refine pwp_ret ⟨.inr rfl, _, _, _, (by simp (disch := first | (refine Ok.mk ?_; (try simp only [Lm, La, Lc, Ln, Lt, Ld, Lr, Li, true_or, or_true, true_and, and_true]); omega) | (simp <;> fail) | skip) [runM_nil, resL]; rfl), .refl _, (by simp (disch := first | (refine Ok.mk ?_; (try simp only [Lm, La, Lc, Ln, Lt, Ld, Lr, Li, true_or, or_true, true_and, and_true]); omega) | (simp <;> fail) | skip) [resV]), rfl, rfl⟩
  · first | refine pwp_rif ?_ | refine pwp_rifE ?_
    intro K hK
    simp (disch := first | (refine Ok.mk ?_; (try simp only [Lm, La, Lc, Ln, Lt, Ld, Lr, Li, true_or, or_true, true_and, and_true]); omega) | (simp <;> fail) | skip) [runM_nil]
    refine hK _ _ ?_
    clear hK K
    refine ifF (by simp (disch := first | (refine Ok.mk ?_; (try simp only [Lm, La, Lc, Ln, Lt, Ld, Lr, Li, true_or, or_true, true_and, and_true]); omega) | (simp <;> fail) | skip) [runM_nil]) (pwp_skip ?_)
    first | refine pwp_rif ?_ | refine pwp_rifE ?_
    intro K hK
    simp (disch := first | (refine Ok.mk ?_; (try simp only [Lm, La, Lc, Ln, Lt, Ld, Lr, Li, true_or, or_true, true_and, and_true]); omega) | (simp <;> fail) | skip) [runM_nil]
    refine hK _ _ ?_
    clear hK K
    refine ifF (by simp (disch := first | (refine Ok.mk ?_; (try simp only [Lm, La, Lc, Ln, Lt, Ld, Lr, Li, true_or, or_true, true_and, and_true]); omega) | (simp <;> fail) | skip) [runM_nil]) (pwp_skip ?_)
    first | refine pwp_rif ?_ | refine pwp_rifE ?_
    intro K hK
    simp (disch := first | (refine Ok.mk ?_; (try simp only [Lm, La, Lc, Ln, Lt, Ld, Lr, Li, true_or, or_true, true_and, and_true]); omega) | (simp <;> fail) | skip) [runM_nil]
    refine hK _ _ ?_
    clear hK K
    refine ifT (by simp (disch := first | (refine Ok.mk ?_; (try simp only [Lm, La, Lc, Ln, Lt, Ld, Lr, Li, true_or, or_true, true_and, and_true]); omega) | (simp <;> fail) | skip) [runM_nil]) ?_
    first | refine pwp_sr ?_ | refine pwp_regionM ?_
    intro K hK
    simp (disch := first | (refine Ok.mk ?_; (try simp only [Lm, La, Lc, Ln, Lt, Ld, Lr, Li, true_or, or_true, true_and, and_true]); omega) | (simp <;> fail) | skip) [runM_nil]
    refine hK _ _ ?_
    clear hK K
    refine pwp_ret ⟨.inr rfl, _, _, _, (by simp (disch := first | (refine Ok.mk ?_; (try simp only [Lm, La, Lc, Ln, Lt, Ld, Lr, Li, true_or, or_true, true_and, and_true]); omega) | (simp <;> fail) | skip) [runM_nil, resL]; rfl), .refl _, (by simp (disch := first | (refine Ok.mk ?_; (try simp only [Lm, La, Lc, Ln, Lt, Ld, Lr, Li, true_or, or_true, true_and, and_true]); omega) | (simp <;> fail) | skip) [resV]), rfl, rfl⟩
  · first | refine pwp_rif ?_ | refine pwp_rifE ?_
    intro K hK
    simp (disch := first | (refine Ok.mk ?_; (try simp only [Lm, La, Lc, Ln, Lt, Ld, Lr, Li, true_or, or_true, true_and, and_true]); omega) | (simp <;> fail) | skip) [runM_nil]
    refine hK _ _ ?_
    clear hK K
    refine ifF (by simp (disch := first | (refine Ok.mk ?_; (try simp only [Lm, La, Lc, Ln, Lt, Ld, Lr, Li, true_or, or_true, true_and, and_true]); omega) | (simp <;> fail) | skip) [runM_nil]) (pwp_skip ?_)
    first | refine pwp_rif ?_ | refine pwp_rifE ?_
    intro K hK
    simp (disch := first | (refine Ok.mk ?_; (try simp only [Lm, La, Lc, Ln, Lt, Ld, Lr, Li, true_or, or_true, true_and, and_true]); omega) | (simp <;> fail) | skip) [runM_nil]
    refine hK _ _ ?_
    clear hK K
    refine ifF (by simp (disch := first | (refine Ok.mk ?_; (try simp only [Lm, La, Lc, Ln, Lt, Ld, Lr, Li, true_or, or_true, true_and, and_true]); omega) | (simp <;> fail) | skip) [runM_nil]) (pwp_skip ?_)
    first | refine pwp_rif ?_ | refine pwp_rifE ?_
    intro K hK
    simp (disch := first | (refine Ok.mk ?_; (try simp only [Lm, La, Lc, Ln, Lt, Ld, Lr, Li, true_or, or_true, true_and, and_true]); omega) | (simp <;> fail) | skip) [runM_nil]
    refine hK _ _ ?_
    clear hK K
    refine ifF (by simp (disch := first | (refine Ok.mk ?_; (try simp only [Lm, La, Lc, Ln, Lt, Ld, Lr, Li, true_or, or_true, true_and, and_true]); omega) | (simp <;> fail) | skip) [runM_nil]) (pwp_skip ?_)
    have cs := cvS_u8 (s := 1) (o := false) (l := r.take n) rfl (.inl rfl) (fun x hx => hwr x (List.mem_of_mem_take hx))
    rw [List.map_take] at cs
    first | refine pwp_sd hmix ?_ | refine pwp_drawM hmix ?_
    intro K hK
    simp (disch := first | (refine Ok.mk ?_; (try simp only [Lm, La, Lc, Ln, Lt, Ld, Lr, Li, true_or, or_true, true_and, and_true]); omega) | (simp <;> fail) | skip) [runM_nil, cs]
    refine hK _ _ ?_
    clear hK K
    refine pwp_ret ⟨.inr rfl, _, _, _, (by simp (disch := first | (refine Ok.mk ?_; (try simp only [Lm, La, Lc, Ln, Lt, Ld, Lr, Li, true_or, or_true, true_and, and_true]); omega) | (simp <;> fail) | skip) [runM_nil, resL]; rfl), .refl _, (by simp (disch := first | (refine Ok.mk ?_; (try simp only [Lm, La, Lc, Ln, Lt, Ld, Lr, Li, true_or, or_true, true_and, and_true]); omega) | (simp <;> fail) | skip) [resV]), rfl, rfl⟩
end Go.Proofs.Ytibmolekndeofaa.E
/- Entries of a journal: which may be. -/
namespace Go.Proofs.Ytibmolekndeofaa.E
open Go Go.RowKit Go.Proofs
set_option linter.unusedVariables false
set_option linter.unusedSimpArgs false
structure En where
  k : Int
  t : Int
  y : Int
  w : Int
  deriving DecidableEq
def enV (e : En) : PV := .agg [.int .i64 e.k, .int .i64 e.t, .int .i64 e.y, .int .i64 e.w]
def inJ (n : Int) : Bool := decide (0 ≤ n ∧ n ≤ 10000)
def mayJ (e : En) : Bool := decide (1 ≤ e.k ∧ e.k ≤ 6) && (inJ e.t && (inJ e.y && inJ e.w))
theorem mayJ_iff {e : En} : mayJ e = true ↔ (1 ≤ e.k ∧ e.k ≤ 6) ∧ (0 ≤ e.t ∧ e.t ≤ 10000) ∧ (0 ≤ e.y ∧ e.y ≤ 10000) ∧ (0 ≤ e.w ∧ e.w ≤ 10000) := by
  simp [mayJ, inJ, and_assoc]
theorem in_ok (n : Int) : PSpec Try.prog 46 [.int .i64 n] (.bool (inJ n)) := by
  intro H
  refine spec_of t46 (by simp [p46]) ?_
  simp only [p46]
  first | refine pwp_sr ?_ | refine pwp_regionM ?_
  intro K hK
  simp (disch := first | (refine Ok.mk ?_; (try simp only [Lm, La, Lc, Ln, Lt, Ld, Lr, Li, true_or, or_true, true_and, and_true]); omega) | (simp <;> fail) | skip) [runM_nil]
  refine hK _ _ ?_
  clear hK K
  by_cases h1 : 0 ≤ n
  all_goals
    first | refine pwp_sr ?_ | refine pwp_regionM ?_
    intro K hK
    simp (disch := first | (refine Ok.mk ?_; (try simp only [Lm, La, Lc, Ln, Lt, Ld, Lr, Li, true_or, or_true, true_and, and_true]); omega) | (simp <;> fail) | skip) [runM_nil, h1]
    refine hK _ _ ?_
    clear hK K
    refine pwp_ret ⟨.inr rfl, _, _, (by simp (disch := first | (refine Ok.mk ?_; (try simp only [Lm, La, Lc, Ln, Lt, Ld, Lr, Li, true_or, or_true, true_and, and_true]); omega) | (simp <;> fail) | skip) [runM_nil, resL, inJ, h1]; rfl), .refl _, by simp (disch := first | (refine Ok.mk ?_; (try simp only [Lm, La, Lc, Ln, Lt, Ld, Lr, Li, true_or, or_true, true_and, and_true]); omega) | (simp <;> fail) | skip) [resV, inJ, h1], rfl⟩
theorem isNone_ok (n : Int) : PSpec Try.prog 44 [.int .i64 n] (.bool (!inJ n)) := by
  intro H
  refine spec_of t44 (by simp [p44]) ?_
  simp only [p44]
  first | refine pwp_sr ?_ | refine pwp_regionM ?_
  intro K hK
  simp (disch := first | (refine Ok.mk ?_; (try simp only [Lm, La, Lc, Ln, Lt, Ld, Lr, Li, true_or, or_true, true_and, and_true]); omega) | (simp <;> fail) | skip) [runM_nil]
  refine hK _ _ ?_
  clear hK K
  by_cases h1 : n < 0
  · have h2 : ¬ 0 ≤ n := by omega
    first | refine pwp_sr ?_ | refine pwp_regionM ?_
    intro K hK
    simp (disch := first | (refine Ok.mk ?_; (try simp only [Lm, La, Lc, Ln, Lt, Ld, Lr, Li, true_or, or_true, true_and, and_true]); omega) | (simp <;> fail) | skip) [runM_nil, h1]
    refine hK _ _ ?_
    clear hK K
    refine pwp_ret ⟨.inr rfl, _, _, (by simp (disch := first | (refine Ok.mk ?_; (try simp only [Lm, La, Lc, Ln, Lt, Ld, Lr, Li, true_or, or_true, true_and, and_true]); omega) | (simp <;> fail) | skip) [runM_nil, resL, inJ, h1, h2]; rfl), .refl _, by simp (disch := first | (refine Ok.mk ?_; (try simp only [Lm, La, Lc, Ln, Lt, Ld, Lr, Li, true_or, or_true, true_and, and_true]); omega) | (simp <;> fail) | skip) [resV, inJ, h1, h2], rfl⟩
  · have h2 : 0 ≤ n := by omega
    rcases (show n ≤ 10000 ∨ ¬ n ≤ 10000 by omega) with h3 | h3
    · first | refine pwp_sr ?_ | refine pwp_regionM ?_
      intro K hK
      simp (disch := first | (refine Ok.mk ?_; (try simp only [Lm, La, Lc, Ln, Lt, Ld, Lr, Li, true_or, or_true, true_and, and_true]); omega) | (simp <;> fail) | skip) [runM_nil, h1]
      refine hK _ _ ?_
      clear hK K
      refine pwp_ret ⟨.inr rfl, _, _, (by simp (disch := first | (refine Ok.mk ?_; (try simp only [Lm, La, Lc, Ln, Lt, Ld, Lr, Li, true_or, or_true, true_and, and_true]); omega) | (simp <;> fail) | skip) [runM_nil, resL, inJ, h1, h2, h3]; rfl), .refl _, by simp (disch := first | (refine Ok.mk ?_; (try simp only [Lm, La, Lc, Ln, Lt, Ld, Lr, Li, true_or, or_true, true_and, and_true]); omega) | (simp <;> fail) | skip) [resV, inJ, h1, h2, h3], rfl⟩
    · first | refine pwp_sr ?_ | refine pwp_regionM ?_
      intro K hK
      simp (disch := first | (refine Ok.mk ?_; (try simp only [Lm, La, Lc, Ln, Lt, Ld, Lr, Li, true_or, or_true, true_and, and_true]); omega) | (simp <;> fail) | skip) [runM_nil, h1]
      refine hK _ _ ?_
      clear hK K
      refine pwp_ret ⟨.inr rfl, _, _, (by simp (disch := first | (refine Ok.mk ?_; (try simp only [Lm, La, Lc, Ln, Lt, Ld, Lr, Li, true_or, or_true, true_and, and_true]); omega) | (simp <;> fail) | skip) [runM_nil, resL, inJ, h1, h2, h3]; rfl), .refl _, by simp (disch := first | (refine Ok.mk ?_; (try simp only [Lm, La, Lc, Ln, Lt, Ld, Lr, Li, true_or, or_true, true_and, and_true]); omega) | (simp <;> fail) | skip) [resV, inJ, h1, h2, h3], rfl⟩
theorem numbers_ok (e : En) : PSpec Try.prog 34 [enV e] (.lst 1 [.int .i64 e.t, .int .i64 e.y, .int .i64 e.w] true) := by
  intro H
  refine spec_of t34 (by simp [p34]) ?_
  simp only [p34]
  first | refine pwp_sr ?_ | refine pwp_regionM ?_
  intro K hK
  simp (disch := first | (refine Ok.mk ?_; (try simp only [Lm, La, Lc, Ln, Lt, Ld, Lr, Li, true_or, or_true, true_and, and_true]); omega) | (simp <;> fail) | skip) [runM_nil, enV]
  refine hK _ _ ?_
  clear hK K
  first | refine pwp_sr ?_ | refine pwp_regionM ?_
  intro K hK
  simp (disch := first | (refine Ok.mk ?_; (try simp only [Lm, La, Lc, Ln, Lt, Ld, Lr, Li, true_or, or_true, true_and, and_true]); omega) | (simp <;> fail) | skip) [runM_nil, enV]
  refine hK _ _ ?_
  clear hK K
  refine pwp_ret ⟨.inr rfl, _, _, (by simp (disch := first | (refine Ok.mk ?_; (try simp only [Lm, La, Lc, Ln, Lt, Ld, Lr, Li, true_or, or_true, true_and, and_true]); omega) | (simp <;> fail) | skip) [runM_nil, resL]; rfl), .refl _, by simp (disch := first | (refine Ok.mk ?_; (try simp only [Lm, La, Lc, Ln, Lt, Ld, Lr, Li, true_or, or_true, true_and, and_true]); omega) | (simp <;> fail) | skip) [resV], rfl⟩
theorem refMay_ok (e : En) : PSpec Try.prog 24 [enV e] (.bool (mayJ e)) := by
  intro H
  have c1 := in_ok e.t
  have c2 := in_ok e.y
  have c3 := in_ok e.w
  refine spec_of t24 (by simp [p24]) ?_
  simp only [p24]
  first | refine pwp_sr ?_ | refine pwp_regionM ?_
  intro K hK
  simp (disch := first | (refine Ok.mk ?_; (try simp only [Lm, La, Lc, Ln, Lt, Ld, Lr, Li, true_or, or_true, true_and, and_true]); omega) | (simp <;> fail) | skip) [runM_nil, enV]
  refine hK _ _ ?_
  clear hK K
  by_cases h1 : 1 ≤ e.k
  · by_cases h2 : e.k ≤ 6
    · cases h3 : inJ e.t with
      | false =>
        first | refine pwp_sr ?_ | refine pwp_regionM ?_
        intro K hK
        simp (disch := first | (refine Ok.mk ?_; (try simp only [Lm, La, Lc, Ln, Lt, Ld, Lr, Li, true_or, or_true, true_and, and_true]); omega) | (simp <;> fail) | skip) [runM_nil, h1, h2, enV, h3]
        refine useP (c1) ?_
        simp (disch := first | (refine Ok.mk ?_; (try simp only [Lm, La, Lc, Ln, Lt, Ld, Lr, Li, true_or, or_true, true_and, and_true]); omega) | (simp <;> fail) | skip) [runM_nil, h1, h2, enV, h3]
        refine hK _ _ ?_
        clear hK K
        refine pwp_ret ⟨.inr rfl, _, _, (by simp (disch := first | (refine Ok.mk ?_; (try simp only [Lm, La, Lc, Ln, Lt, Ld, Lr, Li, true_or, or_true, true_and, and_true]); omega) | (simp <;> fail) | skip) [runM_nil, resL, mayJ, h1, h2, h3]; rfl), .refl _, by simp (disch := first | (refine Ok.mk ?_; (try simp only [Lm, La, Lc, Ln, Lt, Ld, Lr, Li, true_or, or_true, true_and, and_true]); omega) | (simp <;> fail) | skip) [resV, mayJ, h1, h2, h3], rfl⟩
      | true =>
        cases h4 : inJ e.y with
        | false =>
          first | refine pwp_sr ?_ | refine pwp_regionM ?_
          intro K hK
          simp (disch := first | (refine Ok.mk ?_; (try simp only [Lm, La, Lc, Ln, Lt, Ld, Lr, Li, true_or, or_true, true_and, and_true]); omega) | (simp <;> fail) | skip) [runM_nil, h1, h2, enV, h3, h4]
          refine useP (c1) ?_
          simp (disch := first | (refine Ok.mk ?_; (try simp only [Lm, La, Lc, Ln, Lt, Ld, Lr, Li, true_or, or_true, true_and, and_true]); omega) | (simp <;> fail) | skip) [runM_nil, h1, h2, enV, h3, h4]
          refine useP (c2) ?_
          simp (disch := first | (refine Ok.mk ?_; (try simp only [Lm, La, Lc, Ln, Lt, Ld, Lr, Li, true_or, or_true, true_and, and_true]); omega) | (simp <;> fail) | skip) [runM_nil, h1, h2, enV, h3, h4]
          refine hK _ _ ?_
          clear hK K
          refine pwp_ret ⟨.inr rfl, _, _, (by simp (disch := first | (refine Ok.mk ?_; (try simp only [Lm, La, Lc, Ln, Lt, Ld, Lr, Li, true_or, or_true, true_and, and_true]); omega) | (simp <;> fail) | skip) [runM_nil, resL, mayJ, h1, h2, h3, h4]; rfl), .refl _, by simp (disch := first | (refine Ok.mk ?_; (try simp only [Lm, La, Lc, Ln, Lt, Ld, Lr, Li, true_or, or_true, true_and, and_true]); omega) | (simp <;> fail) | skip) [resV, mayJ, h1, h2, h3, h4], rfl⟩
        | true =>
          first | refine pwp_sr ?_ | refine pwp_regionM ?_
          intro K hK
          simp (disch := first | (refine Ok.mk ?_; (try simp only [Lm, La, Lc, Ln, Lt, Ld, Lr, Li, true_or, or_true, true_and, and_true]); omega) | (simp <;> fail) | skip) [runM_nil, h1, h2, enV, h3, h4]
          refine useP (c1) ?_
          simp (disch := first | (refine Ok.mk ?_; (try simp only [Lm, La, Lc, Ln, Lt, Ld, Lr, Li, true_or, or_true, true_and, and_true]); omega) | (simp <;> fail) | skip) [runM_nil, h1, h2, enV, h3, h4]
          refine useP (c2) ?_
          simp (disch := first | (refine Ok.mk ?_; (try simp only [Lm, La, Lc, Ln, Lt, Ld, Lr, Li, true_or, or_true, true_and, and_true]); omega) | (simp <;> fail) | skip) [runM_nil, h1, h2, enV, h3, h4]
          refine useP (c3) ?_
          simp (disch := first | (refine Ok.mk ?_; (try simp only [Lm, La, Lc, Ln, Lt, Ld, Lr, Li, true_or, or_true, true_and, and_true]); omega) | (simp <;> fail) | skip) [runM_nil, h1, h2, enV, h3, h4]
          refine hK _ _ ?_
          clear hK K
          refine pwp_ret ⟨.inr rfl, _, _, (by simp (disch := first | (refine Ok.mk ?_; (try simp only [Lm, La, Lc, Ln, Lt, Ld, Lr, Li, true_or, or_true, true_and, and_true]); omega) | (simp <;> fail) | skip) [runM_nil, resL, mayJ, h1, h2, h3, h4]; rfl), .refl _, by simp (disch := first | (refine Ok.mk ?_; (try simp only [Lm, La, Lc, Ln, Lt, Ld, Lr, Li, true_or, or_true, true_and, and_true]); omega) | (simp <;> fail) | skip) [resV, mayJ, h1, h2, h3, h4], rfl⟩
    · first | refine pwp_sr ?_ | refine pwp_regionM ?_
      intro K hK
      simp (disch := first | (refine Ok.mk ?_; (try simp only [Lm, La, Lc, Ln, Lt, Ld, Lr, Li, true_or, or_true, true_and, and_true]); omega) | (simp <;> fail) | skip) [runM_nil, h1, h2, enV]
      refine hK _ _ ?_
      clear hK K
      refine pwp_ret ⟨.inr rfl, _, _, (by simp (disch := first | (refine Ok.mk ?_; (try simp only [Lm, La, Lc, Ln, Lt, Ld, Lr, Li, true_or, or_true, true_and, and_true]); omega) | (simp <;> fail) | skip) [runM_nil, resL, mayJ, h1, h2]; rfl), .refl _, by simp (disch := first | (refine Ok.mk ?_; (try simp only [Lm, La, Lc, Ln, Lt, Ld, Lr, Li, true_or, or_true, true_and, and_true]); omega) | (simp <;> fail) | skip) [resV, mayJ, h1, h2], rfl⟩
  · first | refine pwp_sr ?_ | refine pwp_regionM ?_
    intro K hK
    simp (disch := first | (refine Ok.mk ?_; (try simp only [Lm, La, Lc, Ln, Lt, Ld, Lr, Li, true_or, or_true, true_and, and_true]); omega) | (simp <;> fail) | skip) [runM_nil, h1, enV]
    refine hK _ _ ?_
    clear hK K
    refine pwp_ret ⟨.inr rfl, _, _, (by simp (disch := first | (refine Ok.mk ?_; (try simp only [Lm, La, Lc, Ln, Lt, Ld, Lr, Li, true_or, or_true, true_and, and_true]); omega) | (simp <;> fail) | skip) [runM_nil, resL, mayJ, h1]; rfl), .refl _, by simp (disch := first | (refine Ok.mk ?_; (try simp only [Lm, La, Lc, Ln, Lt, Ld, Lr, Li, true_or, or_true, true_and, and_true]); omega) | (simp <;> fail) | skip) [resV, mayJ, h1], rfl⟩
def fnNone : PV := .fn (.func 44) [] []
theorem hasNone_ok (a b c : Int) {o : Bool} : PSpec Try.prog 45 [.lst 1 [.int .i64 a, .int .i64 b, .int .i64 c] o, fnNone] (.bool (!(inJ a && (inJ b && inJ c)))) := by
  intro H
  have hi : ∃ r : Int, decide (0 ≤ r) = (!(inJ a && (inJ b && inJ c))) ∧ PSpec Try.prog 64 [.lst 1 [.int .i64 a, .int .i64 b, .int .i64 c] false, fnNone] (.int .i64 r) := by
    refine ⟨if inJ a then (if inJ b then (if inJ c then -1 else 2) else 1) else 0, by cases inJ a <;> cases inJ b <;> cases inJ c <;> rfl, ?_⟩
    intro H
    refine spec_of t64 (by simp [p64]) ?_
    simp only [p64]
    first | refine pwp_sr ?_ | refine pwp_regionM ?_
    intro K hK
    simp (disch := first | (refine Ok.mk ?_; (try simp only [Lm, La, Lc, Ln, Lt, Ld, Lr, Li, true_or, or_true, true_and, and_true]); omega) | (simp <;> fail) | skip) [runM_nil, fnNone]
    refine hK _ _ ?_
    clear hK K
    refine pwp_seq (pwp_seq ?_)
    first | refine pwp_sr ?_ | refine pwp_regionM ?_
    intro K hK
    simp (disch := first | (refine Ok.mk ?_; (try simp only [Lm, La, Lc, Ln, Lt, Ld, Lr, Li, true_or, or_true, true_and, and_true]); omega) | (simp <;> fail) | skip) [runM_nil]
    refine hK _ _ ?_
    clear hK K
    refine pwp_block (pwp_rounds 4 (rnd ?_))
    first | refine pwp_sr ?_ | refine pwp_regionM ?_
    intro K hK
    simp (disch := first | (refine Ok.mk ?_; (try simp only [Lm, La, Lc, Ln, Lt, Ld, Lr, Li, true_or, or_true, true_and, and_true]); omega) | (simp <;> fail) | skip) [runM_nil]
    refine hK _ _ ?_
    clear hK K
    refine pwp_seq (pwp_cT (by simp) (pwp_skip ?_))
    refine pwp_seq (pwp_block ?_)
    first | refine pwp_sr ?_ | refine pwp_regionM ?_
    intro K hK
    simp (disch := first | (refine Ok.mk ?_; (try simp only [Lm, La, Lc, Ln, Lt, Ld, Lr, Li, true_or, or_true, true_and, and_true]); omega) | (simp <;> fail) | skip) [runM_nil]
    refine hK _ _ ?_
    clear hK K
    cases h1 : inJ a with
    | false =>
      first | refine pwp_rif ?_ | refine pwp_rifE ?_
      intro K hK
      simp (disch := first | (refine Ok.mk ?_; (try simp only [Lm, La, Lc, Ln, Lt, Ld, Lr, Li, true_or, or_true, true_and, and_true]); omega) | (simp <;> fail) | skip) [runM_nil, h1]
      refine useP (isNone_ok a) ?_
      simp (disch := first | (refine Ok.mk ?_; (try simp only [Lm, La, Lc, Ln, Lt, Ld, Lr, Li, true_or, or_true, true_and, and_true]); omega) | (simp <;> fail) | skip) [runM_nil, h1]
      refine hK _ _ ?_
      clear hK K
      refine ifT (by simp (disch := first | (refine Ok.mk ?_; (try simp only [Lm, La, Lc, Ln, Lt, Ld, Lr, Li, true_or, or_true, true_and, and_true]); omega) | (simp <;> fail) | skip) [runM_nil]) ?_
      first | refine pwp_sr ?_ | refine pwp_regionM ?_
      intro K hK
      simp (disch := first | (refine Ok.mk ?_; (try simp only [Lm, La, Lc, Ln, Lt, Ld, Lr, Li, true_or, or_true, true_and, and_true]); omega) | (simp <;> fail) | skip) [runM_nil]
      refine hK _ _ ?_
      clear hK K
      refine pwp_ret ⟨.inr rfl, _, _, (by simp (disch := first | (refine Ok.mk ?_; (try simp only [Lm, La, Lc, Ln, Lt, Ld, Lr, Li, true_or, or_true, true_and, and_true]); omega) | (simp <;> fail) | skip) [runM_nil, resL]; rfl), .refl _, by simp (disch := first | (refine Ok.mk ?_; (try simp only [Lm, La, Lc, Ln, Lt, Ld, Lr, Li, true_or, or_true, true_and, and_true]); omega) | (simp <;> fail) | skip) [resV], rfl⟩
    | true =>
    first | refine pwp_rif ?_ | refine pwp_rifE ?_
    intro K hK
    simp (disch := first | (refine Ok.mk ?_; (try simp only [Lm, La, Lc, Ln, Lt, Ld, Lr, Li, true_or, or_true, true_and, and_true]); omega) | (simp <;> fail) | skip) [runM_nil, h1]
    refine useP (isNone_ok a) ?_
    simp (disch := first | (refine Ok.mk ?_; (try simp only [Lm, La, Lc, Ln, Lt, Ld, Lr, Li, true_or, or_true, true_and, and_true]); omega) | (simp <;> fail) | skip) [runM_nil, h1]
    refine hK _ _ ?_
    clear hK K
    refine ifF (by simp (disch := first | (refine Ok.mk ?_; (try simp only [Lm, La, Lc, Ln, Lt, Ld, Lr, Li, true_or, or_true, true_and, and_true]); omega) | (simp <;> fail) | skip) [runM_nil]) (pwp_skip ?_)
    first | refine pwp_sr ?_ | refine pwp_regionM ?_
    intro K hK
    simp (disch := first | (refine Ok.mk ?_; (try simp only [Lm, La, Lc, Ln, Lt, Ld, Lr, Li, true_or, or_true, true_and, and_true]); omega) | (simp <;> fail) | skip) [runM_nil]
    refine hK _ _ ?_
    clear hK K
    refine rnd ?_
    first | refine pwp_sr ?_ | refine pwp_regionM ?_
    intro K hK
    simp (disch := first | (refine Ok.mk ?_; (try simp only [Lm, La, Lc, Ln, Lt, Ld, Lr, Li, true_or, or_true, true_and, and_true]); omega) | (simp <;> fail) | skip) [runM_nil]
    refine hK _ _ ?_
    clear hK K
    refine pwp_seq (pwp_cT (by simp) (pwp_skip ?_))
    refine pwp_seq (pwp_block ?_)
    first | refine pwp_sr ?_ | refine pwp_regionM ?_
    intro K hK
    simp (disch := first | (refine Ok.mk ?_; (try simp only [Lm, La, Lc, Ln, Lt, Ld, Lr, Li, true_or, or_true, true_and, and_true]); omega) | (simp <;> fail) | skip) [runM_nil]
    refine hK _ _ ?_
    clear hK K
    cases h2 : inJ b with
    | false =>
      first | refine pwp_rif ?_ | refine pwp_rifE ?_
      intro K hK
      simp (disch := first | (refine Ok.mk ?_; (try simp only [Lm, La, Lc, Ln, Lt, Ld, Lr, Li, true_or, or_true, true_and, and_true]); omega) | (simp <;> fail) | skip) [runM_nil, h2]
      refine useP (isNone_ok b) ?_
      simp (disch := first | (refine Ok.mk ?_; (try simp only [Lm, La, Lc, Ln, Lt, Ld, Lr, Li, true_or, or_true, true_and, and_true]); omega) | (simp <;> fail) | skip) [runM_nil, h2]
      refine hK _ _ ?_
      clear hK K
      refine ifT (by simp (disch := first | (refine Ok.mk ?_; (try simp only [Lm, La, Lc, Ln, Lt, Ld, Lr, Li, true_or, or_true, true_and, and_true]); omega) | (simp <;> fail) | skip) [runM_nil]) ?_
      first | refine pwp_sr ?_ | refine pwp_regionM ?_
      intro K hK
      simp (disch := first | (refine Ok.mk ?_; (try simp only [Lm, La, Lc, Ln, Lt, Ld, Lr, Li, true_or, or_true, true_and, and_true]); omega) | (simp <;> fail) | skip) [runM_nil]
      refine hK _ _ ?_
      clear hK K
      refine pwp_ret ⟨.inr rfl, _, _, (by simp (disch := first | (refine Ok.mk ?_; (try simp only [Lm, La, Lc, Ln, Lt, Ld, Lr, Li, true_or, or_true, true_and, and_true]); omega) | (simp <;> fail) | skip) [runM_nil, resL]; rfl), .refl _, by simp (disch := first | (refine Ok.mk ?_; (try simp only [Lm, La, Lc, Ln, Lt, Ld, Lr, Li, true_or, or_true, true_and, and_true]); omega) | (simp <;> fail) | skip) [resV], rfl⟩
    | true =>
    first | refine pwp_rif ?_ | refine pwp_rifE ?_
    intro K hK
    simp (disch := first | (refine Ok.mk ?_; (try simp only [Lm, La, Lc, Ln, Lt, Ld, Lr, Li, true_or, or_true, true_and, and_true]); omega) | (simp <;> fail) | skip) [runM_nil, h2]
    refine useP (isNone_ok b) ?_
    simp (disch := first | (refine Ok.mk ?_; (try simp only [Lm, La, Lc, Ln, Lt, Ld, Lr, Li, true_or, or_true, true_and, and_true]); omega) | (simp <;> fail) | skip) [runM_nil, h2]
    refine hK _ _ ?_
    clear hK K
    refine ifF (by simp (disch := first | (refine Ok.mk ?_; (try simp only [Lm, La, Lc, Ln, Lt, Ld, Lr, Li, true_or, or_true, true_and, and_true]); omega) | (simp <;> fail) | skip) [runM_nil]) (pwp_skip ?_)
    first | refine pwp_sr ?_ | refine pwp_regionM ?_
    intro K hK
    simp (disch := first | (refine Ok.mk ?_; (try simp only [Lm, La, Lc, Ln, Lt, Ld, Lr, Li, true_or, or_true, true_and, and_true]); omega) | (simp <;> fail) | skip) [runM_nil]
    refine hK _ _ ?_
    clear hK K
    refine rnd ?_
    first | refine pwp_sr ?_ | refine pwp_regionM ?_
    intro K hK
    simp (disch := first | (refine Ok.mk ?_; (try simp only [Lm, La, Lc, Ln, Lt, Ld, Lr, Li, true_or, or_true, true_and, and_true]); omega) | (simp <;> fail) | skip) [runM_nil]
    refine hK _ _ ?_
    clear hK K
    refine pwp_seq (pwp_cT (by simp) (pwp_skip ?_))
    refine pwp_seq (pwp_block ?_)
    first | refine pwp_sr ?_ | refine pwp_regionM ?_
    intro K hK
    simp (disch := first | (refine Ok.mk ?_; (try simp only [Lm, La, Lc, Ln, Lt, Ld, Lr, Li, true_or, or_true, true_and, and_true]); omega) | (simp <;> fail) | skip) [runM_nil]
    refine hK _ _ ?_
    clear hK K
    cases h3 : inJ c with
    | false =>
      first | refine pwp_rif ?_ | refine pwp_rifE ?_
      intro K hK
      simp (disch := first | (refine Ok.mk ?_; (try simp only [Lm, La, Lc, Ln, Lt, Ld, Lr, Li, true_or, or_true, true_and, and_true]); omega) | (simp <;> fail) | skip) [runM_nil, h3]
      refine useP (isNone_ok c) ?_
      simp (disch := first | (refine Ok.mk ?_; (try simp only [Lm, La, Lc, Ln, Lt, Ld, Lr, Li, true_or, or_true, true_and, and_true]); omega) | (simp <;> fail) | skip) [runM_nil, h3]
      refine hK _ _ ?_
      clear hK K
      refine ifT (by simp (disch := first | (refine Ok.mk ?_; (try simp only [Lm, La, Lc, Ln, Lt, Ld, Lr, Li, true_or, or_true, true_and, and_true]); omega) | (simp <;> fail) | skip) [runM_nil]) ?_
      first | refine pwp_sr ?_ | refine pwp_regionM ?_
      intro K hK
      simp (disch := first | (refine Ok.mk ?_; (try simp only [Lm, La, Lc, Ln, Lt, Ld, Lr, Li, true_or, or_true, true_and, and_true]); omega) | (simp <;> fail) | skip) [runM_nil]
      refine hK _ _ ?_
      clear hK K
      refine pwp_ret ⟨.inr rfl, _, _, (by simp (disch := first | (refine Ok.mk ?_; (try simp only [Lm, La, Lc, Ln, Lt, Ld, Lr, Li, true_or, or_true, true_and, and_true]); omega) | (simp <;> fail) | skip) [runM_nil, resL]; rfl), .refl _, by simp (disch := first | (refine Ok.mk ?_; (try simp only [Lm, La, Lc, Ln, Lt, Ld, Lr, Li, true_or, or_true, true_and, and_true]); omega) | (simp <;> fail) | skip) [resV], rfl⟩
    | true =>
    first | refine pwp_rif ?_ | refine pwp_rifE ?_
    intro K hK
    simp (disch := first | (refine Ok.mk ?_; (try simp only [Lm, La, Lc, Ln, Lt, Ld, Lr, Li, true_or, or_true, true_and, and_true]); omega) | (simp <;> fail) | skip) [runM_nil, h3]
    refine useP (isNone_ok c) ?_
    simp (disch := first | (refine Ok.mk ?_; (try simp only [Lm, La, Lc, Ln, Lt, Ld, Lr, Li, true_or, or_true, true_and, and_true]); omega) | (simp <;> fail) | skip) [runM_nil, h3]
    refine hK _ _ ?_
    clear hK K
    refine ifF (by simp (disch := first | (refine Ok.mk ?_; (try simp only [Lm, La, Lc, Ln, Lt, Ld, Lr, Li, true_or, or_true, true_and, and_true]); omega) | (simp <;> fail) | skip) [runM_nil]) (pwp_skip ?_)
    first | refine pwp_sr ?_ | refine pwp_regionM ?_
    intro K hK
    simp (disch := first | (refine Ok.mk ?_; (try simp only [Lm, La, Lc, Ln, Lt, Ld, Lr, Li, true_or, or_true, true_and, and_true]); omega) | (simp <;> fail) | skip) [runM_nil]
    refine hK _ _ ?_
    clear hK K
    refine rnd ?_
    first | refine pwp_sr ?_ | refine pwp_regionM ?_
    intro K hK
    simp (disch := first | (refine Ok.mk ?_; (try simp only [Lm, La, Lc, Ln, Lt, Ld, Lr, Li, true_or, or_true, true_and, and_true]); omega) | (simp <;> fail) | skip) [runM_nil]
    refine hK _ _ ?_
    clear hK K
    refine pwp_seq (pwp_cF (by simp) (pwp_exit ?_))
    first | refine pwp_sr ?_ | refine pwp_regionM ?_
    intro K hK
    simp (disch := first | (refine Ok.mk ?_; (try simp only [Lm, La, Lc, Ln, Lt, Ld, Lr, Li, true_or, or_true, true_and, and_true]); omega) | (simp <;> fail) | skip) [runM_nil]
    refine hK _ _ ?_
    clear hK K
    refine pwp_ret ⟨.inr rfl, _, _, (by simp (disch := first | (refine Ok.mk ?_; (try simp only [Lm, La, Lc, Ln, Lt, Ld, Lr, Li, true_or, or_true, true_and, and_true]); omega) | (simp <;> fail) | skip) [runM_nil, resL]; rfl), .refl _, by simp (disch := first | (refine Ok.mk ?_; (try simp only [Lm, La, Lc, Ln, Lt, Ld, Lr, Li, true_or, or_true, true_and, and_true]); omega) | (simp <;> fail) | skip) [resV], rfl⟩
  obtain ⟨r, hr, ci⟩ := hi
  simp only [fnNone] at ci
  refine spec_of t45 (by simp [p45]) ?_
  simp only [p45]
  first | refine pwp_sr ?_ | refine pwp_regionM ?_
  intro K hK
  simp (disch := first | (refine Ok.mk ?_; (try simp only [Lm, La, Lc, Ln, Lt, Ld, Lr, Li, true_or, or_true, true_and, and_true]); omega) | (simp <;> fail) | skip) [runM_nil]
  refine hK _ _ ?_
  clear hK K
  first | refine pwp_sr ?_ | refine pwp_regionM ?_
  intro K hK
  simp (disch := first | (refine Ok.mk ?_; (try simp only [Lm, La, Lc, Ln, Lt, Ld, Lr, Li, true_or, or_true, true_and, and_true]); omega) | (simp <;> fail) | skip) [runM_nil, fnNone]
  refine useP (ci) ?_
  simp (disch := first | (refine Ok.mk ?_; (try simp only [Lm, La, Lc, Ln, Lt, Ld, Lr, Li, true_or, or_true, true_and, and_true]); omega) | (simp <;> fail) | skip) [runM_nil, fnNone]
  refine hK _ _ ?_
  clear hK K
  refine pwp_ret ⟨.inr rfl, _, _, (by simp (disch := first | (refine Ok.mk ?_; (try simp only [Lm, La, Lc, Ln, Lt, Ld, Lr, Li, true_or, or_true, true_and, and_true]); omega) | (simp <;> fail) | skip) [runM_nil, resL, hr]; rfl), .refl _, by simp (disch := first | (refine Ok.mk ?_; (try simp only [Lm, La, Lc, Ln, Lt, Ld, Lr, Li, true_or, or_true, true_and, and_true]); omega) | (simp <;> fail) | skip) [resV, hr], rfl⟩
theorem may_ok (e : En) : PSpec Try.prog 23 [enV e] (.bool (mayJ e)) := by
  intro H
  have c1 := numbers_ok e
  have c2 := hasNone_ok e.t e.y e.w (o := false)
  simp only [enV, fnNone] at c1 c2
  refine spec_of t23 (by simp [p23]) ?_
  simp only [p23]
  first | refine pwp_sr ?_ | refine pwp_regionM ?_
  intro K hK
  simp (disch := first | (refine Ok.mk ?_; (try simp only [Lm, La, Lc, Ln, Lt, Ld, Lr, Li, true_or, or_true, true_and, and_true]); omega) | (simp <;> fail) | skip) [runM_nil, enV]
  refine hK _ _ ?_
  clear hK K
  first | refine pwp_sr ?_ | refine pwp_regionM ?_
  intro K hK
  simp (disch := first | (refine Ok.mk ?_; (try simp only [Lm, La, Lc, Ln, Lt, Ld, Lr, Li, true_or, or_true, true_and, and_true]); omega) | (simp <;> fail) | skip) [runM_nil]
  refine hK _ _ ?_
  clear hK K
  by_cases h1 : 1 ≤ e.k
  · by_cases h2 : e.k ≤ 6
    · first | refine pwp_sr ?_ | refine pwp_regionM ?_
      intro K hK
      simp (disch := first | (refine Ok.mk ?_; (try simp only [Lm, La, Lc, Ln, Lt, Ld, Lr, Li, true_or, or_true, true_and, and_true]); omega) | (simp <;> fail) | skip) [runM_nil, h1, h2, enV]
      refine useP (c1) ?_
      simp (disch := first | (refine Ok.mk ?_; (try simp only [Lm, La, Lc, Ln, Lt, Ld, Lr, Li, true_or, or_true, true_and, and_true]); omega) | (simp <;> fail) | skip) [runM_nil, h1, h2, enV]
      refine useP (c2) ?_
      simp (disch := first | (refine Ok.mk ?_; (try simp only [Lm, La, Lc, Ln, Lt, Ld, Lr, Li, true_or, or_true, true_and, and_true]); omega) | (simp <;> fail) | skip) [runM_nil, h1, h2, enV]
      refine hK _ _ ?_
      clear hK K
      refine pwp_ret ⟨.inr rfl, _, _, (by simp (disch := first | (refine Ok.mk ?_; (try simp only [Lm, La, Lc, Ln, Lt, Ld, Lr, Li, true_or, or_true, true_and, and_true]); omega) | (simp <;> fail) | skip) [runM_nil, resL, mayJ, h1, h2]; rfl), .refl _, by simp (disch := first | (refine Ok.mk ?_; (try simp only [Lm, La, Lc, Ln, Lt, Ld, Lr, Li, true_or, or_true, true_and, and_true]); omega) | (simp <;> fail) | skip) [resV, mayJ, h1, h2], rfl⟩
    · first | refine pwp_sr ?_ | refine pwp_regionM ?_
      intro K hK
      simp (disch := first | (refine Ok.mk ?_; (try simp only [Lm, La, Lc, Ln, Lt, Ld, Lr, Li, true_or, or_true, true_and, and_true]); omega) | (simp <;> fail) | skip) [runM_nil, h1, h2, enV]
      refine hK _ _ ?_
      clear hK K
      refine pwp_ret ⟨.inr rfl, _, _, (by simp (disch := first | (refine Ok.mk ?_; (try simp only [Lm, La, Lc, Ln, Lt, Ld, Lr, Li, true_or, or_true, true_and, and_true]); omega) | (simp <;> fail) | skip) [runM_nil, resL, mayJ, h1, h2]; rfl), .refl _, by simp (disch := first | (refine Ok.mk ?_; (try simp only [Lm, La, Lc, Ln, Lt, Ld, Lr, Li, true_or, or_true, true_and, and_true]); omega) | (simp <;> fail) | skip) [resV, mayJ, h1, h2], rfl⟩
  · first | refine pwp_sr ?_ | refine pwp_regionM ?_
    intro K hK
    simp (disch := first | (refine Ok.mk ?_; (try simp only [Lm, La, Lc, Ln, Lt, Ld, Lr, Li, true_or, or_true, true_and, and_true]); omega) | (simp <;> fail) | skip) [runM_nil, h1, enV]
    refine hK _ _ ?_
    clear hK K
    refine pwp_ret ⟨.inr rfl, _, _, (by simp (disch := first | (refine Ok.mk ?_; (try simp only [Lm, La, Lc, Ln, Lt, Ld, Lr, Li, true_or, or_true, true_and, and_true]); omega) | (simp <;> fail) | skip) [runM_nil, resL, mayJ, h1]; rfl), .refl _, by simp (disch := first | (refine Ok.mk ?_; (try simp only [Lm, La, Lc, Ln, Lt, Ld, Lr, Li, true_or, or_true, true_and, and_true]); omega) | (simp <;> fail) | skip) [resV, mayJ, h1], rfl⟩
end Go.Proofs.Ytibmolekndeofaa.E
/- Entries of a journal as bytes. -/
namespace Go.Proofs.Ytibmolekndeofaa.E
open Go Go.RowKit Go.Proofs
set_option linter.unusedVariables false
set_option linter.unusedSimpArgs false
def bodyJ (e : En) : List Nat := [e.k.toNat] ++ vb e.t.toNat ++ vb e.y.toNat ++ vb e.w.toNat
def zJ (e : En) : List Nat := sealed tbl (bodyJ e)
def encJ (e : En) : List Nat := vb (zJ e).length ++ zJ e
def putJ (b : List Nat) (e : En) : List Nat × Nat := if mayJ e = true then (b ++ encJ e, 0) else ([], 1)
theorem may_nats {e : En} (h : mayJ e = true) : ∃ k t y w : Nat, e = ⟨k, t, y, w⟩ ∧ (1 ≤ k ∧ k ≤ 6) ∧ t ≤ 10000 ∧ y ≤ 10000 ∧ w ≤ 10000 := by
  obtain ⟨h1, h2, h3, h4⟩ := mayJ_iff.1 h
  obtain ⟨k, t, y, w⟩ := e
  simp only at h1 h2 h3 h4
  exact ⟨k.toNat, t.toNat, y.toNat, w.toNat, by simp only [En.mk.injEq]; omega, by omega, by omega, by omega, by omega⟩
theorem bodyJ_wf {e : En} (h : mayJ e = true) : (∀ x ∈ bodyJ e, x < 256) ∧ (bodyJ e).length ≤ 31 := by
  obtain ⟨k, t, y, w, rfl, h1, h2, h3, h4⟩ := may_nats h
  have l1 := vb_length_le10 (n := t) (by omega)
  have l2 := vb_length_le10 (n := y) (by omega)
  have l3 := vb_length_le10 (n := w) (by omega)
  simp only [bodyJ, Int.toNat_natCast]
  refine ⟨fun x hx => ?_, by simp only [La, Lc, Ln]; omega⟩
  simp only [List.mem_append, List.mem_singleton] at hx
  rcases hx with ((rfl | hx) | hx) | hx
  · omega
  · exact vb_lt _ x hx
  · exact vb_lt _ x hx
  · exact vb_lt _ x hx
theorem zJ_wf {e : En} (h : mayJ e = true) : (∀ x ∈ zJ e, x < 256) ∧ (zJ e).length ≤ 35 := by
  obtain ⟨h1, h2⟩ := bodyJ_wf h
  refine ⟨sealed_lt tbl h1, ?_⟩
  rw [zJ, sealed_length]
  omega
set_option maxRecDepth 8000 in
set_option maxHeartbeats 16000000 in
theorem put_ok26 {s : Nat} {xs : List PV} {o : Bool} {b : List Nat} (hx : xs = b.map u8) (hs : s = 1 ∨ b.length = 0) (hl : b.length ≤ 10000000000000) (e : En) :
    PSpec Try.prog 15 [.lst s xs o, enV e] (.tup [bV (putJ b e).1 true, .int .i64 ((putJ b e).2 : Nat)]) := by
  intro H
  have cm := may_ok e
  have cn := numbers_ok e
  refine spec_ofU t15 (by simp [p15]) ?_
  simp only [p15]
  first | refine pwp_sr ?_ | refine pwp_regionM ?_
  intro K hK
  simp (disch := first | (refine Ok.mk ?_; (try simp only [Lm, La, Lc, Ln, Lt, Ld, Lr, Li, true_or, or_true, true_and, and_true]); omega) | (simp <;> fail) | skip) [runM_nil, enV]
  refine hK _ _ ?_
  clear hK K
  simp only [enV] at cm cn
  cases hm : mayJ e with
  | false =>
    have ep : putJ b e = ([], 1) := by simp [putJ, hm]
    rw [ep]
    first | refine pwp_rif ?_ | refine pwp_rifE ?_
    intro K hK
    simp (disch := first | (refine Ok.mk ?_; (try simp only [Lm, La, Lc, Ln, Lt, Ld, Lr, Li, true_or, or_true, true_and, and_true]); omega) | (simp <;> fail) | skip) [runM_nil, hm]
    refine useP (cm) ?_
    simp (disch := first | (refine Ok.mk ?_; (try simp only [Lm, La, Lc, Ln, Lt, Ld, Lr, Li, true_or, or_true, true_and, and_true]); omega) | (simp <;> fail) | skip) [runM_nil, hm]
    refine hK _ _ ?_
    clear hK K
    refine ifT (by simp (disch := first | (refine Ok.mk ?_; (try simp only [Lm, La, Lc, Ln, Lt, Ld, Lr, Li, true_or, or_true, true_and, and_true]); omega) | (simp <;> fail) | skip) [runM_nil]) ?_
    first | refine pwp_sr ?_ | refine pwp_regionM ?_
    intro K hK
    simp (disch := first | (refine Ok.mk ?_; (try simp only [Lm, La, Lc, Ln, Lt, Ld, Lr, Li, true_or, or_true, true_and, and_true]); omega) | (simp <;> fail) | skip) [runM_nil]
    refine hK _ _ ?_
    clear hK K
    refine pwp_ret ⟨.inr rfl, _, _, _, (by simp (disch := first | (refine Ok.mk ?_; (try simp only [Lm, La, Lc, Ln, Lt, Ld, Lr, Li, true_or, or_true, true_and, and_true]); omega) | (simp <;> fail) | skip) [runM_nil, resL]; rfl), .refl _, (by simp (disch := first | (refine Ok.mk ?_; (try simp only [Lm, La, Lc, Ln, Lt, Ld, Lr, Li, true_or, or_true, true_and, and_true]); omega) | (simp <;> fail) | skip) [resV]), rfl, rfl⟩
  | true =>
    have ep : putJ b e = (b ++ encJ e, 0) := by simp [putJ, hm]
    rw [ep]
    obtain ⟨hzw, hzl⟩ := zJ_wf hm
    obtain ⟨hbw, hbl⟩ := bodyJ_wf hm
    have hen : encJ e = vb (zJ e).length ++ zJ e := rfl
    have hzd : zJ e = sealed tbl (bodyJ e) := rfl
    obtain ⟨k, t, y, w, rfl, h1, h2, h3, h4⟩ := may_nats hm
    have l1 := vb_length_le10 (n := t) (by omega)
    have l2 := vb_length_le10 (n := y) (by omega)
    have l3 := vb_length_le10 (n := w) (by omega)
    have hbd : bodyJ ⟨k, t, y, w⟩ = [k] ++ vb t ++ vb y ++ vb w := by simp only [bodyJ, Int.toNat_natCast]
    generalize zJ ⟨k, t, y, w⟩ = z at *
    have c1 := put_ok (s := 1) (xs := [.int .u8 k]) (o := false) (b := [k]) rfl (.inl rfl) t (by omega) (by simp)
    have c2 := put_ok (s := 1) (xs := ([k] ++ vb t).map u8) (o := false) rfl (.inl rfl) y (by omega) (by simp only [La, Lc, Ln]; omega)
    have c3 := put_ok (s := 1) (xs := ([k] ++ vb t ++ vb y).map u8) (o := false) rfl (.inl rfl) w (by omega) (by simp only [La, Lc, Ln]; omega)
    have cs := seal_ok tbl_length tbl_lt (ot := false) (s := 1) (xs := ([k] ++ vb t ++ vb y ++ vb w).map u8) (o := false) (b := bodyJ ⟨k, t, y, w⟩) (by rw [hbd]) (.inl rfl) hbw (by omega)
    rw [← hzd] at cs
    simp at c1 c2 c3 cs
    have cv := cvS_u8 (s := 1) (o := false) (l := z) rfl (.inl rfl) hzw
    have cf := frame_ok (o := false) hx hs z (by omega)
    simp at cv cf
    first | refine pwp_rif ?_ | refine pwp_rifE ?_
    intro K hK
    simp (disch := first | (refine Ok.mk ?_; (try simp only [Lm, La, Lc, Ln, Lt, Ld, Lr, Li, true_or, or_true, true_and, and_true]); omega) | (simp <;> fail) | skip) [runM_nil, hm]
    refine useP (cm) ?_
    simp (disch := first | (refine Ok.mk ?_; (try simp only [Lm, La, Lc, Ln, Lt, Ld, Lr, Li, true_or, or_true, true_and, and_true]); omega) | (simp <;> fail) | skip) [runM_nil, hm]
    refine hK _ _ ?_
    clear hK K
    refine ifF (by simp (disch := first | (refine Ok.mk ?_; (try simp only [Lm, La, Lc, Ln, Lt, Ld, Lr, Li, true_or, or_true, true_and, and_true]); omega) | (simp <;> fail) | skip) [runM_nil]) (pwp_skip ?_)
    first | refine pwp_sr ?_ | refine pwp_regionM ?_
    intro K hK
    simp (disch := first | (refine Ok.mk ?_; (try simp only [Lm, La, Lc, Ln, Lt, Ld, Lr, Li, true_or, or_true, true_and, and_true]); omega) | (simp <;> fail) | skip) [runM_nil]
    refine hK _ _ ?_
    clear hK K
    refine pwp_seq (pwp_seq ?_)
    first | refine pwp_sr ?_ | refine pwp_regionM ?_
    intro K hK
    simp (disch := first | (refine Ok.mk ?_; (try simp only [Lm, La, Lc, Ln, Lt, Ld, Lr, Li, true_or, or_true, true_and, and_true]); omega) | (simp <;> fail) | skip) [runM_nil]
    refine useP (cn) ?_
    simp (disch := first | (refine Ok.mk ?_; (try simp only [Lm, La, Lc, Ln, Lt, Ld, Lr, Li, true_or, or_true, true_and, and_true]); omega) | (simp <;> fail) | skip) [runM_nil]
    refine hK _ _ ?_
    clear hK K
    refine pwp_block (pwp_rounds 4 (rnd ?_))
    first | refine pwp_sr ?_ | refine pwp_regionM ?_
    intro K hK
    simp (disch := first | (refine Ok.mk ?_; (try simp only [Lm, La, Lc, Ln, Lt, Ld, Lr, Li, true_or, or_true, true_and, and_true]); omega) | (simp <;> fail) | skip) [runM_nil]
    refine hK _ _ ?_
    clear hK K
    refine pwp_seq (pwp_cT (by simp) (pwp_skip ?_))
    refine pwp_seq (pwp_block ?_)
    first | refine pwp_sr ?_ | refine pwp_regionM ?_
    intro K hK
    simp (disch := first | (refine Ok.mk ?_; (try simp only [Lm, La, Lc, Ln, Lt, Ld, Lr, Li, true_or, or_true, true_and, and_true]); omega) | (simp <;> fail) | skip) [runM_nil]
    refine hK _ _ ?_
    clear hK K
    first | refine pwp_sr ?_ | refine pwp_regionM ?_
    intro K hK
    simp (disch := first | (refine Ok.mk ?_; (try simp only [Lm, La, Lc, Ln, Lt, Ld, Lr, Li, true_or, or_true, true_and, and_true]); omega) | (simp <;> fail) | skip) [runM_nil]
    refine useP (c1) ?_
    simp (disch := first | (refine Ok.mk ?_; (try simp only [Lm, La, Lc, Ln, Lt, Ld, Lr, Li, true_or, or_true, true_and, and_true]); omega) | (simp <;> fail) | skip) [runM_nil]
    refine hK _ _ ?_
    clear hK K
    first | refine pwp_sr ?_ | refine pwp_regionM ?_
    intro K hK
    simp (disch := first | (refine Ok.mk ?_; (try simp only [Lm, La, Lc, Ln, Lt, Ld, Lr, Li, true_or, or_true, true_and, and_true]); omega) | (simp <;> fail) | skip) [runM_nil]
    refine hK _ _ ?_
    clear hK K
    refine rnd ?_
    first | refine pwp_sr ?_ | refine pwp_regionM ?_
    intro K hK
    simp (disch := first | (refine Ok.mk ?_; (try simp only [Lm, La, Lc, Ln, Lt, Ld, Lr, Li, true_or, or_true, true_and, and_true]); omega) | (simp <;> fail) | skip) [runM_nil]
    refine hK _ _ ?_
    clear hK K
    refine pwp_seq (pwp_cT (by simp) (pwp_skip ?_))
    refine pwp_seq (pwp_block ?_)
    first | refine pwp_sr ?_ | refine pwp_regionM ?_
    intro K hK
    simp (disch := first | (refine Ok.mk ?_; (try simp only [Lm, La, Lc, Ln, Lt, Ld, Lr, Li, true_or, or_true, true_and, and_true]); omega) | (simp <;> fail) | skip) [runM_nil]
    refine hK _ _ ?_
    clear hK K
    first | refine pwp_sr ?_ | refine pwp_regionM ?_
    intro K hK
    simp (disch := first | (refine Ok.mk ?_; (try simp only [Lm, La, Lc, Ln, Lt, Ld, Lr, Li, true_or, or_true, true_and, and_true]); omega) | (simp <;> fail) | skip) [runM_nil]
    refine useP (c2) ?_
    simp (disch := first | (refine Ok.mk ?_; (try simp only [Lm, La, Lc, Ln, Lt, Ld, Lr, Li, true_or, or_true, true_and, and_true]); omega) | (simp <;> fail) | skip) [runM_nil]
    refine hK _ _ ?_
    clear hK K
    first | refine pwp_sr ?_ | refine pwp_regionM ?_
    intro K hK
    simp (disch := first | (refine Ok.mk ?_; (try simp only [Lm, La, Lc, Ln, Lt, Ld, Lr, Li, true_or, or_true, true_and, and_true]); omega) | (simp <;> fail) | skip) [runM_nil]
    refine hK _ _ ?_
    clear hK K
    refine rnd ?_
    first | refine pwp_sr ?_ | refine pwp_regionM ?_
    intro K hK
    simp (disch := first | (refine Ok.mk ?_; (try simp only [Lm, La, Lc, Ln, Lt, Ld, Lr, Li, true_or, or_true, true_and, and_true]); omega) | (simp <;> fail) | skip) [runM_nil]
    refine hK _ _ ?_
    clear hK K
    refine pwp_seq (pwp_cT (by simp) (pwp_skip ?_))
    refine pwp_seq (pwp_block ?_)
    first | refine pwp_sr ?_ | refine pwp_regionM ?_
    intro K hK
    simp (disch := first | (refine Ok.mk ?_; (try simp only [Lm, La, Lc, Ln, Lt, Ld, Lr, Li, true_or, or_true, true_and, and_true]); omega) | (simp <;> fail) | skip) [runM_nil]
    refine hK _ _ ?_
    clear hK K
    first | refine pwp_sr ?_ | refine pwp_regionM ?_
    intro K hK
    simp (disch := first | (refine Ok.mk ?_; (try simp only [Lm, La, Lc, Ln, Lt, Ld, Lr, Li, true_or, or_true, true_and, and_true]); omega) | (simp <;> fail) | skip) [runM_nil]
    refine useP (c3) ?_
    simp (disch := first | (refine Ok.mk ?_; (try simp only [Lm, La, Lc, Ln, Lt, Ld, Lr, Li, true_or, or_true, true_and, and_true]); omega) | (simp <;> fail) | skip) [runM_nil]
    refine hK _ _ ?_
    clear hK K
    first | refine pwp_sr ?_ | refine pwp_regionM ?_
    intro K hK
    simp (disch := first | (refine Ok.mk ?_; (try simp only [Lm, La, Lc, Ln, Lt, Ld, Lr, Li, true_or, or_true, true_and, and_true]); omega) | (simp <;> fail) | skip) [runM_nil]
    refine hK _ _ ?_
    clear hK K
    refine rnd ?_
    first | refine pwp_sr ?_ | refine pwp_regionM ?_
    intro K hK
    simp (disch := first | (refine Ok.mk ?_; (try simp only [Lm, La, Lc, Ln, Lt, Ld, Lr, Li, true_or, or_true, true_and, and_true]); omega) | (simp <;> fail) | skip) [runM_nil]
    refine hK _ _ ?_
    clear hK K
    refine pwp_seq (pwp_cF (by simp) (pwp_exit ?_))
    first | refine pwp_sr ?_ | refine pwp_regionM ?_
    intro K hK
    simp (disch := first | (refine Ok.mk ?_; (try simp only [Lm, La, Lc, Ln, Lt, Ld, Lr, Li, true_or, or_true, true_and, and_true]); omega) | (simp <;> fail) | skip) [runM_nil]
    refine useP (table_ok) ?_
    simp (disch := first | (refine Ok.mk ?_; (try simp only [Lm, La, Lc, Ln, Lt, Ld, Lr, Li, true_or, or_true, true_and, and_true]); omega) | (simp <;> fail) | skip) [runM_nil]
    refine useP (cs) ?_
    simp (disch := first | (refine Ok.mk ?_; (try simp only [Lm, La, Lc, Ln, Lt, Ld, Lr, Li, true_or, or_true, true_and, and_true]); omega) | (simp <;> fail) | skip) [runM_nil]
    refine hK _ _ ?_
    clear hK K
    first | refine pwp_sr ?_ | refine pwp_regionM ?_
    intro K hK
    simp (disch := first | (refine Ok.mk ?_; (try simp only [Lm, La, Lc, Ln, Lt, Ld, Lr, Li, true_or, or_true, true_and, and_true]); omega) | (simp <;> fail) | skip) [runM_nil, cv]
    refine useP (cf) ?_
    simp (disch := first | (refine Ok.mk ?_; (try simp only [Lm, La, Lc, Ln, Lt, Ld, Lr, Li, true_or, or_true, true_and, and_true]); omega) | (simp <;> fail) | skip) [runM_nil, cv]
    refine hK _ _ ?_
    clear hK K
    rw [hen]
    refine pwp_ret ⟨.inr rfl, _, _, _, (by simp (disch := first | (refine Ok.mk ?_; (try simp only [Lm, La, Lc, Ln, Lt, Ld, Lr, Li, true_or, or_true, true_and, and_true]); omega) | (simp <;> fail) | skip) [runM_nil, resL]; rfl), .refl _, (by simp (disch := first | (refine Ok.mk ?_; (try simp only [Lm, La, Lc, Ln, Lt, Ld, Lr, Li, true_or, or_true, true_and, and_true]); omega) | (simp <;> fail) | skip) [resV]), rfl, rfl⟩
set_option maxRecDepth 8000 in
set_option maxHeartbeats 16000000 in
theorem refPut_ok {s : Nat} {xs : List PV} {o : Bool} {b : List Nat} (hx : xs = b.map u8) (hs : s = 1 ∨ b.length = 0) (hl : b.length ≤ 10000000000000) (e : En) :
    PSpec Try.prog 16 [.lst s xs o, enV e] (.tup [bV (putJ b e).1 true, .int .i64 ((putJ b e).2 : Nat)]) := by
  intro H
  have cm := refMay_ok e
  refine spec_ofU t16 (by simp [p16]) ?_
  simp only [p16]
  first | refine pwp_sr ?_ | refine pwp_regionM ?_
  intro K hK
  simp (disch := first | (refine Ok.mk ?_; (try simp only [Lm, La, Lc, Ln, Lt, Ld, Lr, Li, true_or, or_true, true_and, and_true]); omega) | (simp <;> fail) | skip) [runM_nil, enV]
  refine hK _ _ ?_
  clear hK K
  simp only [enV] at cm
  cases hm : mayJ e with
  | false =>
    have ep : putJ b e = ([], 1) := by simp [putJ, hm]
    rw [ep]
    first | refine pwp_rif ?_ | refine pwp_rifE ?_
    intro K hK
    simp (disch := first | (refine Ok.mk ?_; (try simp only [Lm, La, Lc, Ln, Lt, Ld, Lr, Li, true_or, or_true, true_and, and_true]); omega) | (simp <;> fail) | skip) [runM_nil, hm]
    refine useP (cm) ?_
    simp (disch := first | (refine Ok.mk ?_; (try simp only [Lm, La, Lc, Ln, Lt, Ld, Lr, Li, true_or, or_true, true_and, and_true]); omega) | (simp <;> fail) | skip) [runM_nil, hm]
    refine hK _ _ ?_
    clear hK K
    refine ifT (by simp (disch := first | (refine Ok.mk ?_; (try simp only [Lm, La, Lc, Ln, Lt, Ld, Lr, Li, true_or, or_true, true_and, and_true]); omega) | (simp <;> fail) | skip) [runM_nil]) ?_
    first | refine pwp_sr ?_ | refine pwp_regionM ?_
    intro K hK
    simp (disch := first | (refine Ok.mk ?_; (try simp only [Lm, La, Lc, Ln, Lt, Ld, Lr, Li, true_or, or_true, true_and, and_true]); omega) | (simp <;> fail) | skip) [runM_nil]
    refine hK _ _ ?_
    clear hK K
    refine pwp_ret ⟨.inr rfl, _, _, _, (by simp (disch := first | (refine Ok.mk ?_; (try simp only [Lm, La, Lc, Ln, Lt, Ld, Lr, Li, true_or, or_true, true_and, and_true]); omega) | (simp <;> fail) | skip) [runM_nil, resL]; rfl), .refl _, (by simp (disch := first | (refine Ok.mk ?_; (try simp only [Lm, La, Lc, Ln, Lt, Ld, Lr, Li, true_or, or_true, true_and, and_true]); omega) | (simp <;> fail) | skip) [resV]), rfl, rfl⟩
  | true =>
    have ep : putJ b e = (b ++ encJ e, 0) := by simp [putJ, hm]
    rw [ep]
    obtain ⟨hzw, hzl⟩ := zJ_wf hm
    obtain ⟨hbw, hbl⟩ := bodyJ_wf hm
    have hen : encJ e = vb (zJ e).length ++ zJ e := rfl
    have hzd : zJ e = sealed tbl (bodyJ e) := rfl
    obtain ⟨k, t, y, w, rfl, h1, h2, h3, h4⟩ := may_nats hm
    have l1 := vb_length_le10 (n := t) (by omega)
    have l2 := vb_length_le10 (n := y) (by omega)
    have l3 := vb_length_le10 (n := w) (by omega)
    have hbd : bodyJ ⟨k, t, y, w⟩ = [k] ++ vb t ++ vb y ++ vb w := by simp only [bodyJ, Int.toNat_natCast]
    generalize zJ ⟨k, t, y, w⟩ = z at *
    have c1 := rput_ok (s := 1) (xs := [.int .u8 k]) (o := false) (b := [k]) rfl (.inl rfl) t (by omega) (by simp)
    have c2 := rput_ok (s := 1) (xs := ([k] ++ vb t).map u8) (o := false) rfl (.inl rfl) y (by omega) (by simp only [La, Lc, Ln]; omega)
    have c3 := rput_ok (s := 1) (xs := ([k] ++ vb t ++ vb y).map u8) (o := false) rfl (.inl rfl) w (by omega) (by simp only [La, Lc, Ln]; omega)
    have cs := sealed_ok (s := 1) (xs := ([k] ++ vb t ++ vb y ++ vb w).map u8) (o := false) (b := bodyJ ⟨k, t, y, w⟩) (by rw [hbd]) (.inl rfl) hbw (by omega)
    rw [← hzd] at cs
    simp at c1 c2 c3 cs
    have cv := cvS_u8 (s := 1) (o := false) (l := z) rfl (.inl rfl) hzw
    have cf := rframe_ok (o := false) hx hs z (by omega)
    simp at cv cf
    first | refine pwp_rif ?_ | refine pwp_rifE ?_
    intro K hK
    simp (disch := first | (refine Ok.mk ?_; (try simp only [Lm, La, Lc, Ln, Lt, Ld, Lr, Li, true_or, or_true, true_and, and_true]); omega) | (simp <;> fail) | skip) [runM_nil, hm]
    refine useP (cm) ?_
    simp (disch := first | (refine Ok.mk ?_; (try simp only [Lm, La, Lc, Ln, Lt, Ld, Lr, Li, true_or, or_true, true_and, and_true]); omega) | (simp <;> fail) | skip) [runM_nil, hm]
    refine hK _ _ ?_
    clear hK K
    refine ifF (by simp (disch := first | (refine Ok.mk ?_; (try simp only [Lm, La, Lc, Ln, Lt, Ld, Lr, Li, true_or, or_true, true_and, and_true]); omega) | (simp <;> fail) | skip) [runM_nil]) (pwp_skip ?_)
    first | refine pwp_sr ?_ | refine pwp_regionM ?_
    intro K hK
    simp (disch := first | (refine Ok.mk ?_; (try simp only [Lm, La, Lc, Ln, Lt, Ld, Lr, Li, true_or, or_true, true_and, and_true]); omega) | (simp <;> fail) | skip) [runM_nil]
    refine hK _ _ ?_
    clear hK K
    first | refine pwp_sr ?_ | refine pwp_regionM ?_
    intro K hK
    simp (disch := first | (refine Ok.mk ?_; (try simp only [Lm, La, Lc, Ln, Lt, Ld, Lr, Li, true_or, or_true, true_and, and_true]); omega) | (simp <;> fail) | skip) [runM_nil]
    refine useP (c1) ?_
    simp (disch := first | (refine Ok.mk ?_; (try simp only [Lm, La, Lc, Ln, Lt, Ld, Lr, Li, true_or, or_true, true_and, and_true]); omega) | (simp <;> fail) | skip) [runM_nil]
    refine hK _ _ ?_
    clear hK K
    first | refine pwp_sr ?_ | refine pwp_regionM ?_
    intro K hK
    simp (disch := first | (refine Ok.mk ?_; (try simp only [Lm, La, Lc, Ln, Lt, Ld, Lr, Li, true_or, or_true, true_and, and_true]); omega) | (simp <;> fail) | skip) [runM_nil]
    refine useP (c2) ?_
    simp (disch := first | (refine Ok.mk ?_; (try simp only [Lm, La, Lc, Ln, Lt, Ld, Lr, Li, true_or, or_true, true_and, and_true]); omega) | (simp <;> fail) | skip) [runM_nil]
    refine hK _ _ ?_
    clear hK K
    first | refine pwp_sr ?_ | refine pwp_regionM ?_
    intro K hK
    simp (disch := first | (refine Ok.mk ?_; (try simp only [Lm, La, Lc, Ln, Lt, Ld, Lr, Li, true_or, or_true, true_and, and_true]); omega) | (simp <;> fail) | skip) [runM_nil]
    refine useP (c3) ?_
    simp (disch := first | (refine Ok.mk ?_; (try simp only [Lm, La, Lc, Ln, Lt, Ld, Lr, Li, true_or, or_true, true_and, and_true]); omega) | (simp <;> fail) | skip) [runM_nil]
    refine hK _ _ ?_
    clear hK K
    first | refine pwp_sr ?_ | refine pwp_regionM ?_
    intro K hK
    simp (disch := first | (refine Ok.mk ?_; (try simp only [Lm, La, Lc, Ln, Lt, Ld, Lr, Li, true_or, or_true, true_and, and_true]); omega) | (simp <;> fail) | skip) [runM_nil, cv]
    refine useP (cs) ?_
    simp (disch := first | (refine Ok.mk ?_; (try simp only [Lm, La, Lc, Ln, Lt, Ld, Lr, Li, true_or, or_true, true_and, and_true]); omega) | (simp <;> fail) | skip) [runM_nil, cv]
    refine useP (cf) ?_
    simp (disch := first | (refine Ok.mk ?_; (try simp only [Lm, La, Lc, Ln, Lt, Ld, Lr, Li, true_or, or_true, true_and, and_true]); omega) | (simp <;> fail) | skip) [runM_nil, cv]
    refine hK _ _ ?_
    clear hK K
    rw [hen]
    refine pwp_ret ⟨.inr rfl, _, _, _, (by simp (disch := first | (refine Ok.mk ?_; (try simp only [Lm, La, Lc, Ln, Lt, Ld, Lr, Li, true_or, or_true, true_and, and_true]); omega) | (simp <;> fail) | skip) [runM_nil, resL]; rfl), .refl _, (by simp (disch := first | (refine Ok.mk ?_; (try simp only [Lm, La, Lc, Ln, Lt, Ld, Lr, Li, true_or, or_true, true_and, and_true]); omega) | (simp <;> fail) | skip) [resV]), rfl, rfl⟩
end Go.Proofs.Ytibmolekndeofaa.E
/- Entries of a journal out of bytes. -/
namespace Go.Proofs.Ytibmolekndeofaa.E
open Go Go.RowKit Go.Proofs
set_option linter.unusedVariables false
set_option linter.unusedSimpArgs false
def zE : En := ⟨0, 0, 0, 0⟩
/-- The entry of sealed bytes, as the program tells it. -/
def entB (k : Nat) (b : List Nat) : En × Bool :=
  if (vtake b).2.2 ≠ 0 ∨ 10000 < (vtake b).1 then (zE, false) else
  if (vtake (vtake b).2.1).2.2 ≠ 0 ∨ 10000 < (vtake (vtake b).2.1).1 then (zE, false) else
  if (vtake (vtake (vtake b).2.1).2.1).2.2 ≠ 0 ∨ 10000 < (vtake (vtake (vtake b).2.1).2.1).1 then (zE, false) else
  (⟨k, (vtake b).1, (vtake (vtake b).2.1).1, (vtake (vtake (vtake b).2.1).2.1).1⟩,
    decide ((vtake (vtake (vtake b).2.1).2.1).2.1 = []) && mayJ ⟨k, (vtake b).1, (vtake (vtake b).2.1).1, (vtake (vtake (vtake b).2.1).2.1).1⟩)
def entP (s : List Nat) : En × Bool :=
  if (opened tbl s).2 ≠ 0 then (zE, false) else match (opened tbl s).1 with
  | [] => (zE, false)
  | k :: b => entB k b
theorem opened_wf {s : List Nat} (hw : ∀ x ∈ s, x < 256) : (∀ x ∈ (opened tbl s).1, x < 256) ∧ (opened tbl s).1.length ≤ s.length ∧ (opened tbl s).2 ≤ 4 := by
  rcases opened_cases tbl s with ⟨_, e⟩ | ⟨_, _, e⟩ | ⟨_, _, e⟩
  · rw [e]; exact ⟨(fun x hx => by cases hx), Nat.zero_le _, by omega⟩
  · rw [e]; exact ⟨(fun x hx => hw x (List.mem_of_mem_take hx)), by rw [Lt]; omega, by omega⟩
  · rw [e]; exact ⟨(fun x hx => by cases hx), Nat.zero_le _, by omega⟩
set_option maxRecDepth 8000 in
set_option maxHeartbeats 16000000 in
theorem entry_ok26 {s : List Nat} (hw : ∀ x ∈ s, x < 256) (hl : s.length ≤ 10000000000000) {ot : Bool} : PSpec Try.prog 29 [.str (ci s), .lst 1 (tbl.map u32) ot] (.tup [enV (entP s).1, .bool (entP s).2]) := by
  intro H
  have co := open_ok tbl_length tbl_lt (ot := false) (s := 1) (xs := s.map u8) (o := false) (b := s) rfl (.inl rfl) hw (by omega)
  obtain ⟨how, hol, hoe⟩ := opened_wf hw
  have he : entP s = if (opened tbl s).2 ≠ 0 then (zE, false) else match (opened tbl s).1 with
    | [] => (zE, false)
    | k :: b => entB k b := rfl
  generalize (opened tbl s).1 = z at *
  generalize (opened tbl s).2 = e at *
  generalize entP s = r at *
  have hsl : (ci s).length ≤ 9223372036854775807 := by rw [Li]; omega
  refine spec_of t29 (by simp [p29]) ?_
  simp only [p29]
  first | refine pwp_sr ?_ | refine pwp_regionM ?_
  intro K hK
  simp (disch := first | (refine Ok.mk ?_; (try simp only [Lm, La, Lc, Ln, Lt, Ld, Lr, Li, true_or, or_true, true_and, and_true]); omega) | (simp <;> fail) | skip) [runM_nil]
  intro b4 h_b4
  try simp (disch := first | (refine Ok.mk ?_; (try simp only [Lm, La, Lc, Ln, Lt, Ld, Lr, Li, true_or, or_true, true_and, and_true]); omega) | (simp <;> fail) | skip) [runM_nil]
  refine hK _ _ ?_
  clear hK K
  first | refine pwp_sr ?_ | refine pwp_regionM ?_
  intro K hK
  simp (disch := first | (refine Ok.mk ?_; (try simp only [Lm, La, Lc, Ln, Lt, Ld, Lr, Li, true_or, or_true, true_and, and_true]); omega) | (simp <;> fail) | skip) [runM_nil]
  refine useP (co) ?_
  simp (disch := first | (refine Ok.mk ?_; (try simp only [Lm, La, Lc, Ln, Lt, Ld, Lr, Li, true_or, or_true, true_and, and_true]); omega) | (simp <;> fail) | skip) [runM_nil]
  refine hK _ _ ?_
  clear hK K
  rcases (show e ≠ 0 ∨ e = 0 by omega) with h0 | rfl
  · rw [if_pos h0] at he
    subst he
    first | refine pwp_rif ?_ | refine pwp_rifE ?_
    intro K hK
    simp (disch := first | (refine Ok.mk ?_; (try simp only [Lm, La, Lc, Ln, Lt, Ld, Lr, Li, true_or, or_true, true_and, and_true]); omega) | (simp <;> fail) | skip) [runM_nil, h0]
    refine hK _ _ ?_
    clear hK K
    refine ifT (by simp (disch := first | (refine Ok.mk ?_; (try simp only [Lm, La, Lc, Ln, Lt, Ld, Lr, Li, true_or, or_true, true_and, and_true]); omega) | (simp <;> fail) | skip) [runM_nil]) ?_
    first | refine pwp_sr ?_ | refine pwp_regionM ?_
    intro K hK
    simp (disch := first | (refine Ok.mk ?_; (try simp only [Lm, La, Lc, Ln, Lt, Ld, Lr, Li, true_or, or_true, true_and, and_true]); omega) | (simp <;> fail) | skip) [runM_nil]
    refine hK _ _ ?_
    clear hK K
    refine pwp_ret ⟨.inr rfl, _, _, (by simp (disch := first | (refine Ok.mk ?_; (try simp only [Lm, La, Lc, Ln, Lt, Ld, Lr, Li, true_or, or_true, true_and, and_true]); omega) | (simp <;> fail) | skip) [runM_nil, resL, enV, zE]; rfl), (.cons _ (.refl _)), by simp (disch := first | (refine Ok.mk ?_; (try simp only [Lm, La, Lc, Ln, Lt, Ld, Lr, Li, true_or, or_true, true_and, and_true]); omega) | (simp <;> fail) | skip) [resV, enV, zE], rfl⟩
  rw [if_neg (by omega)] at he
  cases z with
  | nil =>
    simp only at he
    subst he
    first | refine pwp_rif ?_ | refine pwp_rifE ?_
    intro K hK
    simp (disch := first | (refine Ok.mk ?_; (try simp only [Lm, La, Lc, Ln, Lt, Ld, Lr, Li, true_or, or_true, true_and, and_true]); omega) | (simp <;> fail) | skip) [runM_nil]
    refine hK _ _ ?_
    clear hK K
    refine ifT (by simp (disch := first | (refine Ok.mk ?_; (try simp only [Lm, La, Lc, Ln, Lt, Ld, Lr, Li, true_or, or_true, true_and, and_true]); omega) | (simp <;> fail) | skip) [runM_nil]) ?_
    first | refine pwp_sr ?_ | refine pwp_regionM ?_
    intro K hK
    simp (disch := first | (refine Ok.mk ?_; (try simp only [Lm, La, Lc, Ln, Lt, Ld, Lr, Li, true_or, or_true, true_and, and_true]); omega) | (simp <;> fail) | skip) [runM_nil]
    refine hK _ _ ?_
    clear hK K
    refine pwp_ret ⟨.inr rfl, _, _, (by simp (disch := first | (refine Ok.mk ?_; (try simp only [Lm, La, Lc, Ln, Lt, Ld, Lr, Li, true_or, or_true, true_and, and_true]); omega) | (simp <;> fail) | skip) [runM_nil, resL, enV, zE]; rfl), (.cons _ (.refl _)), by simp (disch := first | (refine Ok.mk ?_; (try simp only [Lm, La, Lc, Ln, Lt, Ld, Lr, Li, true_or, or_true, true_and, and_true]); omega) | (simp <;> fail) | skip) [resV, enV, zE], rfl⟩
  | cons k b =>
  simp only at he
  have hk := how k (List.mem_cons_self ..)
  have hbw : ∀ x ∈ b, x < 256 := fun x hx => how x (List.mem_cons_of_mem _ hx)
  rw [Lc] at hol
  clear how co
  subst he
  first | refine pwp_rif ?_ | refine pwp_rifE ?_
  intro K hK
  simp (disch := first | (refine Ok.mk ?_; (try simp only [Lm, La, Lc, Ln, Lt, Ld, Lr, Li, true_or, or_true, true_and, and_true]); omega) | (simp <;> fail) | skip) [runM_nil]
  refine hK _ _ ?_
  clear hK K
  refine ifF (by simp (disch := first | (refine Ok.mk ?_; (try simp only [Lm, La, Lc, Ln, Lt, Ld, Lr, Li, true_or, or_true, true_and, and_true]); omega) | (simp <;> fail) | skip) [runM_nil]) (pwp_skip ?_)
  first | refine pwp_sr ?_ | refine pwp_regionM ?_
  intro K hK
  simp (disch := first | (refine Ok.mk ?_; (try simp only [Lm, La, Lc, Ln, Lt, Ld, Lr, Li, true_or, or_true, true_and, and_true]); omega) | (simp <;> fail) | skip) [runM_nil]
  intro b8 h_b8
  have d_b8_b4 : ¬ b4 = b8 := fun e => by subst e; simp [hget] at h_b8
  try simp (disch := first | (refine Ok.mk ?_; (try simp only [Lm, La, Lc, Ln, Lt, Ld, Lr, Li, true_or, or_true, true_and, and_true]); omega) | (simp <;> fail) | skip) [runM_nil, d_b8_b4, Ne.symm d_b8_b4]
  refine hK _ _ ?_
  clear hK K
  first | refine pwp_sr ?_ | refine pwp_regionM ?_
  intro K hK
  simp (disch := first | (refine Ok.mk ?_; (try simp only [Lm, La, Lc, Ln, Lt, Ld, Lr, Li, true_or, or_true, true_and, and_true]); omega) | (simp <;> fail) | skip) [runM_nil, d_b8_b4, Ne.symm d_b8_b4]
  refine hK _ _ ?_
  clear hK K
  refine pwp_seq (pwp_seq ?_)
  first | refine pwp_sr ?_ | refine pwp_regionM ?_
  intro K hK
  simp (disch := first | (refine Ok.mk ?_; (try simp only [Lm, La, Lc, Ln, Lt, Ld, Lr, Li, true_or, or_true, true_and, and_true]); omega) | (simp <;> fail) | skip) [runM_nil, d_b8_b4, Ne.symm d_b8_b4]
  refine hK _ _ ?_
  clear hK K
  have w1 := vtake_wf hbw
  have w2 := vtake_wf w1
  have l1 : (vtake b).2.1.length ≤ b.length := (vtake_rest (s := b)).1
  have l2 : (vtake (vtake b).2.1).2.1.length ≤ (vtake b).2.1.length := (vtake_rest (s := (vtake b).2.1)).1
  have g1 := vtake_err b
  have g2 := vtake_err (vtake b).2.1
  have g3 := vtake_err (vtake (vtake b).2.1).2.1
  have n1 := vtake_lt hbw
  have n2 := vtake_lt w1
  have n3 := vtake_lt w2
  have c1 := take_ok (s := 1) (xs := b.map u8) (o := false) (b := b) rfl (.inl rfl) hbw (by omega)
  have c2 := take_ok (s := 1) (xs := (vtake b).2.1.map u8) (o := false) (b := (vtake b).2.1) rfl (.inl rfl) w1 (by omega)
  have c3 := take_ok (s := 1) (xs := (vtake (vtake b).2.1).2.1.map u8) (o := false) (b := (vtake (vtake b).2.1).2.1) rfl (.inl rfl) w2 (by omega)
  have hb0 : entB k b = entB k b := rfl
  conv at hb0 => rhs; unfold entB
  clear w1 w2 hbw
  generalize entB k b = rr at *
  generalize (vtake (vtake (vtake b).2.1).2.1).1 = a3 at *
  generalize (vtake (vtake (vtake b).2.1).2.1).2.1 = r3 at *
  generalize (vtake (vtake (vtake b).2.1).2.1).2.2 = e3 at *
  generalize (vtake (vtake b).2.1).1 = a2 at *
  generalize (vtake (vtake b).2.1).2.1 = r2 at *
  generalize (vtake (vtake b).2.1).2.2 = e2 at *
  generalize (vtake b).1 = a1 at *
  generalize (vtake b).2.1 = r1 at *
  generalize (vtake b).2.2 = e1 at *
  have cm := may_ok ⟨k, a1, a2, a3⟩
  simp only [enV] at cm
  refine pwp_block (pwp_rounds 4 ?_)
  refine rnd ?_
  first | refine pwp_sr ?_ | refine pwp_regionM ?_
  intro K hK
  simp (disch := first | (refine Ok.mk ?_; (try simp only [Lm, La, Lc, Ln, Lt, Ld, Lr, Li, true_or, or_true, true_and, and_true]); omega) | (simp <;> fail) | skip) [runM_nil, d_b8_b4, Ne.symm d_b8_b4]
  refine hK _ _ ?_
  clear hK K
  refine pwp_seq (pwp_cT (by simp) (pwp_skip ?_))
  refine pwp_seq (pwp_block ?_)
  first | refine pwp_sr ?_ | refine pwp_regionM ?_
  intro K hK
  simp (disch := first | (refine Ok.mk ?_; (try simp only [Lm, La, Lc, Ln, Lt, Ld, Lr, Li, true_or, or_true, true_and, and_true]); omega) | (simp <;> fail) | skip) [runM_nil, d_b8_b4, Ne.symm d_b8_b4]
  refine hK _ _ ?_
  clear hK K
  first | refine pwp_sr ?_ | refine pwp_regionM ?_
  intro K hK
  simp (disch := first | (refine Ok.mk ?_; (try simp only [Lm, La, Lc, Ln, Lt, Ld, Lr, Li, true_or, or_true, true_and, and_true]); omega) | (simp <;> fail) | skip) [runM_nil, d_b8_b4, Ne.symm d_b8_b4]
  refine useP (c1) ?_
  simp (disch := first | (refine Ok.mk ?_; (try simp only [Lm, La, Lc, Ln, Lt, Ld, Lr, Li, true_or, or_true, true_and, and_true]); omega) | (simp <;> fail) | skip) [runM_nil, d_b8_b4, Ne.symm d_b8_b4]
  refine hK _ _ ?_
  clear hK K
  rcases (show e1 ≠ 0 ∨ (e1 = 0 ∧ 10000 < a1) ∨ (e1 = 0 ∧ a1 ≤ 10000) by omega) with q | ⟨rfl, q⟩ | ⟨rfl, q1⟩
  · rw [if_pos (.inl q)] at hb0
    subst hb0
    first | refine pwp_rif ?_ | refine pwp_rifE ?_
    intro K hK
    simp (disch := first | (refine Ok.mk ?_; (try simp only [Lm, La, Lc, Ln, Lt, Ld, Lr, Li, true_or, or_true, true_and, and_true]); omega) | (simp <;> fail) | skip) [runM_nil, q, d_b8_b4, Ne.symm d_b8_b4]
    refine hK _ _ ?_
    clear hK K
    refine ifT (by simp (disch := first | (refine Ok.mk ?_; (try simp only [Lm, La, Lc, Ln, Lt, Ld, Lr, Li, true_or, or_true, true_and, and_true]); omega) | (simp <;> fail) | skip) [runM_nil]) ?_
    first | refine pwp_sr ?_ | refine pwp_regionM ?_
    intro K hK
    simp (disch := first | (refine Ok.mk ?_; (try simp only [Lm, La, Lc, Ln, Lt, Ld, Lr, Li, true_or, or_true, true_and, and_true]); omega) | (simp <;> fail) | skip) [runM_nil, d_b8_b4, Ne.symm d_b8_b4]
    refine hK _ _ ?_
    clear hK K
    refine pwp_ret ⟨.inr rfl, _, _, (by simp (disch := first | (refine Ok.mk ?_; (try simp only [Lm, La, Lc, Ln, Lt, Ld, Lr, Li, true_or, or_true, true_and, and_true]); omega) | (simp <;> fail) | skip) [runM_nil, resL, enV, zE, d_b8_b4, Ne.symm d_b8_b4]; rfl), (.cons _ (.cons _ (.refl _))), by simp (disch := first | (refine Ok.mk ?_; (try simp only [Lm, La, Lc, Ln, Lt, Ld, Lr, Li, true_or, or_true, true_and, and_true]); omega) | (simp <;> fail) | skip) [resV, enV, zE], rfl⟩
  · rw [if_pos (.inr q)] at hb0
    subst hb0
    first | refine pwp_rif ?_ | refine pwp_rifE ?_
    intro K hK
    simp (disch := first | (refine Ok.mk ?_; (try simp only [Lm, La, Lc, Ln, Lt, Ld, Lr, Li, true_or, or_true, true_and, and_true]); omega) | (simp <;> fail) | skip) [runM_nil, d_b8_b4, Ne.symm d_b8_b4]
    refine hK _ _ ?_
    clear hK K
    refine ifT (by simp (disch := first | (refine Ok.mk ?_; (try simp only [Lm, La, Lc, Ln, Lt, Ld, Lr, Li, true_or, or_true, true_and, and_true]); omega) | (simp <;> fail) | skip) [runM_nil]) ?_
    first | refine pwp_sr ?_ | refine pwp_regionM ?_
    intro K hK
    simp (disch := first | (refine Ok.mk ?_; (try simp only [Lm, La, Lc, Ln, Lt, Ld, Lr, Li, true_or, or_true, true_and, and_true]); omega) | (simp <;> fail) | skip) [runM_nil, d_b8_b4, Ne.symm d_b8_b4]
    refine hK _ _ ?_
    clear hK K
    refine pwp_ret ⟨.inr rfl, _, _, (by simp (disch := first | (refine Ok.mk ?_; (try simp only [Lm, La, Lc, Ln, Lt, Ld, Lr, Li, true_or, or_true, true_and, and_true]); omega) | (simp <;> fail) | skip) [runM_nil, resL, enV, zE, d_b8_b4, Ne.symm d_b8_b4]; rfl), (.cons _ (.cons _ (.refl _))), by simp (disch := first | (refine Ok.mk ?_; (try simp only [Lm, La, Lc, Ln, Lt, Ld, Lr, Li, true_or, or_true, true_and, and_true]); omega) | (simp <;> fail) | skip) [resV, enV, zE], rfl⟩
  rw [if_neg (by omega)] at hb0
  first | refine pwp_rif ?_ | refine pwp_rifE ?_
  intro K hK
  simp (disch := first | (refine Ok.mk ?_; (try simp only [Lm, La, Lc, Ln, Lt, Ld, Lr, Li, true_or, or_true, true_and, and_true]); omega) | (simp <;> fail) | skip) [runM_nil, d_b8_b4, Ne.symm d_b8_b4]
  refine hK _ _ ?_
  clear hK K
  refine ifF (by simp (disch := first | (refine Ok.mk ?_; (try simp only [Lm, La, Lc, Ln, Lt, Ld, Lr, Li, true_or, or_true, true_and, and_true]); omega) | (simp <;> fail) | skip) [runM_nil]) (pwp_skip ?_)
  first | refine pwp_sr ?_ | refine pwp_regionM ?_
  intro K hK
  simp (disch := first | (refine Ok.mk ?_; (try simp only [Lm, La, Lc, Ln, Lt, Ld, Lr, Li, true_or, or_true, true_and, and_true]); omega) | (simp <;> fail) | skip) [runM_nil, d_b8_b4, Ne.symm d_b8_b4]
  refine hK _ _ ?_
  clear hK K
  first | refine pwp_sr ?_ | refine pwp_regionM ?_
  intro K hK
  simp (disch := first | (refine Ok.mk ?_; (try simp only [Lm, La, Lc, Ln, Lt, Ld, Lr, Li, true_or, or_true, true_and, and_true]); omega) | (simp <;> fail) | skip) [runM_nil, d_b8_b4, Ne.symm d_b8_b4]
  refine hK _ _ ?_
  clear hK K
  refine rnd ?_
  first | refine pwp_sr ?_ | refine pwp_regionM ?_
  intro K hK
  simp (disch := first | (refine Ok.mk ?_; (try simp only [Lm, La, Lc, Ln, Lt, Ld, Lr, Li, true_or, or_true, true_and, and_true]); omega) | (simp <;> fail) | skip) [runM_nil, d_b8_b4, Ne.symm d_b8_b4]
  refine hK _ _ ?_
  clear hK K
  refine pwp_seq (pwp_cT (by simp) (pwp_skip ?_))
  refine pwp_seq (pwp_block ?_)
  first | refine pwp_sr ?_ | refine pwp_regionM ?_
  intro K hK
  simp (disch := first | (refine Ok.mk ?_; (try simp only [Lm, La, Lc, Ln, Lt, Ld, Lr, Li, true_or, or_true, true_and, and_true]); omega) | (simp <;> fail) | skip) [runM_nil, d_b8_b4, Ne.symm d_b8_b4]
  refine hK _ _ ?_
  clear hK K
  first | refine pwp_sr ?_ | refine pwp_regionM ?_
  intro K hK
  simp (disch := first | (refine Ok.mk ?_; (try simp only [Lm, La, Lc, Ln, Lt, Ld, Lr, Li, true_or, or_true, true_and, and_true]); omega) | (simp <;> fail) | skip) [runM_nil, d_b8_b4, Ne.symm d_b8_b4]
  refine useP (c2) ?_
  simp (disch := first | (refine Ok.mk ?_; (try simp only [Lm, La, Lc, Ln, Lt, Ld, Lr, Li, true_or, or_true, true_and, and_true]); omega) | (simp <;> fail) | skip) [runM_nil, d_b8_b4, Ne.symm d_b8_b4]
  refine hK _ _ ?_
  clear hK K
  rcases (show e2 ≠ 0 ∨ (e2 = 0 ∧ 10000 < a2) ∨ (e2 = 0 ∧ a2 ≤ 10000) by omega) with q | ⟨rfl, q⟩ | ⟨rfl, q2⟩
  · rw [if_pos (.inl q)] at hb0
    subst hb0
    first | refine pwp_rif ?_ | refine pwp_rifE ?_
    intro K hK
    simp (disch := first | (refine Ok.mk ?_; (try simp only [Lm, La, Lc, Ln, Lt, Ld, Lr, Li, true_or, or_true, true_and, and_true]); omega) | (simp <;> fail) | skip) [runM_nil, q, d_b8_b4, Ne.symm d_b8_b4]
    refine hK _ _ ?_
    clear hK K
    refine ifT (by simp (disch := first | (refine Ok.mk ?_; (try simp only [Lm, La, Lc, Ln, Lt, Ld, Lr, Li, true_or, or_true, true_and, and_true]); omega) | (simp <;> fail) | skip) [runM_nil]) ?_
    first | refine pwp_sr ?_ | refine pwp_regionM ?_
    intro K hK
    simp (disch := first | (refine Ok.mk ?_; (try simp only [Lm, La, Lc, Ln, Lt, Ld, Lr, Li, true_or, or_true, true_and, and_true]); omega) | (simp <;> fail) | skip) [runM_nil, d_b8_b4, Ne.symm d_b8_b4]
    refine hK _ _ ?_
    clear hK K
    refine pwp_ret ⟨.inr rfl, _, _, (by simp (disch := first | (refine Ok.mk ?_; (try simp only [Lm, La, Lc, Ln, Lt, Ld, Lr, Li, true_or, or_true, true_and, and_true]); omega) | (simp <;> fail) | skip) [runM_nil, resL, enV, zE, d_b8_b4, Ne.symm d_b8_b4]; rfl), (.cons _ (.cons _ (.refl _))), by simp (disch := first | (refine Ok.mk ?_; (try simp only [Lm, La, Lc, Ln, Lt, Ld, Lr, Li, true_or, or_true, true_and, and_true]); omega) | (simp <;> fail) | skip) [resV, enV, zE], rfl⟩
  · rw [if_pos (.inr q)] at hb0
    subst hb0
    first | refine pwp_rif ?_ | refine pwp_rifE ?_
    intro K hK
    simp (disch := first | (refine Ok.mk ?_; (try simp only [Lm, La, Lc, Ln, Lt, Ld, Lr, Li, true_or, or_true, true_and, and_true]); omega) | (simp <;> fail) | skip) [runM_nil, d_b8_b4, Ne.symm d_b8_b4]
    refine hK _ _ ?_
    clear hK K
    refine ifT (by simp (disch := first | (refine Ok.mk ?_; (try simp only [Lm, La, Lc, Ln, Lt, Ld, Lr, Li, true_or, or_true, true_and, and_true]); omega) | (simp <;> fail) | skip) [runM_nil]) ?_
    first | refine pwp_sr ?_ | refine pwp_regionM ?_
    intro K hK
    simp (disch := first | (refine Ok.mk ?_; (try simp only [Lm, La, Lc, Ln, Lt, Ld, Lr, Li, true_or, or_true, true_and, and_true]); omega) | (simp <;> fail) | skip) [runM_nil, d_b8_b4, Ne.symm d_b8_b4]
    refine hK _ _ ?_
    clear hK K
    refine pwp_ret ⟨.inr rfl, _, _, (by simp (disch := first | (refine Ok.mk ?_; (try simp only [Lm, La, Lc, Ln, Lt, Ld, Lr, Li, true_or, or_true, true_and, and_true]); omega) | (simp <;> fail) | skip) [runM_nil, resL, enV, zE, d_b8_b4, Ne.symm d_b8_b4]; rfl), (.cons _ (.cons _ (.refl _))), by simp (disch := first | (refine Ok.mk ?_; (try simp only [Lm, La, Lc, Ln, Lt, Ld, Lr, Li, true_or, or_true, true_and, and_true]); omega) | (simp <;> fail) | skip) [resV, enV, zE], rfl⟩
  rw [if_neg (by omega)] at hb0
  first | refine pwp_rif ?_ | refine pwp_rifE ?_
  intro K hK
  simp (disch := first | (refine Ok.mk ?_; (try simp only [Lm, La, Lc, Ln, Lt, Ld, Lr, Li, true_or, or_true, true_and, and_true]); omega) | (simp <;> fail) | skip) [runM_nil, d_b8_b4, Ne.symm d_b8_b4]
  refine hK _ _ ?_
  clear hK K
  refine ifF (by simp (disch := first | (refine Ok.mk ?_; (try simp only [Lm, La, Lc, Ln, Lt, Ld, Lr, Li, true_or, or_true, true_and, and_true]); omega) | (simp <;> fail) | skip) [runM_nil]) (pwp_skip ?_)
  first | refine pwp_sr ?_ | refine pwp_regionM ?_
  intro K hK
  simp (disch := first | (refine Ok.mk ?_; (try simp only [Lm, La, Lc, Ln, Lt, Ld, Lr, Li, true_or, or_true, true_and, and_true]); omega) | (simp <;> fail) | skip) [runM_nil, d_b8_b4, Ne.symm d_b8_b4]
  refine hK _ _ ?_
  clear hK K
  first | refine pwp_sr ?_ | refine pwp_regionM ?_
  intro K hK
  simp (disch := first | (refine Ok.mk ?_; (try simp only [Lm, La, Lc, Ln, Lt, Ld, Lr, Li, true_or, or_true, true_and, and_true]); omega) | (simp <;> fail) | skip) [runM_nil, d_b8_b4, Ne.symm d_b8_b4]
  refine hK _ _ ?_
  clear hK K
  refine rnd ?_
  first | refine pwp_sr ?_ | refine pwp_regionM ?_
  intro K hK
  simp (disch := first | (refine Ok.mk ?_; (try simp only [Lm, La, Lc, Ln, Lt, Ld, Lr, Li, true_or, or_true, true_and, and_true]); omega) | (simp <;> fail) | skip) [runM_nil, d_b8_b4, Ne.symm d_b8_b4]
  refine hK _ _ ?_
  clear hK K
  refine pwp_seq (pwp_cT (by simp) (pwp_skip ?_))
  refine pwp_seq (pwp_block ?_)
  first | refine pwp_sr ?_ | refine pwp_regionM ?_
  intro K hK
  simp (disch := first | (refine Ok.mk ?_; (try simp only [Lm, La, Lc, Ln, Lt, Ld, Lr, Li, true_or, or_true, true_and, and_true]); omega) | (simp <;> fail) | skip) [runM_nil, d_b8_b4, Ne.symm d_b8_b4]
  refine hK _ _ ?_
  clear hK K
  first | refine pwp_sr ?_ | refine pwp_regionM ?_
  intro K hK
  simp (disch := first | (refine Ok.mk ?_; (try simp only [Lm, La, Lc, Ln, Lt, Ld, Lr, Li, true_or, or_true, true_and, and_true]); omega) | (simp <;> fail) | skip) [runM_nil, d_b8_b4, Ne.symm d_b8_b4]
  refine useP (c3) ?_
  simp (disch := first | (refine Ok.mk ?_; (try simp only [Lm, La, Lc, Ln, Lt, Ld, Lr, Li, true_or, or_true, true_and, and_true]); omega) | (simp <;> fail) | skip) [runM_nil, d_b8_b4, Ne.symm d_b8_b4]
  refine hK _ _ ?_
  clear hK K
  rcases (show e3 ≠ 0 ∨ (e3 = 0 ∧ 10000 < a3) ∨ (e3 = 0 ∧ a3 ≤ 10000) by omega) with q | ⟨rfl, q⟩ | ⟨rfl, q3⟩
  · rw [if_pos (.inl q)] at hb0
    subst hb0
    first | refine pwp_rif ?_ | refine pwp_rifE ?_
    intro K hK
    simp (disch := first | (refine Ok.mk ?_; (try simp only [Lm, La, Lc, Ln, Lt, Ld, Lr, Li, true_or, or_true, true_and, and_true]); omega) | (simp <;> fail) | skip) [runM_nil, q, d_b8_b4, Ne.symm d_b8_b4]
    refine hK _ _ ?_
    clear hK K
    refine ifT (by simp (disch := first | (refine Ok.mk ?_; (try simp only [Lm, La, Lc, Ln, Lt, Ld, Lr, Li, true_or, or_true, true_and, and_true]); omega) | (simp <;> fail) | skip) [runM_nil]) ?_
    first | refine pwp_sr ?_ | refine pwp_regionM ?_
    intro K hK
    simp (disch := first | (refine Ok.mk ?_; (try simp only [Lm, La, Lc, Ln, Lt, Ld, Lr, Li, true_or, or_true, true_and, and_true]); omega) | (simp <;> fail) | skip) [runM_nil, d_b8_b4, Ne.symm d_b8_b4]
    refine hK _ _ ?_
    clear hK K
    refine pwp_ret ⟨.inr rfl, _, _, (by simp (disch := first | (refine Ok.mk ?_; (try simp only [Lm, La, Lc, Ln, Lt, Ld, Lr, Li, true_or, or_true, true_and, and_true]); omega) | (simp <;> fail) | skip) [runM_nil, resL, enV, zE, d_b8_b4, Ne.symm d_b8_b4]; rfl), (.cons _ (.cons _ (.refl _))), by simp (disch := first | (refine Ok.mk ?_; (try simp only [Lm, La, Lc, Ln, Lt, Ld, Lr, Li, true_or, or_true, true_and, and_true]); omega) | (simp <;> fail) | skip) [resV, enV, zE], rfl⟩
  · rw [if_pos (.inr q)] at hb0
    subst hb0
    first | refine pwp_rif ?_ | refine pwp_rifE ?_
    intro K hK
    simp (disch := first | (refine Ok.mk ?_; (try simp only [Lm, La, Lc, Ln, Lt, Ld, Lr, Li, true_or, or_true, true_and, and_true]); omega) | (simp <;> fail) | skip) [runM_nil, d_b8_b4, Ne.symm d_b8_b4]
    refine hK _ _ ?_
    clear hK K
    refine ifT (by simp (disch := first | (refine Ok.mk ?_; (try simp only [Lm, La, Lc, Ln, Lt, Ld, Lr, Li, true_or, or_true, true_and, and_true]); omega) | (simp <;> fail) | skip) [runM_nil]) ?_
    first | refine pwp_sr ?_ | refine pwp_regionM ?_
    intro K hK
    simp (disch := first | (refine Ok.mk ?_; (try simp only [Lm, La, Lc, Ln, Lt, Ld, Lr, Li, true_or, or_true, true_and, and_true]); omega) | (simp <;> fail) | skip) [runM_nil, d_b8_b4, Ne.symm d_b8_b4]
    refine hK _ _ ?_
    clear hK K
    refine pwp_ret ⟨.inr rfl, _, _, (by simp (disch := first | (refine Ok.mk ?_; (try simp only [Lm, La, Lc, Ln, Lt, Ld, Lr, Li, true_or, or_true, true_and, and_true]); omega) | (simp <;> fail) | skip) [runM_nil, resL, enV, zE, d_b8_b4, Ne.symm d_b8_b4]; rfl), (.cons _ (.cons _ (.refl _))), by simp (disch := first | (refine Ok.mk ?_; (try simp only [Lm, La, Lc, Ln, Lt, Ld, Lr, Li, true_or, or_true, true_and, and_true]); omega) | (simp <;> fail) | skip) [resV, enV, zE], rfl⟩
  rw [if_neg (by omega)] at hb0
  first | refine pwp_rif ?_ | refine pwp_rifE ?_
  intro K hK
  simp (disch := first | (refine Ok.mk ?_; (try simp only [Lm, La, Lc, Ln, Lt, Ld, Lr, Li, true_or, or_true, true_and, and_true]); omega) | (simp <;> fail) | skip) [runM_nil, d_b8_b4, Ne.symm d_b8_b4]
  refine hK _ _ ?_
  clear hK K
  refine ifF (by simp (disch := first | (refine Ok.mk ?_; (try simp only [Lm, La, Lc, Ln, Lt, Ld, Lr, Li, true_or, or_true, true_and, and_true]); omega) | (simp <;> fail) | skip) [runM_nil]) (pwp_skip ?_)
  first | refine pwp_sr ?_ | refine pwp_regionM ?_
  intro K hK
  simp (disch := first | (refine Ok.mk ?_; (try simp only [Lm, La, Lc, Ln, Lt, Ld, Lr, Li, true_or, or_true, true_and, and_true]); omega) | (simp <;> fail) | skip) [runM_nil, d_b8_b4, Ne.symm d_b8_b4]
  refine hK _ _ ?_
  clear hK K
  first | refine pwp_sr ?_ | refine pwp_regionM ?_
  intro K hK
  simp (disch := first | (refine Ok.mk ?_; (try simp only [Lm, La, Lc, Ln, Lt, Ld, Lr, Li, true_or, or_true, true_and, and_true]); omega) | (simp <;> fail) | skip) [runM_nil, d_b8_b4, Ne.symm d_b8_b4]
  refine hK _ _ ?_
  clear hK K
  refine rnd ?_
  first | refine pwp_sr ?_ | refine pwp_regionM ?_
  intro K hK
  simp (disch := first | (refine Ok.mk ?_; (try simp only [Lm, La, Lc, Ln, Lt, Ld, Lr, Li, true_or, or_true, true_and, and_true]); omega) | (simp <;> fail) | skip) [runM_nil, d_b8_b4, Ne.symm d_b8_b4]
  refine hK _ _ ?_
  clear hK K
  refine pwp_seq (pwp_cF (by simp) (pwp_exit ?_))
  subst hb0
  cases r3 with
  | nil =>
    first | refine pwp_ss hmix ?_ | refine pwp_drawS hmix ?_
    intro K hK
    simp (disch := first | (refine Ok.mk ?_; (try simp only [Lm, La, Lc, Ln, Lt, Ld, Lr, Li, true_or, or_true, true_and, and_true]); omega) | (simp <;> fail) | skip) [runM_nil, planS_nil, d_b8_b4, Ne.symm d_b8_b4]
    refine useDS (cm) ?_
    simp (disch := first | (refine Ok.mk ?_; (try simp only [Lm, La, Lc, Ln, Lt, Ld, Lr, Li, true_or, or_true, true_and, and_true]); omega) | (simp <;> fail) | skip) [runM_nil, planS_nil, d_b8_b4, Ne.symm d_b8_b4]
    refine hK _ _ ?_
    clear hK K
    refine pwp_ret ⟨.inr rfl, _, _, (by simp (disch := first | (refine Ok.mk ?_; (try simp only [Lm, La, Lc, Ln, Lt, Ld, Lr, Li, true_or, or_true, true_and, and_true]); omega) | (simp <;> fail) | skip) [runM_nil, resL, enV, d_b8_b4, Ne.symm d_b8_b4]; rfl), (.cons _ (.cons _ (.refl _))), by simp (disch := first | (refine Ok.mk ?_; (try simp only [Lm, La, Lc, Ln, Lt, Ld, Lr, Li, true_or, or_true, true_and, and_true]); omega) | (simp <;> fail) | skip) [resV, enV], rfl⟩
  | cons x r3 =>
    first | refine pwp_ss hmix ?_ | refine pwp_drawS hmix ?_
    intro K hK
    simp (disch := first | (refine Ok.mk ?_; (try simp only [Lm, La, Lc, Ln, Lt, Ld, Lr, Li, true_or, or_true, true_and, and_true]); omega) | (simp <;> fail) | skip) [runM_nil, planS_nil, d_b8_b4, Ne.symm d_b8_b4]
    refine hK _ _ ?_
    clear hK K
    refine pwp_ret ⟨.inr rfl, _, _, (by simp (disch := first | (refine Ok.mk ?_; (try simp only [Lm, La, Lc, Ln, Lt, Ld, Lr, Li, true_or, or_true, true_and, and_true]); omega) | (simp <;> fail) | skip) [runM_nil, resL, enV, d_b8_b4, Ne.symm d_b8_b4]; rfl), (.cons _ (.cons _ (.refl _))), by simp (disch := first | (refine Ok.mk ?_; (try simp only [Lm, La, Lc, Ln, Lt, Ld, Lr, Li, true_or, or_true, true_and, and_true]); omega) | (simp <;> fail) | skip) [resV, enV], rfl⟩
end Go.Proofs.Ytibmolekndeofaa.E
/- Entries of a journal out of bytes, by the document. -/
namespace Go.Proofs.Ytibmolekndeofaa.E
open Go Go.RowKit Go.Proofs
set_option linter.unusedVariables false
set_option linter.unusedSimpArgs false
def entC (k : Nat) (b : List Nat) : En × Bool :=
  if (vtake b).2.2 ≠ 0 ∨ (vtake (vtake b).2.1).2.2 ≠ 0 ∨ (vtake (vtake (vtake b).2.1).2.1).2.2 ≠ 0 ∨ 0 < (vtake (vtake (vtake b).2.1).2.1).2.1.length ∨
    10000 < (vtake b).1 ∨ 10000 < (vtake (vtake b).2.1).1 ∨ 10000 < (vtake (vtake (vtake b).2.1).2.1).1 then (zE, false) else
  (⟨k, (vtake b).1, (vtake (vtake b).2.1).1, (vtake (vtake (vtake b).2.1).2.1).1⟩, mayJ ⟨k, (vtake b).1, (vtake (vtake b).2.1).1, (vtake (vtake (vtake b).2.1).2.1).1⟩)
def entR (s : List Nat) : En × Bool :=
  if (opened tbl s).2 ≠ 0 then (zE, false) else match (opened tbl s).1 with
  | [] => (zE, false)
  | k :: b => entC k b
theorem entBC (k : Nat) (b : List Nat) : (entB k b).2 = (entC k b).2 ∧ ((entC k b).2 = true → (entB k b).1 = (entC k b).1) := by
  unfold entB entC
  generalize (vtake (vtake (vtake b).2.1).2.1).1 = a3 at *
  generalize (vtake (vtake (vtake b).2.1).2.1).2.1 = r3 at *
  generalize (vtake (vtake (vtake b).2.1).2.1).2.2 = e3 at *
  generalize (vtake (vtake b).2.1).1 = a2 at *
  generalize (vtake (vtake b).2.1).2.2 = e2 at *
  generalize (vtake b).1 = a1 at *
  generalize (vtake b).2.2 = e1 at *
  by_cases h1 : e1 ≠ 0 ∨ 10000 < a1
  · rw [if_pos h1, if_pos (by omega)]; exact ⟨rfl, fun _ => rfl⟩
  rw [if_neg h1]
  by_cases h2 : e2 ≠ 0 ∨ 10000 < a2
  · rw [if_pos h2, if_pos (by omega)]; exact ⟨rfl, fun _ => rfl⟩
  rw [if_neg h2]
  by_cases h3 : e3 ≠ 0 ∨ 10000 < a3
  · rw [if_pos h3, if_pos (by omega)]; exact ⟨rfl, fun _ => rfl⟩
  rw [if_neg h3]
  cases r3 with
  | nil => rw [if_neg (by rw [Ln]; omega)]; simp
  | cons x r3 => rw [if_pos (by rw [Lc]; omega)]; simp
theorem entPR (s : List Nat) : (entP s).2 = (entR s).2 ∧ ((entR s).2 = true → (entP s).1 = (entR s).1) := by
  unfold entP entR
  by_cases h : (opened tbl s).2 ≠ 0
  · rw [if_pos h, if_pos h]; exact ⟨rfl, fun _ => rfl⟩
  rw [if_neg h, if_neg h]
  cases (opened tbl s).1 with
  | nil => exact ⟨rfl, fun _ => rfl⟩
  | cons k b => exact entBC k b
set_option maxRecDepth 8000 in
set_option maxHeartbeats 16000000 in
theorem refEntry_ok {s : List Nat} (hw : ∀ x ∈ s, x < 256) (hl : s.length ≤ 10000000000000) : PSpec Try.prog 42 [.str (ci s)] (.tup [enV (entR s).1, .bool (entR s).2]) := by
  intro H
  have co := rOpened_ok (s := 1) (xs := s.map u8) (o := false) (b := s) rfl (.inl rfl) hw (by omega)
  obtain ⟨how, hol, hoe⟩ := opened_wf hw
  have he : entR s = if (opened tbl s).2 ≠ 0 then (zE, false) else match (opened tbl s).1 with
    | [] => (zE, false)
    | k :: b => entC k b := rfl
  generalize (opened tbl s).1 = z at *
  generalize (opened tbl s).2 = e at *
  generalize entR s = r at *
  have hsl : (ci s).length ≤ 9223372036854775807 := by rw [Li]; omega
  refine spec_of t42 (by simp [p42]) ?_
  simp only [p42]
  first | refine pwp_sr ?_ | refine pwp_regionM ?_
  intro K hK
  simp (disch := first | (refine Ok.mk ?_; (try simp only [Lm, La, Lc, Ln, Lt, Ld, Lr, Li, true_or, or_true, true_and, and_true]); omega) | (simp <;> fail) | skip) [runM_nil]
  intro b2 h_b2
  try simp (disch := first | (refine Ok.mk ?_; (try simp only [Lm, La, Lc, Ln, Lt, Ld, Lr, Li, true_or, or_true, true_and, and_true]); omega) | (simp <;> fail) | skip) [runM_nil]
  refine hK _ _ ?_
  clear hK K
  first | refine pwp_sr ?_ | refine pwp_regionM ?_
  intro K hK
  simp (disch := first | (refine Ok.mk ?_; (try simp only [Lm, La, Lc, Ln, Lt, Ld, Lr, Li, true_or, or_true, true_and, and_true]); omega) | (simp <;> fail) | skip) [runM_nil]
  refine useP (co) ?_
  simp (disch := first | (refine Ok.mk ?_; (try simp only [Lm, La, Lc, Ln, Lt, Ld, Lr, Li, true_or, or_true, true_and, and_true]); omega) | (simp <;> fail) | skip) [runM_nil]
  refine hK _ _ ?_
  clear hK K
  rcases (show e ≠ 0 ∨ e = 0 by omega) with h0 | rfl
  · rw [if_pos h0] at he
    subst he
    first | refine pwp_rif ?_ | refine pwp_rifE ?_
    intro K hK
    simp (disch := first | (refine Ok.mk ?_; (try simp only [Lm, La, Lc, Ln, Lt, Ld, Lr, Li, true_or, or_true, true_and, and_true]); omega) | (simp <;> fail) | skip) [runM_nil, h0]
    refine hK _ _ ?_
    clear hK K
    refine ifT (by simp (disch := first | (refine Ok.mk ?_; (try simp only [Lm, La, Lc, Ln, Lt, Ld, Lr, Li, true_or, or_true, true_and, and_true]); omega) | (simp <;> fail) | skip) [runM_nil]) ?_
    first | refine pwp_sr ?_ | refine pwp_regionM ?_
    intro K hK
    simp (disch := first | (refine Ok.mk ?_; (try simp only [Lm, La, Lc, Ln, Lt, Ld, Lr, Li, true_or, or_true, true_and, and_true]); omega) | (simp <;> fail) | skip) [runM_nil]
    refine hK _ _ ?_
    clear hK K
    refine pwp_ret ⟨.inr rfl, _, _, (by simp (disch := first | (refine Ok.mk ?_; (try simp only [Lm, La, Lc, Ln, Lt, Ld, Lr, Li, true_or, or_true, true_and, and_true]); omega) | (simp <;> fail) | skip) [runM_nil, resL, enV, zE]; rfl), (.cons _ (.refl _)), by simp (disch := first | (refine Ok.mk ?_; (try simp only [Lm, La, Lc, Ln, Lt, Ld, Lr, Li, true_or, or_true, true_and, and_true]); omega) | (simp <;> fail) | skip) [resV, enV, zE], rfl⟩
  rw [if_neg (by omega)] at he
  cases z with
  | nil =>
    simp only at he
    subst he
    first | refine pwp_rif ?_ | refine pwp_rifE ?_
    intro K hK
    simp (disch := first | (refine Ok.mk ?_; (try simp only [Lm, La, Lc, Ln, Lt, Ld, Lr, Li, true_or, or_true, true_and, and_true]); omega) | (simp <;> fail) | skip) [runM_nil]
    refine hK _ _ ?_
    clear hK K
    refine ifT (by simp (disch := first | (refine Ok.mk ?_; (try simp only [Lm, La, Lc, Ln, Lt, Ld, Lr, Li, true_or, or_true, true_and, and_true]); omega) | (simp <;> fail) | skip) [runM_nil]) ?_
    first | refine pwp_sr ?_ | refine pwp_regionM ?_
    intro K hK
    simp (disch := first | (refine Ok.mk ?_; (try simp only [Lm, La, Lc, Ln, Lt, Ld, Lr, Li, true_or, or_true, true_and, and_true]); omega) | (simp <;> fail) | skip) [runM_nil]
    refine hK _ _ ?_
    clear hK K
    refine pwp_ret ⟨.inr rfl, _, _, (by simp (disch := first | (refine Ok.mk ?_; (try simp only [Lm, La, Lc, Ln, Lt, Ld, Lr, Li, true_or, or_true, true_and, and_true]); omega) | (simp <;> fail) | skip) [runM_nil, resL, enV, zE]; rfl), (.cons _ (.refl _)), by simp (disch := first | (refine Ok.mk ?_; (try simp only [Lm, La, Lc, Ln, Lt, Ld, Lr, Li, true_or, or_true, true_and, and_true]); omega) | (simp <;> fail) | skip) [resV, enV, zE], rfl⟩
  | cons k b =>
  simp only at he
  have hk := how k (List.mem_cons_self ..)
  have hbw : ∀ x ∈ b, x < 256 := fun x hx => how x (List.mem_cons_of_mem _ hx)
  rw [Lc] at hol
  clear how co
  subst he
  have w1 := vtake_wf hbw
  have w2 := vtake_wf w1
  have l1 : (vtake b).2.1.length ≤ b.length := (vtake_rest (s := b)).1
  have l2 : (vtake (vtake b).2.1).2.1.length ≤ (vtake b).2.1.length := (vtake_rest (s := (vtake b).2.1)).1
  have g1 := vtake_err b
  have g2 := vtake_err (vtake b).2.1
  have g3 := vtake_err (vtake (vtake b).2.1).2.1
  have n1 := vtake_lt hbw
  have n2 := vtake_lt w1
  have n3 := vtake_lt w2
  have c1 := rtake_ok (s := 1) (xs := b.map u8) (o := false) (b := b) rfl (.inl rfl) hbw (by omega)
  have c2 := rtake_ok (s := 1) (xs := (vtake b).2.1.map u8) (o := false) (b := (vtake b).2.1) rfl (.inl rfl) w1 (by omega)
  have c3 := rtake_ok (s := 1) (xs := (vtake (vtake b).2.1).2.1.map u8) (o := false) (b := (vtake (vtake b).2.1).2.1) rfl (.inl rfl) w2 (by omega)
  have hb0 : entC k b = entC k b := rfl
  conv at hb0 => rhs; unfold entC
  clear w1 w2 hbw
  generalize entC k b = rr at *
  generalize (vtake (vtake (vtake b).2.1).2.1).1 = a3 at *
  generalize (vtake (vtake (vtake b).2.1).2.1).2.1 = r3 at *
  generalize (vtake (vtake (vtake b).2.1).2.1).2.2 = e3 at *
  generalize (vtake (vtake b).2.1).1 = a2 at *
  generalize (vtake (vtake b).2.1).2.1 = r2 at *
  generalize (vtake (vtake b).2.1).2.2 = e2 at *
  generalize (vtake b).1 = a1 at *
  generalize (vtake b).2.1 = r1 at *
  generalize (vtake b).2.2 = e1 at *
  have cm := refMay_ok ⟨k, a1, a2, a3⟩
  simp only [enV] at cm
  first | refine pwp_rif ?_ | refine pwp_rifE ?_
  intro K hK
  simp (disch := first | (refine Ok.mk ?_; (try simp only [Lm, La, Lc, Ln, Lt, Ld, Lr, Li, true_or, or_true, true_and, and_true]); omega) | (simp <;> fail) | skip) [runM_nil]
  refine hK _ _ ?_
  clear hK K
  refine ifF (by simp (disch := first | (refine Ok.mk ?_; (try simp only [Lm, La, Lc, Ln, Lt, Ld, Lr, Li, true_or, or_true, true_and, and_true]); omega) | (simp <;> fail) | skip) [runM_nil]) (pwp_skip ?_)
  first | refine pwp_sr ?_ | refine pwp_regionM ?_
  intro K hK
  simp (disch := first | (refine Ok.mk ?_; (try simp only [Lm, La, Lc, Ln, Lt, Ld, Lr, Li, true_or, or_true, true_and, and_true]); omega) | (simp <;> fail) | skip) [runM_nil]
  intro b6 h_b6
  have d_b6_b2 : ¬ b2 = b6 := fun e => by subst e; simp [hget] at h_b6
  try simp (disch := first | (refine Ok.mk ?_; (try simp only [Lm, La, Lc, Ln, Lt, Ld, Lr, Li, true_or, or_true, true_and, and_true]); omega) | (simp <;> fail) | skip) [runM_nil, d_b6_b2, Ne.symm d_b6_b2]
  refine hK _ _ ?_
  clear hK K
  first | refine pwp_sr ?_ | refine pwp_regionM ?_
  intro K hK
  simp (disch := first | (refine Ok.mk ?_; (try simp only [Lm, La, Lc, Ln, Lt, Ld, Lr, Li, true_or, or_true, true_and, and_true]); omega) | (simp <;> fail) | skip) [runM_nil, d_b6_b2, Ne.symm d_b6_b2]
  refine useP (c1) ?_
  simp (disch := first | (refine Ok.mk ?_; (try simp only [Lm, La, Lc, Ln, Lt, Ld, Lr, Li, true_or, or_true, true_and, and_true]); omega) | (simp <;> fail) | skip) [runM_nil, d_b6_b2, Ne.symm d_b6_b2]
  refine hK _ _ ?_
  clear hK K
  first | refine pwp_sr ?_ | refine pwp_regionM ?_
  intro K hK
  simp (disch := first | (refine Ok.mk ?_; (try simp only [Lm, La, Lc, Ln, Lt, Ld, Lr, Li, true_or, or_true, true_and, and_true]); omega) | (simp <;> fail) | skip) [runM_nil, d_b6_b2, Ne.symm d_b6_b2]
  refine useP (c2) ?_
  simp (disch := first | (refine Ok.mk ?_; (try simp only [Lm, La, Lc, Ln, Lt, Ld, Lr, Li, true_or, or_true, true_and, and_true]); omega) | (simp <;> fail) | skip) [runM_nil, d_b6_b2, Ne.symm d_b6_b2]
  refine hK _ _ ?_
  clear hK K
  first | refine pwp_sr ?_ | refine pwp_regionM ?_
  intro K hK
  simp (disch := first | (refine Ok.mk ?_; (try simp only [Lm, La, Lc, Ln, Lt, Ld, Lr, Li, true_or, or_true, true_and, and_true]); omega) | (simp <;> fail) | skip) [runM_nil, d_b6_b2, Ne.symm d_b6_b2]
  refine useP (c3) ?_
  simp (disch := first | (refine Ok.mk ?_; (try simp only [Lm, La, Lc, Ln, Lt, Ld, Lr, Li, true_or, or_true, true_and, and_true]); omega) | (simp <;> fail) | skip) [runM_nil, d_b6_b2, Ne.symm d_b6_b2]
  refine hK _ _ ?_
  clear hK K
  by_cases hbad : e1 ≠ 0 ∨ e2 ≠ 0 ∨ e3 ≠ 0 ∨ 0 < r3.length ∨ 10000 < a1 ∨ 10000 < a2 ∨ 10000 < a3
  · rw [if_pos hbad] at hb0
    subst hb0
    have hc : e1 ≠ 0 ∨ (e1 = 0 ∧ e2 ≠ 0) ∨ (e1 = 0 ∧ e2 = 0 ∧ e3 ≠ 0) ∨ (e1 = 0 ∧ e2 = 0 ∧ e3 = 0 ∧ 0 < r3.length) ∨ (e1 = 0 ∧ e2 = 0 ∧ e3 = 0 ∧ r3.length = 0 ∧ 10000 < a1) ∨
      (e1 = 0 ∧ e2 = 0 ∧ e3 = 0 ∧ r3.length = 0 ∧ a1 ≤ 10000 ∧ 10000 < a2) ∨ (e1 = 0 ∧ e2 = 0 ∧ e3 = 0 ∧ r3.length = 0 ∧ a1 ≤ 10000 ∧ a2 ≤ 10000 ∧ 10000 < a3) := by omega
    clear hbad
    rcases hc with q | q | q | q | q | q | q
    all_goals
      first | refine pwp_rif ?_ | refine pwp_rifE ?_
      intro K hK
      simp (disch := first | (refine Ok.mk ?_; (try simp only [Lm, La, Lc, Ln, Lt, Ld, Lr, Li, true_or, or_true, true_and, and_true]); omega) | (simp <;> fail) | skip) [runM_nil, d_b6_b2, Ne.symm d_b6_b2]
      refine hK _ _ ?_
      clear hK K
      refine ifT (by simp (disch := first | (refine Ok.mk ?_; (try simp only [Lm, La, Lc, Ln, Lt, Ld, Lr, Li, true_or, or_true, true_and, and_true]); omega) | (simp <;> fail) | skip) [runM_nil]) ?_
      first | refine pwp_sr ?_ | refine pwp_regionM ?_
      intro K hK
      simp (disch := first | (refine Ok.mk ?_; (try simp only [Lm, La, Lc, Ln, Lt, Ld, Lr, Li, true_or, or_true, true_and, and_true]); omega) | (simp <;> fail) | skip) [runM_nil, d_b6_b2, Ne.symm d_b6_b2]
      refine hK _ _ ?_
      clear hK K
      refine pwp_ret ⟨.inr rfl, _, _, (by simp (disch := first | (refine Ok.mk ?_; (try simp only [Lm, La, Lc, Ln, Lt, Ld, Lr, Li, true_or, or_true, true_and, and_true]); omega) | (simp <;> fail) | skip) [runM_nil, resL, enV, zE, d_b6_b2, Ne.symm d_b6_b2]; rfl), (.cons _ (.cons _ (.refl _))), by simp (disch := first | (refine Ok.mk ?_; (try simp only [Lm, La, Lc, Ln, Lt, Ld, Lr, Li, true_or, or_true, true_and, and_true]); omega) | (simp <;> fail) | skip) [resV, enV, zE], rfl⟩
  · rw [if_neg hbad] at hb0
    subst hb0
    first | refine pwp_rif ?_ | refine pwp_rifE ?_
    intro K hK
    simp (disch := first | (refine Ok.mk ?_; (try simp only [Lm, La, Lc, Ln, Lt, Ld, Lr, Li, true_or, or_true, true_and, and_true]); omega) | (simp <;> fail) | skip) [runM_nil, d_b6_b2, Ne.symm d_b6_b2]
    refine hK _ _ ?_
    clear hK K
    refine ifF (by simp (disch := first | (refine Ok.mk ?_; (try simp only [Lm, La, Lc, Ln, Lt, Ld, Lr, Li, true_or, or_true, true_and, and_true]); omega) | (simp <;> fail) | skip) [runM_nil]) (pwp_skip ?_)
    first | refine pwp_sr ?_ | refine pwp_regionM ?_
    intro K hK
    simp (disch := first | (refine Ok.mk ?_; (try simp only [Lm, La, Lc, Ln, Lt, Ld, Lr, Li, true_or, or_true, true_and, and_true]); omega) | (simp <;> fail) | skip) [runM_nil, d_b6_b2, Ne.symm d_b6_b2]
    refine hK _ _ ?_
    clear hK K
    first | refine pwp_sr ?_ | refine pwp_regionM ?_
    intro K hK
    simp (disch := first | (refine Ok.mk ?_; (try simp only [Lm, La, Lc, Ln, Lt, Ld, Lr, Li, true_or, or_true, true_and, and_true]); omega) | (simp <;> fail) | skip) [runM_nil, d_b6_b2, Ne.symm d_b6_b2]
    refine hK _ _ ?_
    clear hK K
    first | refine pwp_sr ?_ | refine pwp_regionM ?_
    intro K hK
    simp (disch := first | (refine Ok.mk ?_; (try simp only [Lm, La, Lc, Ln, Lt, Ld, Lr, Li, true_or, or_true, true_and, and_true]); omega) | (simp <;> fail) | skip) [runM_nil, d_b6_b2, Ne.symm d_b6_b2]
    refine hK _ _ ?_
    clear hK K
    first | refine pwp_ss hmix ?_ | refine pwp_drawS hmix ?_
    intro K hK
    simp (disch := first | (refine Ok.mk ?_; (try simp only [Lm, La, Lc, Ln, Lt, Ld, Lr, Li, true_or, or_true, true_and, and_true]); omega) | (simp <;> fail) | skip) [runM_nil, planS_nil, d_b6_b2, Ne.symm d_b6_b2]
    refine useDS (cm) ?_
    simp (disch := first | (refine Ok.mk ?_; (try simp only [Lm, La, Lc, Ln, Lt, Ld, Lr, Li, true_or, or_true, true_and, and_true]); omega) | (simp <;> fail) | skip) [runM_nil, planS_nil, d_b6_b2, Ne.symm d_b6_b2]
    refine hK _ _ ?_
    clear hK K
    refine pwp_ret ⟨.inr rfl, _, _, (by simp (disch := first | (refine Ok.mk ?_; (try simp only [Lm, La, Lc, Ln, Lt, Ld, Lr, Li, true_or, or_true, true_and, and_true]); omega) | (simp <;> fail) | skip) [runM_nil, resL, enV, d_b6_b2, Ne.symm d_b6_b2]; rfl), (.cons _ (.cons _ (.refl _))), by simp (disch := first | (refine Ok.mk ?_; (try simp only [Lm, La, Lc, Ln, Lt, Ld, Lr, Li, true_or, or_true, true_and, and_true]); omega) | (simp <;> fail) | skip) [resV, enV], rfl⟩
end Go.Proofs.Ytibmolekndeofaa.E
/- The right part of a journal. -/
namespace Go.Proofs.Ytibmolekndeofaa.E
open Go Go.RowKit Go.Proofs
set_option linter.unusedVariables false
set_option linter.unusedSimpArgs false
theorem vtake_short {s : List Nat} (h : (vtake s).2.2 = 0) : (vtake s).2.1.length < s.length := by
  unfold vtake at h ⊢
  by_cases h1 : 10 ≤ lead s
  · rw [if_pos h1] at h; cases h
  rw [if_neg h1] at h ⊢
  by_cases h2 : lead s = s.length
  · rw [if_pos h2] at h; cases h
  rw [if_neg h2] at h ⊢
  by_cases h3 : vbad s (lead s)
  · rw [if_pos h3] at h; cases h
  rw [if_neg h3]
  have := lead_le s
  simp only [Ld]
  omega
theorem vframe_short {s : List Nat} {most : Int} (h : (vframe s most).2.2 = 0) : (vframe s most).2.1.length < s.length := by
  rcases vframe_cases s most rfl rfl rfl with ⟨q, e⟩ | ⟨_, _, e⟩ | ⟨_, _, _, e⟩ | ⟨_, _, _, _, e⟩ | ⟨q, _, _, _, e⟩
  · rw [e] at h; exact absurd h q
  · rw [e] at h; cases h
  · rw [e] at h; cases h
  · rw [e] at h; cases h
  · rw [e]
    have := vtake_short q
    simp only [Ld]
    omega
theorem vframe_wf {s : List Nat} (hw : ∀ x ∈ s, x < 256) (most : Int) : (∀ x ∈ (vframe s most).1, x < 256) ∧ (∀ x ∈ (vframe s most).2.1, x < 256) ∧ (vframe s most).1.length ≤ s.length ∧ (vframe s most).2.2 ≤ 5 := by
  have h1 := vtake_wf hw
  have h2 : (vtake s).2.1.length ≤ s.length := (vtake_rest (s := s)).1
  have h3 := vtake_err s
  rcases vframe_cases s most rfl rfl rfl with ⟨q, e⟩ | ⟨_, _, e⟩ | ⟨_, _, _, e⟩ | ⟨_, _, _, _, e⟩ | ⟨q, _, _, _, e⟩
  all_goals rw [e]
  any_goals exact ⟨(fun x hx => by cases hx), (fun x hx => by cases hx), Nat.zero_le _, by simp only; omega⟩
  exact ⟨(fun x hx => h1 x (List.mem_of_mem_take hx)), (fun x hx => h1 x (List.mem_of_mem_drop hx)), by simp only [Lt]; omega, by simp⟩
def readJ (l : List Nat) : List En × List Nat :=
  if h : l ≠ [] ∧ (vframe l 100).2.2 = 0 ∧ (entP (vframe l 100).1).2 = true then
    ((entP (vframe l 100).1).1 :: (readJ (vframe l 100).2.1).1, (readJ (vframe l 100).2.1).2)
  else ([], l)
termination_by l.length
decreasing_by all_goals exact vframe_short h.2.1
theorem readJ_go {l : List Nat} (h1 : l ≠ []) (h2 : (vframe l 100).2.2 = 0) (h3 : (entP (vframe l 100).1).2 = true) :
    readJ l = ((entP (vframe l 100).1).1 :: (readJ (vframe l 100).2.1).1, (readJ (vframe l 100).2.1).2) := by rw [readJ, dif_pos ⟨h1, h2, h3⟩]
theorem readJ_stop {l : List Nat} (h : l = [] ∨ (vframe l 100).2.2 ≠ 0 ∨ (entP (vframe l 100).1).2 = false) : readJ l = ([], l) := by
  rw [readJ, dif_neg]
  rintro ⟨h1, h2, h3⟩
  rcases h with h | h | h
  · exact h1 h
  · exact h h2
  · rw [h] at h3; cases h3
set_option maxRecDepth 8000 in
set_option maxHeartbeats 16000000 in
theorem read_ok26 {s : Nat} {xs : List PV} {o : Bool} {b : List Nat} (hx : xs = b.map u8) (hs : s = 1 ∨ b.length = 0) (hw : ∀ x ∈ b, x < 256) (hl : b.length ≤ 1000000000000) :
    PSpec Try.prog 10 [.lst s xs o] (.tup [.lst 4 ((readJ b).1.map enV) true, .int .i64 ((b.length : Int) - (readJ b).2.length)]) := by
  subst hx
  intro H
  refine spec_ofU t10 (by simp [p10]) ?_
  simp only [p10]
  first | refine pwp_sr ?_ | refine pwp_regionM ?_
  intro K hK
  simp (disch := first | (refine Ok.mk ?_; (try simp only [Lm, La, Lc, Ln, Lt, Ld, Lr, Li, true_or, or_true, true_and, and_true]); omega) | (simp <;> fail) | skip) [runM_nil]
  refine hK _ _ ?_
  clear hK K
  first | refine pwp_sr ?_ | refine pwp_regionM ?_
  intro K hK
  simp (disch := first | (refine Ok.mk ?_; (try simp only [Lm, La, Lc, Ln, Lt, Ld, Lr, Li, true_or, or_true, true_and, and_true]); omega) | (simp <;> fail) | skip) [runM_nil]
  refine hK _ _ ?_
  clear hK K
  first | refine pwp_sr ?_ | refine pwp_regionM ?_
  intro K hK
  simp (disch := first | (refine Ok.mk ?_; (try simp only [Lm, La, Lc, Ln, Lt, Ld, Lr, Li, true_or, or_true, true_and, and_true]); omega) | (simp <;> fail) | skip) [runM_nil]
  refine useP (table_ok) ?_
  simp (disch := first | (refine Ok.mk ?_; (try simp only [Lm, La, Lc, Ln, Lt, Ld, Lr, Li, true_or, or_true, true_and, and_true]); omega) | (simp <;> fail) | skip) [runM_nil]
  refine hK _ _ ?_
  clear hK K
  refine pwp_seq (pwp_block ?_)
  refine pwp_loopU [0, 4, 5, 6] (fun m st H' => ∃ (acc : List En) (l : List Nat) (s2 : Nat) (o1 o2 : Bool), (s2 = 1 ∨ l.length = 0) ∧ (∀ x ∈ l, x < 256) ∧ acc.length + l.length ≤ b.length ∧ m = l.length ∧ readJ b = (acc ++ (readJ l).1, (readJ l).2) ∧ H' = H ∧
      st = MS 46 [(0, .lst s (b.map u8) o1), (4, .lst 4 (acc.map enV) true), (5, .lst 1 (tbl.map u32) false), (6, .lst s2 (l.map u8) o2)]) (n := b.length)
    ⟨_, _, keep_up (l' := [(0, .lst s (b.map u8) false), (4, .lst 4 [] true), (5, .lst 1 (tbl.map u32) false), (6, .lst s (b.map u8) o)]) (by simp), List.Sublist.refl _, [], b, s, false, o, hs, hw, by simp, rfl, by simp, rfl, by simp⟩ ?_
  rintro m st H' ⟨acc, l, s2, o1, o2, hs2, hlw, hal, rfl, hr, rfl, rfl⟩
  have hfw := vframe_wf hlw 100
  have hfs := vframe_short (s := l) (most := 100)
  have ct := takeFrame_ok (s := s2) (xs := l.map u8) (o := false) (b := l) rfl hs2 hlw (by omega) 100 (by omega)
  have hstop := readJ_stop (l := l)
  have hgo := readJ_go (l := l)
  obtain ⟨hf1, hf2, hf3, hf4⟩ := hfw
  generalize (vframe l 100).1 = f1 at *
  generalize (vframe l 100).2.1 = f2 at *
  generalize (vframe l 100).2.2 = f3 at *
  have ce := entry_ok26 (s := f1) hf1 (by omega) (ot := false)
  have hz : (entP f1).1 = (entP f1).1 := rfl
  generalize (entP f1).1 = x at *
  generalize (entP f1).2 = ok at *
  simp only [enV] at ce
  cases l with
  | nil =>
    have e := hstop (.inl rfl)
    rw [e, List.append_nil] at hr
    rw [hr]
    first | refine pwp_rif ?_ | refine pwp_rifE ?_
    intro K hK
    simp (disch := first | (refine Ok.mk ?_; (try simp only [Lm, La, Lc, Ln, Lt, Ld, Lr, Li, true_or, or_true, true_and, and_true]); omega) | (simp <;> fail) | skip) [runM_nil]
    refine hK _ _ ?_
    clear hK K
    refine ifF (by simp (disch := first | (refine Ok.mk ?_; (try simp only [Lm, La, Lc, Ln, Lt, Ld, Lr, Li, true_or, or_true, true_and, and_true]); omega) | (simp <;> fail) | skip) [runM_nil]) ?_
    refine pwp_exit ?_
    first | refine pwp_sr ?_ | refine pwp_regionM ?_
    intro K hK
    simp (disch := first | (refine Ok.mk ?_; (try simp only [Lm, La, Lc, Ln, Lt, Ld, Lr, Li, true_or, or_true, true_and, and_true]); omega) | (simp <;> fail) | skip) [runM_nil]
    refine hK _ _ ?_
    clear hK K
    refine pwp_ret ⟨.inr rfl, _, _, _, (by simp (disch := first | (refine Ok.mk ?_; (try simp only [Lm, La, Lc, Ln, Lt, Ld, Lr, Li, true_or, or_true, true_and, and_true]); omega) | (simp <;> fail) | skip) [runM_nil, resL, enV]; rfl), .refl _, (by simp (disch := first | (refine Ok.mk ?_; (try simp only [Lm, La, Lc, Ln, Lt, Ld, Lr, Li, true_or, or_true, true_and, and_true]); omega) | (simp <;> fail) | skip) [resV, enV]), rfl, rfl⟩
  | cons y l =>
    first | refine pwp_rif ?_ | refine pwp_rifE ?_
    intro K hK
    simp (disch := first | (refine Ok.mk ?_; (try simp only [Lm, La, Lc, Ln, Lt, Ld, Lr, Li, true_or, or_true, true_and, and_true]); omega) | (simp <;> fail) | skip) [runM_nil]
    refine hK _ _ ?_
    clear hK K
    refine ifT (by simp (disch := first | (refine Ok.mk ?_; (try simp only [Lm, La, Lc, Ln, Lt, Ld, Lr, Li, true_or, or_true, true_and, and_true]); omega) | (simp <;> fail) | skip) [runM_nil]) (pwp_skip ?_)
    refine pwp_block ?_
    simp at ct
    rw [Lc] at hal
    first | refine pwp_sr ?_ | refine pwp_regionM ?_
    intro K hK
    simp (disch := first | (refine Ok.mk ?_; (try simp only [Lm, La, Lc, Ln, Lt, Ld, Lr, Li, true_or, or_true, true_and, and_true]); omega) | (simp <;> fail) | skip) [runM_nil]
    refine useP (ct) ?_
    simp (disch := first | (refine Ok.mk ?_; (try simp only [Lm, La, Lc, Ln, Lt, Ld, Lr, Li, true_or, or_true, true_and, and_true]); omega) | (simp <;> fail) | skip) [runM_nil]
    refine hK _ _ ?_
    clear hK K
    first | refine pwp_sr ?_ | refine pwp_regionM ?_
    intro K hK
    simp (disch := first | (refine Ok.mk ?_; (try simp only [Lm, La, Lc, Ln, Lt, Ld, Lr, Li, true_or, or_true, true_and, and_true]); omega) | (simp <;> fail) | skip) [runM_nil]
    refine useP (ce) ?_
    simp (disch := first | (refine Ok.mk ?_; (try simp only [Lm, La, Lc, Ln, Lt, Ld, Lr, Li, true_or, or_true, true_and, and_true]); omega) | (simp <;> fail) | skip) [runM_nil]
    intro b10 h_b10
    try simp (disch := first | (refine Ok.mk ?_; (try simp only [Lm, La, Lc, Ln, Lt, Ld, Lr, Li, true_or, or_true, true_and, and_true]); omega) | (simp <;> fail) | skip) [runM_nil]
    refine hK _ _ ?_
    clear hK K
    by_cases h3 : f3 = 0
    · subst h3
      cases ok with
      | false =>
        have e := hstop (.inr (.inr rfl))
        rw [e, List.append_nil] at hr
        rw [hr]
        first | refine pwp_rif ?_ | refine pwp_rifE ?_
        intro K hK
        simp (disch := first | (refine Ok.mk ?_; (try simp only [Lm, La, Lc, Ln, Lt, Ld, Lr, Li, true_or, or_true, true_and, and_true]); omega) | (simp <;> fail) | skip) [runM_nil]
        refine hK _ _ ?_
        clear hK K
        refine ifT (by simp (disch := first | (refine Ok.mk ?_; (try simp only [Lm, La, Lc, Ln, Lt, Ld, Lr, Li, true_or, or_true, true_and, and_true]); omega) | (simp <;> fail) | skip) [runM_nil]) ?_
        refine pwp_exit ?_
        first | refine pwp_sr ?_ | refine pwp_regionM ?_
        intro K hK
        simp (disch := first | (refine Ok.mk ?_; (try simp only [Lm, La, Lc, Ln, Lt, Ld, Lr, Li, true_or, or_true, true_and, and_true]); omega) | (simp <;> fail) | skip) [runM_nil]
        refine hK _ _ ?_
        clear hK K
        refine pwp_ret ⟨.inr rfl, _, _, _, (by simp (disch := first | (refine Ok.mk ?_; (try simp only [Lm, La, Lc, Ln, Lt, Ld, Lr, Li, true_or, or_true, true_and, and_true]); omega) | (simp <;> fail) | skip) [runM_nil, resL, enV]; rfl), (.cons _ (.refl _)), (by simp (disch := first | (refine Ok.mk ?_; (try simp only [Lm, La, Lc, Ln, Lt, Ld, Lr, Li, true_or, or_true, true_and, and_true]); omega) | (simp <;> fail) | skip) [resV, enV]), rfl, rfl⟩
      | true =>
        have e := hgo (by simp) rfl rfl
        have hsh := hfs rfl
        rw [Lc] at hsh
        first | refine pwp_rif ?_ | refine pwp_rifE ?_
        intro K hK
        simp (disch := first | (refine Ok.mk ?_; (try simp only [Lm, La, Lc, Ln, Lt, Ld, Lr, Li, true_or, or_true, true_and, and_true]); omega) | (simp <;> fail) | skip) [runM_nil]
        refine hK _ _ ?_
        clear hK K
        refine ifF (by simp (disch := first | (refine Ok.mk ?_; (try simp only [Lm, La, Lc, Ln, Lt, Ld, Lr, Li, true_or, or_true, true_and, and_true]); omega) | (simp <;> fail) | skip) [runM_nil]) (pwp_skip ?_)
        first | refine pwp_sr ?_ | refine pwp_regionM ?_
        intro K hK
        simp (disch := first | (refine Ok.mk ?_; (try simp only [Lm, La, Lc, Ln, Lt, Ld, Lr, Li, true_or, or_true, true_and, and_true]); omega) | (simp <;> fail) | skip) [runM_nil]
        refine hK _ _ ?_
        clear hK K
        refine ⟨f2.length, by rw [Lc]; omega, _, _, keep_up (l' := [(0, .lst s (b.map u8) o1), (4, .lst 4 ((acc ++ [x]).map enV) true), (5, .lst 1 (tbl.map u32) false), (6, .lst 1 (f2.map u8) false)]) ?_, .cons _ (.refl _), acc ++ [x], f2, 1, o1, false, .inl rfl, hf2, by simp; omega, rfl, ?_, rfl, rfl⟩
        · simp [enV]
        · rw [hr, e, List.append_assoc]; rfl
    · have e := hstop (.inr (.inl h3))
      rw [e, List.append_nil] at hr
      rw [hr]
      first | refine pwp_rif ?_ | refine pwp_rifE ?_
      intro K hK
      simp (disch := first | (refine Ok.mk ?_; (try simp only [Lm, La, Lc, Ln, Lt, Ld, Lr, Li, true_or, or_true, true_and, and_true]); omega) | (simp <;> fail) | skip) [runM_nil, h3]
      refine hK _ _ ?_
      clear hK K
      refine ifT (by simp (disch := first | (refine Ok.mk ?_; (try simp only [Lm, La, Lc, Ln, Lt, Ld, Lr, Li, true_or, or_true, true_and, and_true]); omega) | (simp <;> fail) | skip) [runM_nil]) ?_
      refine pwp_exit ?_
      first | refine pwp_sr ?_ | refine pwp_regionM ?_
      intro K hK
      simp (disch := first | (refine Ok.mk ?_; (try simp only [Lm, La, Lc, Ln, Lt, Ld, Lr, Li, true_or, or_true, true_and, and_true]); omega) | (simp <;> fail) | skip) [runM_nil]
      refine hK _ _ ?_
      clear hK K
      refine pwp_ret ⟨.inr rfl, _, _, _, (by simp (disch := first | (refine Ok.mk ?_; (try simp only [Lm, La, Lc, Ln, Lt, Ld, Lr, Li, true_or, or_true, true_and, and_true]); omega) | (simp <;> fail) | skip) [runM_nil, resL, enV]; rfl), (.cons _ (.refl _)), (by simp (disch := first | (refine Ok.mk ?_; (try simp only [Lm, La, Lc, Ln, Lt, Ld, Lr, Li, true_or, or_true, true_and, and_true]); omega) | (simp <;> fail) | skip) [resV, enV]), rfl, rfl⟩
set_option maxRecDepth 8000 in
set_option maxHeartbeats 16000000 in
theorem refRead_ok {s : Nat} {xs : List PV} {o : Bool} {b : List Nat} (hx : xs = b.map u8) (hs : s = 1 ∨ b.length = 0) (hw : ∀ x ∈ b, x < 256) (hl : b.length ≤ 1000000000000) :
    PSpec Try.prog 18 [.lst s xs o] (.tup [.lst 4 ((readJ b).1.map enV) true, .int .i64 ((b.length : Int) - (readJ b).2.length)]) := by
  subst hx
  intro H
  refine spec_of t18 (by simp [p18]) ?_
  simp only [p18]
  first | refine pwp_sr ?_ | refine pwp_regionM ?_
  intro K hK
  simp (disch := first | (refine Ok.mk ?_; (try simp only [Lm, La, Lc, Ln, Lt, Ld, Lr, Li, true_or, or_true, true_and, and_true]); omega) | (simp <;> fail) | skip) [runM_nil]
  refine hK _ _ ?_
  clear hK K
  first | refine pwp_sr ?_ | refine pwp_regionM ?_
  intro K hK
  simp (disch := first | (refine Ok.mk ?_; (try simp only [Lm, La, Lc, Ln, Lt, Ld, Lr, Li, true_or, or_true, true_and, and_true]); omega) | (simp <;> fail) | skip) [runM_nil]
  refine hK _ _ ?_
  clear hK K
  first | refine pwp_sr ?_ | refine pwp_regionM ?_
  intro K hK
  simp (disch := first | (refine Ok.mk ?_; (try simp only [Lm, La, Lc, Ln, Lt, Ld, Lr, Li, true_or, or_true, true_and, and_true]); omega) | (simp <;> fail) | skip) [runM_nil]
  refine hK _ _ ?_
  clear hK K
  refine pwp_seq (pwp_block ?_)
  refine pwp_loopK [0, 4, 5] (fun m st H' => ∃ (acc : List En) (l : List Nat) (s2 : Nat) (o1 o2 : Bool), (s2 = 1 ∨ l.length = 0) ∧ (∀ x ∈ l, x < 256) ∧ acc.length + l.length ≤ b.length ∧ m = l.length ∧ readJ b = (acc ++ (readJ l).1, (readJ l).2) ∧ H' = H ∧
      st = MS 42 [(0, .lst s (b.map u8) o1), (4, .lst 4 (acc.map enV) true), (5, .lst s2 (l.map u8) o2)]) (n := b.length)
    ⟨_, List.Sublist.refl _, [], b, s, false, o, hs, hw, by simp, rfl, by simp, rfl, by simp [keepL_MS, keepA, getS]⟩ ?_
  rintro m st H' ⟨acc, l, s2, o1, o2, hs2, hlw, hal, rfl, hr, rfl, rfl⟩
  have hfw := vframe_wf hlw 100
  have hfs := vframe_short (s := l) (most := 100)
  have ct := rtakeFrame_ok (s := s2) (xs := l.map u8) (o := false) (b := l) rfl hs2 hlw (by omega) 100 (by omega)
  have hstop := readJ_stop (l := l)
  have hgo := readJ_go (l := l)
  obtain ⟨hf1, hf2, hf3, hf4⟩ := hfw
  generalize (vframe l 100).1 = f1 at *
  generalize (vframe l 100).2.1 = f2 at *
  generalize (vframe l 100).2.2 = f3 at *
  have ce := refEntry_ok (s := f1) hf1 (by omega)
  obtain ⟨hpr1, hpr2⟩ := entPR f1
  generalize (entP f1).1 = x' at *
  generalize (entP f1).2 = ok' at *
  generalize (entR f1).1 = x at *
  generalize (entR f1).2 = ok at *
  subst hpr1
  simp only [enV] at ce
  cases l with
  | nil =>
    have e := hstop (.inl rfl)
    rw [e, List.append_nil] at hr
    rw [hr]
    first | refine pwp_rif ?_ | refine pwp_rifE ?_
    intro K hK
    simp (disch := first | (refine Ok.mk ?_; (try simp only [Lm, La, Lc, Ln, Lt, Ld, Lr, Li, true_or, or_true, true_and, and_true]); omega) | (simp <;> fail) | skip) [runM_nil]
    refine hK _ _ ?_
    clear hK K
    refine ifF (by simp (disch := first | (refine Ok.mk ?_; (try simp only [Lm, La, Lc, Ln, Lt, Ld, Lr, Li, true_or, or_true, true_and, and_true]); omega) | (simp <;> fail) | skip) [runM_nil]) ?_
    refine pwp_exit ?_
    first | refine pwp_sr ?_ | refine pwp_regionM ?_
    intro K hK
    simp (disch := first | (refine Ok.mk ?_; (try simp only [Lm, La, Lc, Ln, Lt, Ld, Lr, Li, true_or, or_true, true_and, and_true]); omega) | (simp <;> fail) | skip) [runM_nil]
    refine hK _ _ ?_
    clear hK K
    refine pwp_ret ⟨.inr rfl, _, _, (by simp (disch := first | (refine Ok.mk ?_; (try simp only [Lm, La, Lc, Ln, Lt, Ld, Lr, Li, true_or, or_true, true_and, and_true]); omega) | (simp <;> fail) | skip) [runM_nil, resL, enV]; rfl), .refl _, by simp (disch := first | (refine Ok.mk ?_; (try simp only [Lm, La, Lc, Ln, Lt, Ld, Lr, Li, true_or, or_true, true_and, and_true]); omega) | (simp <;> fail) | skip) [resV, enV], rfl⟩
  | cons y l =>
    first | refine pwp_rif ?_ | refine pwp_rifE ?_
    intro K hK
    simp (disch := first | (refine Ok.mk ?_; (try simp only [Lm, La, Lc, Ln, Lt, Ld, Lr, Li, true_or, or_true, true_and, and_true]); omega) | (simp <;> fail) | skip) [runM_nil]
    refine hK _ _ ?_
    clear hK K
    refine ifT (by simp (disch := first | (refine Ok.mk ?_; (try simp only [Lm, La, Lc, Ln, Lt, Ld, Lr, Li, true_or, or_true, true_and, and_true]); omega) | (simp <;> fail) | skip) [runM_nil]) (pwp_skip ?_)
    refine pwp_block ?_
    simp at ct
    rw [Lc] at hal
    first | refine pwp_sr ?_ | refine pwp_regionM ?_
    intro K hK
    simp (disch := first | (refine Ok.mk ?_; (try simp only [Lm, La, Lc, Ln, Lt, Ld, Lr, Li, true_or, or_true, true_and, and_true]); omega) | (simp <;> fail) | skip) [runM_nil]
    refine useP (ct) ?_
    simp (disch := first | (refine Ok.mk ?_; (try simp only [Lm, La, Lc, Ln, Lt, Ld, Lr, Li, true_or, or_true, true_and, and_true]); omega) | (simp <;> fail) | skip) [runM_nil]
    refine hK _ _ ?_
    clear hK K
    by_cases h3 : f3 = 0
    · subst h3
      first | refine pwp_rif ?_ | refine pwp_rifE ?_
      intro K hK
      simp (disch := first | (refine Ok.mk ?_; (try simp only [Lm, La, Lc, Ln, Lt, Ld, Lr, Li, true_or, or_true, true_and, and_true]); omega) | (simp <;> fail) | skip) [runM_nil]
      refine hK _ _ ?_
      clear hK K
      refine ifF (by simp (disch := first | (refine Ok.mk ?_; (try simp only [Lm, La, Lc, Ln, Lt, Ld, Lr, Li, true_or, or_true, true_and, and_true]); omega) | (simp <;> fail) | skip) [runM_nil]) (pwp_skip ?_)
      first | refine pwp_sr ?_ | refine pwp_regionM ?_
      intro K hK
      simp (disch := first | (refine Ok.mk ?_; (try simp only [Lm, La, Lc, Ln, Lt, Ld, Lr, Li, true_or, or_true, true_and, and_true]); omega) | (simp <;> fail) | skip) [runM_nil]
      refine useP (ce) ?_
      simp (disch := first | (refine Ok.mk ?_; (try simp only [Lm, La, Lc, Ln, Lt, Ld, Lr, Li, true_or, or_true, true_and, and_true]); omega) | (simp <;> fail) | skip) [runM_nil]
      intro b9 h_b9
      try simp (disch := first | (refine Ok.mk ?_; (try simp only [Lm, La, Lc, Ln, Lt, Ld, Lr, Li, true_or, or_true, true_and, and_true]); omega) | (simp <;> fail) | skip) [runM_nil]
      refine hK _ _ ?_
      clear hK K
      cases ok' with
      | false =>
        have e := hstop (.inr (.inr rfl))
        rw [e, List.append_nil] at hr
        rw [hr]
        first | refine pwp_rif ?_ | refine pwp_rifE ?_
        intro K hK
        simp (disch := first | (refine Ok.mk ?_; (try simp only [Lm, La, Lc, Ln, Lt, Ld, Lr, Li, true_or, or_true, true_and, and_true]); omega) | (simp <;> fail) | skip) [runM_nil]
        refine hK _ _ ?_
        clear hK K
        refine ifT (by simp (disch := first | (refine Ok.mk ?_; (try simp only [Lm, La, Lc, Ln, Lt, Ld, Lr, Li, true_or, or_true, true_and, and_true]); omega) | (simp <;> fail) | skip) [runM_nil]) ?_
        refine pwp_exit ?_
        first | refine pwp_sr ?_ | refine pwp_regionM ?_
        intro K hK
        simp (disch := first | (refine Ok.mk ?_; (try simp only [Lm, La, Lc, Ln, Lt, Ld, Lr, Li, true_or, or_true, true_and, and_true]); omega) | (simp <;> fail) | skip) [runM_nil]
        refine hK _ _ ?_
        clear hK K
        refine pwp_ret ⟨.inr rfl, _, _, (by simp (disch := first | (refine Ok.mk ?_; (try simp only [Lm, La, Lc, Ln, Lt, Ld, Lr, Li, true_or, or_true, true_and, and_true]); omega) | (simp <;> fail) | skip) [runM_nil, resL, enV]; rfl), (.cons _ (.refl _)), by simp (disch := first | (refine Ok.mk ?_; (try simp only [Lm, La, Lc, Ln, Lt, Ld, Lr, Li, true_or, or_true, true_and, and_true]); omega) | (simp <;> fail) | skip) [resV, enV], rfl⟩
      | true =>
        have e := hgo (by simp) rfl rfl
        rw [hpr2 rfl] at e
        have hsh := hfs rfl
        rw [Lc] at hsh
        first | refine pwp_rif ?_ | refine pwp_rifE ?_
        intro K hK
        simp (disch := first | (refine Ok.mk ?_; (try simp only [Lm, La, Lc, Ln, Lt, Ld, Lr, Li, true_or, or_true, true_and, and_true]); omega) | (simp <;> fail) | skip) [runM_nil]
        refine hK _ _ ?_
        clear hK K
        refine ifF (by simp (disch := first | (refine Ok.mk ?_; (try simp only [Lm, La, Lc, Ln, Lt, Ld, Lr, Li, true_or, or_true, true_and, and_true]); omega) | (simp <;> fail) | skip) [runM_nil]) (pwp_skip ?_)
        first | refine pwp_sr ?_ | refine pwp_regionM ?_
        intro K hK
        simp (disch := first | (refine Ok.mk ?_; (try simp only [Lm, La, Lc, Ln, Lt, Ld, Lr, Li, true_or, or_true, true_and, and_true]); omega) | (simp <;> fail) | skip) [runM_nil]
        refine hK _ _ ?_
        clear hK K
        first | refine pwp_sr ?_ | refine pwp_regionM ?_
        intro K hK
        simp (disch := first | (refine Ok.mk ?_; (try simp only [Lm, La, Lc, Ln, Lt, Ld, Lr, Li, true_or, or_true, true_and, and_true]); omega) | (simp <;> fail) | skip) [runM_nil]
        refine hK _ _ ?_
        clear hK K
        refine ⟨f2.length, by rw [Lc]; omega, _, .cons _ (.refl _), acc ++ [x], f2, 1, o1, true, .inl rfl, hf2, by simp; omega, rfl, ?_, rfl, ?_⟩
        · rw [hr, e, List.append_assoc]; rfl
        · simp [keepL_MS, keepA, getS, enV]
    · have e := hstop (.inr (.inl h3))
      rw [e, List.append_nil] at hr
      rw [hr]
      first | refine pwp_rif ?_ | refine pwp_rifE ?_
      intro K hK
      simp (disch := first | (refine Ok.mk ?_; (try simp only [Lm, La, Lc, Ln, Lt, Ld, Lr, Li, true_or, or_true, true_and, and_true]); omega) | (simp <;> fail) | skip) [runM_nil, h3]
      refine hK _ _ ?_
      clear hK K
      refine ifT (by simp (disch := first | (refine Ok.mk ?_; (try simp only [Lm, La, Lc, Ln, Lt, Ld, Lr, Li, true_or, or_true, true_and, and_true]); omega) | (simp <;> fail) | skip) [runM_nil]) ?_
      refine pwp_exit ?_
      first | refine pwp_sr ?_ | refine pwp_regionM ?_
      intro K hK
      simp (disch := first | (refine Ok.mk ?_; (try simp only [Lm, La, Lc, Ln, Lt, Ld, Lr, Li, true_or, or_true, true_and, and_true]); omega) | (simp <;> fail) | skip) [runM_nil]
      refine hK _ _ ?_
      clear hK K
      refine pwp_ret ⟨.inr rfl, _, _, (by simp (disch := first | (refine Ok.mk ?_; (try simp only [Lm, La, Lc, Ln, Lt, Ld, Lr, Li, true_or, or_true, true_and, and_true]); omega) | (simp <;> fail) | skip) [runM_nil, resL, enV]; rfl), .refl _, by simp (disch := first | (refine Ok.mk ?_; (try simp only [Lm, La, Lc, Ln, Lt, Ld, Lr, Li, true_or, or_true, true_and, and_true]); omega) | (simp <;> fail) | skip) [resV, enV], rfl⟩
end Go.Proofs.Ytibmolekndeofaa.E
/- Products of small numbers; rows of one number. -/
namespace Go.Proofs.Ytibmolekndeofaa.E
open Go Go.RowKit Go.Proofs
set_option linter.unusedVariables false
set_option linter.unusedSimpArgs false
theorem and_ones {n : Nat} (h : n < 4294967296) : n &&& 4294967295 = n := by
  have := Nat.and_two_pow_sub_one_eq_mod n 32
  rw [show (2 : Nat) ^ 32 - 1 = 4294967295 from rfl] at this
  rw [this]
  exact Nat.mod_eq_of_lt h
set_option maxRecDepth 4000 in
theorem mul64_ok (a b : Nat) (ha : a < 4294967296) (hb : b < 4294967296) (hab : a * b < 4294967296) : PSpec Try.prog 73 [.int .u64 a, .int .u64 b] (.tup [.int .u64 0, .int .u64 (a * b : Nat)]) := by
  intro H
  have a1 := and_ones ha
  have b1 := and_ones hb
  have e1 : (a : Int) / 4294967296 = 0 := by omega
  have e2 : (b : Int) / 4294967296 = 0 := by omega
  have hq : (a : Int) * b = (a * b : Nat) := by simp
  generalize a * b = q at *
  have e3 : (q : Int) / 4294967296 = 0 := by omega
  refine spec_of t73 (by simp [p73]) ?_
  simp only [p73]
  first | refine pwp_sr ?_ | refine pwp_regionM ?_
  intro K hK
  simp (disch := first | (refine Ok.mk ?_; (try simp only [Lm, La, Lc, Ln, Lt, Ld, Lr, Li, true_or, or_true, true_and, and_true]); omega) | (simp <;> fail) | skip) [runM_nil]
  refine hK _ _ ?_
  clear hK K
  first | refine pwp_sr ?_ | refine pwp_regionM ?_
  intro K hK
  simp (disch := first | (refine Ok.mk ?_; (try simp only [Lm, La, Lc, Ln, Lt, Ld, Lr, Li, true_or, or_true, true_and, and_true]); omega) | (simp <;> fail) | skip) [runM_nil, a1]
  refine hK _ _ ?_
  clear hK K
  first | refine pwp_sr ?_ | refine pwp_regionM ?_
  intro K hK
  simp (disch := first | (refine Ok.mk ?_; (try simp only [Lm, La, Lc, Ln, Lt, Ld, Lr, Li, true_or, or_true, true_and, and_true]); omega) | (simp <;> fail) | skip) [runM_nil, e1]
  refine hK _ _ ?_
  clear hK K
  first | refine pwp_sr ?_ | refine pwp_regionM ?_
  intro K hK
  simp (disch := first | (refine Ok.mk ?_; (try simp only [Lm, La, Lc, Ln, Lt, Ld, Lr, Li, true_or, or_true, true_and, and_true]); omega) | (simp <;> fail) | skip) [runM_nil, b1]
  refine hK _ _ ?_
  clear hK K
  first | refine pwp_sr ?_ | refine pwp_regionM ?_
  intro K hK
  simp (disch := first | (refine Ok.mk ?_; (try simp only [Lm, La, Lc, Ln, Lt, Ld, Lr, Li, true_or, or_true, true_and, and_true]); omega) | (simp <;> fail) | skip) [runM_nil, e2]
  refine hK _ _ ?_
  clear hK K
  first | refine pwp_sr ?_ | refine pwp_regionM ?_
  intro K hK
  simp (disch := first | (refine Ok.mk ?_; (try simp only [Lm, La, Lc, Ln, Lt, Ld, Lr, Li, true_or, or_true, true_and, and_true]); omega) | (simp <;> fail) | skip) [runM_nil, hq]
  refine hK _ _ ?_
  clear hK K
  first | refine pwp_sr ?_ | refine pwp_regionM ?_
  intro K hK
  simp (disch := first | (refine Ok.mk ?_; (try simp only [Lm, La, Lc, Ln, Lt, Ld, Lr, Li, true_or, or_true, true_and, and_true]); omega) | (simp <;> fail) | skip) [runM_nil, hq, e3]
  refine hK _ _ ?_
  clear hK K
  first | refine pwp_sr ?_ | refine pwp_regionM ?_
  intro K hK
  simp (disch := first | (refine Ok.mk ?_; (try simp only [Lm, La, Lc, Ln, Lt, Ld, Lr, Li, true_or, or_true, true_and, and_true]); omega) | (simp <;> fail) | skip) [runM_nil]
  refine hK _ _ ?_
  clear hK K
  first | refine pwp_sr ?_ | refine pwp_regionM ?_
  intro K hK
  simp (disch := first | (refine Ok.mk ?_; (try simp only [Lm, La, Lc, Ln, Lt, Ld, Lr, Li, true_or, or_true, true_and, and_true]); omega) | (simp <;> fail) | skip) [runM_nil]
  refine hK _ _ ?_
  clear hK K
  first | refine pwp_sr ?_ | refine pwp_regionM ?_
  intro K hK
  simp (disch := first | (refine Ok.mk ?_; (try simp only [Lm, La, Lc, Ln, Lt, Ld, Lr, Li, true_or, or_true, true_and, and_true]); omega) | (simp <;> fail) | skip) [runM_nil]
  refine hK _ _ ?_
  clear hK K
  first | refine pwp_sr ?_ | refine pwp_regionM ?_
  intro K hK
  simp (disch := first | (refine Ok.mk ?_; (try simp only [Lm, La, Lc, Ln, Lt, Ld, Lr, Li, true_or, or_true, true_and, and_true]); omega) | (simp <;> fail) | skip) [runM_nil]
  refine hK _ _ ?_
  clear hK K
  first | refine pwp_sr ?_ | refine pwp_regionM ?_
  intro K hK
  simp (disch := first | (refine Ok.mk ?_; (try simp only [Lm, La, Lc, Ln, Lt, Ld, Lr, Li, true_or, or_true, true_and, and_true]); omega) | (simp <;> fail) | skip) [runM_nil, hq]
  refine hK _ _ ?_
  clear hK K
  refine pwp_ret ⟨.inr rfl, _, _, (by simp (disch := first | (refine Ok.mk ?_; (try simp only [Lm, La, Lc, Ln, Lt, Ld, Lr, Li, true_or, or_true, true_and, and_true]); omega) | (simp <;> fail) | skip) [runM_nil, resL]; rfl), .refl _, by simp (disch := first | (refine Ok.mk ?_; (try simp only [Lm, La, Lc, Ln, Lt, Ld, Lr, Li, true_or, or_true, true_and, and_true]); omega) | (simp <;> fail) | skip) [resV], rfl⟩
theorem mulU_ok (a b : Nat) (ha : a < 4294967296) (hb : b < 4294967296) (hab : a * b < 4294967296) : PSpec Try.prog 67 [.int .u64 a, .int .u64 b] (.tup [.int .u64 0, .int .u64 (a * b : Nat)]) := by
  intro H
  have c := mul64_ok a b ha hb hab
  generalize a * b = q at *
  refine spec_of t67 (by simp [p67]) ?_
  simp only [p67]
  first | refine pwp_sr ?_ | refine pwp_regionM ?_
  intro K hK
  simp (disch := first | (refine Ok.mk ?_; (try simp only [Lm, La, Lc, Ln, Lt, Ld, Lr, Li, true_or, or_true, true_and, and_true]); omega) | (simp <;> fail) | skip) [runM_nil]
  refine hK _ _ ?_
  clear hK K
  refine pwp_sF (by simp) ?_
  first | refine pwp_sr ?_ | refine pwp_regionM ?_
  intro K hK
  simp (disch := first | (refine Ok.mk ?_; (try simp only [Lm, La, Lc, Ln, Lt, Ld, Lr, Li, true_or, or_true, true_and, and_true]); omega) | (simp <;> fail) | skip) [runM_nil]
  refine useP (c) ?_
  simp (disch := first | (refine Ok.mk ?_; (try simp only [Lm, La, Lc, Ln, Lt, Ld, Lr, Li, true_or, or_true, true_and, and_true]); omega) | (simp <;> fail) | skip) [runM_nil]
  refine hK _ _ ?_
  clear hK K
  first | refine pwp_sr ?_ | refine pwp_regionM ?_
  intro K hK
  simp (disch := first | (refine Ok.mk ?_; (try simp only [Lm, La, Lc, Ln, Lt, Ld, Lr, Li, true_or, or_true, true_and, and_true]); omega) | (simp <;> fail) | skip) [runM_nil]
  refine hK _ _ ?_
  clear hK K
  refine pwp_ret ⟨.inr rfl, _, _, (by simp (disch := first | (refine Ok.mk ?_; (try simp only [Lm, La, Lc, Ln, Lt, Ld, Lr, Li, true_or, or_true, true_and, and_true]); omega) | (simp <;> fail) | skip) [runM_nil, resL]; rfl), .refl _, by simp (disch := first | (refine Ok.mk ?_; (try simp only [Lm, La, Lc, Ln, Lt, Ld, Lr, Li, true_or, or_true, true_and, and_true]); omega) | (simp <;> fail) | skip) [resV], rfl⟩
end Go.Proofs.Ytibmolekndeofaa.E
