import Derived.Test.YtkgaemdgocjbfaaLCrcSeal
import Derived.Test.YtkgaemdgocjbfaaPAx4
import Derived.Test.YtkgaemdgocjbfaaPAx5
-- what the reference of crc answers: the same
set_option linter.unusedVariables false
set_option linter.unusedSimpArgs false
namespace Go.Proofs.Ytkgaemdgocjbfaa.Pure
open Go.RowKit Go.Proofs.Ytkgaemdgocjbfaa.PA Go.Proofs.YtkgaemdgocjbfaaW.PrintWords Go.Proofs.YtkgaemdgocjbfaaW.PrintLast Go.Proofs.YtkgaemdgocjbfaaW.PrintMore
theorem tmod_nat (a b : Nat) : Int.tmod (a : Int) (b : Int) = ((a % b : Nat) : Int) := by
  rw [Int.tmod_eq_emod_of_nonneg (by omega)]; simp
theorem tdiv_nat (a b : Nat) : Int.tdiv (a : Int) (b : Int) = ((a / b : Nat) : Int) := by
  rw [Int.tdiv_eq_ediv_of_nonneg (by omega)]; simp
theorem rmore_loop {t b : List Nat} (ht : t.length = 256) (ht2 : ∀ x ∈ t, x < 4294967296) (hb : ∀ x ∈ b, x < 256) (hl : b.length ≤ 140737488351232) (d : Nat) :
    ∀ (i c : Nat), i + d = b.length → c < 4294967296 → Ev (fun k => threshingref02_More.l0 k (ci t) (c : Int) (ci b) (i : Int)) ((mor t c (b.drop i) : Nat), 0) := by
  induction d with
  | zero =>
    intro i c hi hc
    refine Ev.succ ?_
    simp only [threshingref02_More.l0, ci_length]
    refine Ev.neg (by omega) ?_
    rw [List.drop_eq_nil_of_le (by omega)]
    exact Ev.now _
  | succ d ih =>
    intro i c hi hc
    have hlt : i < b.length := by omega
    have hx : b.getD i 0 < 256 := getD_lt hb (by omega)
    have hd : b.drop i = b.getD i 0 :: b.drop (i + 1) := by
      rw [List.drop_eq_getElem_cons hlt, List.getD_eq_getElem?_getD, List.getElem?_eq_getElem hlt]; rfl
    have hix := xor_lt8 (show c % 256 < 256 by omega) hx
    have hm : (c ^^^ b.getD i 0) % 256 = (c % 256) ^^^ b.getD i 0 := by
      have h := Nat.xor_mod_two_pow (a := c) (b := b.getD i 0) (n := 8)
      rw [show (2 : Nat) ^ 8 = 256 from rfl, Nat.mod_eq_of_lt hx] at h
      exact h
    have e1 : Int.tmod (Go.bits .xor .u32 (c : Int) ((rd (ci b) (i : Int)) % 4294967296)) 256 = (((c % 256) ^^^ b.getD i 0 : Nat) : Int) := by
      rw [rd_ci, show (((b.getD i 0 : Nat) : Int) % 4294967296) = ((b.getD i 0 : Nat) : Int) from by omega, x32 _ _ hc (by omega)]
      rw [show (256 : Int) = ((256 : Nat) : Int) from rfl, tmod_nat, hm]
    have e3 : (Int.tdiv (c : Int) 256) % 4294967296 = ((c / 256 : Nat) : Int) := by
      rw [show (256 : Int) = ((256 : Nat) : Int) from rfl, tdiv_nat]; omega
    have e2 : Go.bits .xor .u32 (rd (ci t) (((c % 256) ^^^ b.getD i 0 : Nat) : Int)) ((c / 256 : Nat) : Int) = ((t.getD ((c % 256) ^^^ b.getD i 0) 0 ^^^ (c / 256) : Nat) : Int) := by
      rw [rd_ci]; exact x32 _ _ (getD_lt ht2 (by omega)) (by omega)
    refine Ev.succ ?_
    simp only [threshingref02_More.l0, e1, e3, e2, ci_length]
    refine Ev.pos (by omega) (Ev.pos (by omega) (Ev.pos (by omega) (Ev.pos (by omega) ?_)))
    rw [w64s i (by omega), hd]
    exact ih (i + 1) _ (by omega) (nxt_lt ht2 c _ hc)
theorem rmore_ev {t b : List Nat} (ht : t.length = 256) (ht2 : ∀ x ∈ t, x < 4294967296) (hb : ∀ x ∈ b, x < 256) (hl : b.length ≤ 140737488351232) (c : Nat) (hc : c < 4294967296) :
    Ev (fun k => threshingref02_More.f k (ci t) (c : Int) (ci b)) ((mor t c b : Nat), 0) := by
  simp only [threshingref02_More.f, ci_length]
  exact Ev.pos (by omega) (rmore_loop ht ht2 hb hl b.length 0 c (by omega) hc)
theorem rmore_bad {t : List Nat} (ht : t.length ≠ 256) (c : Int) (b : List Int) : Ev (fun k => threshingref02_More.f k (ci t) c b) (0, 1) := by
  simp only [threshingref02_More.f, ci_length]
  exact Ev.neg (by omega) (Ev.now _)
theorem rsum_ev {t b : List Nat} (ht : t.length = 256) (ht2 : ∀ x ∈ t, x < 4294967296) (hb : ∀ x ∈ b, x < 256) (hl : b.length ≤ 140737488351232) :
    Ev (fun k => threshingref02_Sum.f k (ci t) (ci b)) ((sum t b : Nat), 0) := by
  simp only [threshingref02_Sum.f]
  refine Ev.bind (rmore_ev ht ht2 hb hl 4294967295 (by omega)) ?_
  refine Ev.pos rfl ?_
  exact Ev.done (congrArg some (Prod.ext (x32 (mor t 4294967295 b) 4294967295 (mor_lt ht2 b _ (by omega)) (by omega)) rfl))
theorem rsum_bad {t : List Nat} (ht : t.length ≠ 256) (b : List Int) : Ev (fun k => threshingref02_Sum.f k (ci t) b) (0, 1) := by
  simp only [threshingref02_Sum.f]
  exact Ev.bind (rmore_bad ht _ b) (Ev.neg (by decide) (Ev.now _))
theorem rfour_eq (c : Nat) (hc : c < 4294967296) : threshingref02_Four.f (c : Int) = some (ci (four c)) := by
  unfold threshingref02_Four.f four
  rw [show (256 : Int) = ((256 : Nat) : Int) from rfl, show (65536 : Int) = ((65536 : Nat) : Int) from rfl, show (16777216 : Int) = ((16777216 : Nat) : Int) from rfl, tdiv_nat, tdiv_nat, tdiv_nat]
  simp only [ci_cons, ci_nil]
  congr 1
  simp only [List.cons.injEq, and_true]
  refine ⟨?_, ?_, ?_, ?_⟩ <;> omega
theorem rseal_ev {t b : List Nat} (ht : t.length = 256) (ht2 : ∀ x ∈ t, x < 4294967296) (hb : ∀ x ∈ b, x < 256) (hl : b.length + 4 ≤ 140737488351232) :
    Ev (fun k => threshingref02_Seal.f k (ci t) (ci b)) (ci (sealed t b), 0) := by
  simp only [threshingref02_Seal.f]
  refine Ev.bind (rsum_ev ht ht2 hb (by omega)) (Ev.pos rfl ?_)
  simp only [Option.bind_some, List.nil_append, ci_length, List.length_nil]
  refine Ev.pos (by omega) (Ev.const (rfour_eq _ (sum_lt ht2 b)) ?_)
  simp only [ci_length, four_length, ← ci_append]
  exact Ev.pos (by omega) (Ev.now _)
theorem rseal_bad {t : List Nat} (ht : t.length ≠ 256) (b : List Int) : Ev (fun k => threshingref02_Seal.f k (ci t) b) ([], 1) := by
  simp only [threshingref02_Seal.f]
  exact Ev.bind (rsum_bad ht b) (Ev.neg (by decide) (Ev.now _))
theorem ropen_ev {t s : List Nat} (ht : t.length = 256) (ht2 : ∀ x ∈ t, x < 4294967296) (hs : ∀ x ∈ s, x < 256) (hl : s.length ≤ 140737488351232) :
    Ev (fun k => threshingref02_Open.f k (ci t) (ci s)) (ci (opened t s).1, ((opened t s).2 : Int)) := by
  have ew : wrap64 ((s.length : Int) - 4) = (s.length : Int) - 4 := w64 (by omega) (by omega)
  have et : ((s.length : Int) - 4).toNat = s.length - 4 := by omega
  simp only [threshingref02_Open.f, ci_length, ew, et]
  refine Ev.pos (by omega) ?_
  unfold opened
  by_cases h4 : s.length < 4
  · rw [if_pos h4]
    exact Ev.pos (by omega) (Ev.now _)
  rw [if_neg h4]
  refine Ev.neg (by omega) (Ev.pos (by omega) (Ev.pos (by omega) ?_))
  simp only [ci_take, ci_drop]
  have htk : ∀ x ∈ s.take (s.length - 4), x < 256 := fun x hx => hs x (List.mem_of_mem_take hx)
  have hdr : ∀ x ∈ s.drop (s.length - 4), x < 256 := fun x hx => hs x (List.mem_of_mem_drop hx)
  refine Ev.bind (rsum_ev ht ht2 htk (by rw [List.length_take]; omega)) (Ev.const (rfour_eq _ (sum_lt ht2 _)) ?_)
  simp only [strs_eq (four_lt _) hdr, Option.bind_some, List.nil_append, ci_length, List.length_nil]
  by_cases he : four (sum t (s.take (s.length - 4))) = s.drop (s.length - 4)
  · simp only [if_pos he]
    exact Ev.pos (by rw [List.length_take]; omega) (Ev.now _)
  · simp only [if_neg he]
    exact Ev.now _
theorem ropen_bad {t : List Nat} (ht : t.length ≠ 256) (b : List Int) : Ev (fun k => threshingref02_Open.f k (ci t) b) ([], 1) := by
  simp only [threshingref02_Open.f, ci_length]
  exact Ev.neg (by omega) (Ev.now _)
end Go.Proofs.Ytkgaemdgocjbfaa.Pure
