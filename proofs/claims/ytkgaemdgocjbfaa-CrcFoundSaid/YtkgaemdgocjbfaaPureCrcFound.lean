/- FOUND: of what is sealed by the table one byte that is another one is found; at most 3000 bytes. Condition: none beyond the row's own. -/
import Derived.Test.YtkgaemdgocjbfaaLCrcAlive
import Derived.Test.YtkgaemdgocjbfaaLCrcSeal
import Derived.Test.YtkgaemdgocjbfaaLCrcFound
import Derived.Test.YtkgaemdgocjbfaaPAx7
namespace Go.Proofs.Ytkgaemdgocjbfaa.Pure
open Go.RowKit Go.Proofs.Ytkgaemdgocjbfaa.PA Go.Proofs.YtkgaemdgocjbfaaW.PrintWords Go.Proofs.YtkgaemdgocjbfaaW.PrintLast Go.Proofs.YtkgaemdgocjbfaaW.PrintMore
theorem found_in {b : List Nat} (hb : ∀ x ∈ b, x < 256) (hl : b.length ≤ 3000) (a : Int) (y : Nat) (hy : y < 256) (hy0 : y ≠ 0) :
    Ev (fun k => threshinglaw02_CrcFound.j0 k (ci b) a (y : Int) false) true := by
  refine Ev.succ ?_
  simp only [threshinglaw02_CrcFound.j0]
  refine Ev.neg (by decide) (Ev.bind table_ev (Ev.bind (seal_ev tbl_length tbl_lt hb (by omega)) (Ev.pos (by simp) ?_)))
  simp only [ci_length, sealed_length]
  rw [w64 (by omega) (by omega)]
  rw [show ((((b.length + 4 : Nat) : Int)) != (b.length : Int) + 4) = false from by simp]
  refine Ev.succ ?_
  simp only [threshinglaw02_CrcFound.j1, ci_length, sealed_length]
  refine Ev.neg (by decide) ?_
  have out : ∀ x y z, Ev (fun k => threshinglaw02_CrcFound.j2 k x y z true) true := by
    intro x y z
    refine Ev.succ ?_
    simp only [threshinglaw02_CrcFound.j2]
    exact Ev.pos (by simp) (Ev.bind alive_ev (Ev.now _))
  by_cases g0 : a < 0
  · exact Ev.pos g0 (out _ _ _)
  refine Ev.neg g0 ?_
  by_cases g1 : a ≥ ((b.length + 4 : Nat) : Int)
  · rw [decide_eq_true g1]; exact out _ _ _
  rw [decide_eq_false g1]
  obtain ⟨n, rfl⟩ := Int.eq_ofNat_of_zero_le (Int.not_lt.1 g0)
  have hs := sealed_lt tbl hb
  refine Ev.succ ?_
  simp only [threshinglaw02_CrcFound.j2, ci_length, sealed_length]
  refine Ev.neg (by decide) (Ev.pos (by omega) (Ev.pos (by omega) (Ev.bind table_ev ?_)))
  rw [rd_ci, x8 _ _ (getD_lt hs (by omega)) hy, Int.toNat_natCast, ci_set]
  have hv : (sealed tbl b).getD n 0 ^^^ y < 256 := xor_lt8 (getD_lt hs (by omega)) hy
  have hs2 : ∀ x ∈ (sealed tbl b).set n ((sealed tbl b).getD n 0 ^^^ y), x < 256 := by
    intro x hx
    rcases List.mem_or_eq_of_mem_set hx with h | h
    · exact hs x h
    · omega
  refine Ev.bind (open_ev tbl_length tbl_lt hs2 (by rw [List.length_set, sealed_length]; omega)) (Ev.bind alive_ev (Ev.pos (by simp) (Ev.done ?_)))
  rw [opened_changed hb n y (by omega) hy hy0]
  rfl
theorem CrcFound : threshinglaw02_CrcFound.Pure := by
  intro l0 a1 a2 _ _ h0 h1 h2
  obtain ⟨b, rfl, hb⟩ := u8s h0
  obtain ⟨h2a, h2b⟩ := wf_u8 h2
  obtain ⟨y, rfl⟩ := Int.eq_ofNat_of_zero_le h2a
  refine Ev.rounds (g := fun k => threshinglaw02_CrcFound.f k (ci b) a1 (y : Int)) ?_
  have out : ∀ x y z, Ev (fun k => threshinglaw02_CrcFound.j0 k x y z true) true := by
    intro x y z
    refine Ev.succ ?_
    simp only [threshinglaw02_CrcFound.j0]
    exact Ev.pos (by simp) (Ev.bind alive_ev (Ev.now _))
  simp only [threshinglaw02_CrcFound.f, ci_length]
  by_cases g0 : (b.length : Int) > 3000
  · exact Ev.pos g0 (out _ _ _)
  refine Ev.neg g0 ?_
  by_cases g1 : y = 0
  · subst g1; exact out _ _ _
  · rw [show ((y : Int) == 0) = false from by simp; exact g1]; exact found_in hb (by omega) a1 y (by omega) g1
end Go.Proofs.Ytkgaemdgocjbfaa.Pure
