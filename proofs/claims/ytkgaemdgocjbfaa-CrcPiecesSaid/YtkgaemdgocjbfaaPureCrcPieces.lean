/- PIECES: by the table a register goes on behind a piece as in one, and what is sealed by the table is opened; pieces of at most 3000 bytes each. Condition: none beyond the row's own. -/
import Derived.Test.YtkgaemdgocjbfaaLCrcAlive
import Derived.Test.YtkgaemdgocjbfaaLCrcSeal
import Derived.Test.YtkgaemdgocjbfaaPAx7
namespace Go.Proofs.Ytkgaemdgocjbfaa.Pure
open Go.RowKit Go.Proofs.Ytkgaemdgocjbfaa.PA Go.Proofs.YtkgaemdgocjbfaaW.PrintWords Go.Proofs.YtkgaemdgocjbfaaW.PrintLast Go.Proofs.YtkgaemdgocjbfaaW.PrintMore
theorem pieces_in {a b : List Nat} (ha : ∀ x ∈ a, x < 256) (hb : ∀ x ∈ b, x < 256) (hla : a.length ≤ 3000) (hlb : b.length ≤ 3000) (c : Nat) (hc : c < 4294967296) :
    Ev (fun k => threshinglaw02_CrcPieces.j0 k (c : Int) (ci a) (ci b) false) true := by
  have hab : ∀ x ∈ a ++ b, x < 256 := fun x hx => (List.mem_append.1 hx).elim (ha x) (hb x)
  refine Ev.succ ?_
  simp only [threshinglaw02_CrcPieces.j0, Option.bind_some, List.nil_append, ci_length, List.length_nil]
  refine Ev.neg (by decide) (Ev.bind table_ev (Ev.bind (more_ev tbl_length tbl_lt ha (by omega) c hc) (Ev.bind (more_ev tbl_length tbl_lt hb (by omega) _ (mor_lt tbl_lt a c hc)) (Ev.pos (by omega) (Ev.pos (by omega) ?_)))))
  simp only [← ci_append]
  refine Ev.bind (more_ev tbl_length tbl_lt hab (by rw [List.length_append]; omega) c hc) (Ev.bind (seal_ev tbl_length tbl_lt ha (by omega)) (Ev.bind (open_ev tbl_length tbl_lt (sealed_lt _ ha) (by rw [sealed_length]; omega)) (Ev.bind alive_ev ?_)))
  simp only [open_sealed, mor_append]
  refine Ev.pos (by simp) (Ev.pos (by simp) (Ev.pos (by simp) (Ev.pos (by simp) (Ev.pos (by simp) (Ev.pos (by simp) (Ev.done ?_))))))
  rw [ci_length, sealed_length, w64 (by omega) (by omega)]
  simp
theorem CrcPieces : threshinglaw02_CrcPieces.Pure := by
  intro a0 l1 l2 h0 _ _ h1 _ _ h2
  obtain ⟨a, rfl, ha⟩ := u8s h1
  obtain ⟨b, rfl, hb⟩ := u8s h2
  obtain ⟨h0a, h0b⟩ := wf_u32 h0
  obtain ⟨c, rfl⟩ := Int.eq_ofNat_of_zero_le h0a
  refine Ev.rounds (g := fun k => threshinglaw02_CrcPieces.f k (c : Int) (ci a) (ci b)) ?_
  have out : ∀ x y z, Ev (fun k => threshinglaw02_CrcPieces.j0 k x y z true) true := by
    intro x y z
    refine Ev.succ ?_
    simp only [threshinglaw02_CrcPieces.j0]
    exact Ev.pos (by simp) (Ev.bind alive_ev (Ev.now _))
  simp only [threshinglaw02_CrcPieces.f, ci_length]
  by_cases g0 : (a.length : Int) > 3000
  · exact Ev.pos g0 (out _ _ _)
  refine Ev.neg g0 ?_
  by_cases g1 : (b.length : Int) > 3000
  · rw [decide_eq_true g1]; exact out _ _ _
  · rw [decide_eq_false g1]; exact pieces_in ha hb (by omega) (by omega) c (by omega)
end Go.Proofs.Ytkgaemdgocjbfaa.Pure
