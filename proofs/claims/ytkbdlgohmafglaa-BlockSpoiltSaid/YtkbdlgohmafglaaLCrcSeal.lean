import Derived.Test.YtkbdlgohmafglaaLClone
import Derived.Test.YtkbdlgohmafglaaLCrc
import Derived.Test.YtkbdlgohmafglaaLConcat
import Derived.Test.YtkbdlgohmafglaaPAx1
import Derived.Test.YtkbdlgohmafglaaPAx2
-- what crc.Seal and crc.Open answer
set_option linter.unusedVariables false
set_option linter.unusedSimpArgs false
namespace Go.Proofs.Ytkbdlgohmafglaa.Pure
open Go.RowKit Go.Proofs.Ytkbdlgohmafglaa.PA Go.Proofs.YtkbdlgohmafglaaW.PrintWords Go.Proofs.YtkbdlgohmafglaaW.PrintLast Go.Proofs.YtkbdlgohmafglaaW.PrintMore
def four (c : Nat) : List Nat := [c % 256, c / 256 % 256, c / 65536 % 256, c / 16777216 % 256]
theorem four_lt (c : Nat) : ∀ x ∈ four c, x < 256 := by
  intro x hx
  simp only [four, List.mem_cons, List.not_mem_nil, or_false] at hx
  omega
theorem four_length (c : Nat) : (four c).length = 4 := rfl
theorem tail_eq (c : Nat) : crc_tail.f (c : Int) = some (ci (four c)) := rfl
def sealed (t b : List Nat) : List Nat := b ++ four (sum t b)
theorem sealed_length (t b : List Nat) : (sealed t b).length = b.length + 4 := by simp [sealed, four_length]
theorem sealed_lt (t : List Nat) {b : List Nat} (hb : ∀ x ∈ b, x < 256) : ∀ x ∈ sealed t b, x < 256 := by
  intro x hx
  rcases List.mem_append.1 hx with h | h
  · exact hb x h
  · exact four_lt _ x h
theorem seal_ev {t b : List Nat} (ht : t.length = 256) (ht2 : ∀ x ∈ t, x < 4294967296) (hb : ∀ x ∈ b, x < 256) (hl : b.length + 4 ≤ 140737488351232) :
    Ev (fun k => crc_Seal.f k (ci t) (ci b)) (ci (sealed t b), 0) := by
  simp only [crc_Seal.f]
  refine Ev.bind (sum_ev ht ht2 hb (by omega)) (Ev.pos rfl (Ev.const (tail_eq _) ?_))
  have e := concat_ev [ci b, ci (four (sum t b))] (by simp) (by simp [ci_length, four_length]; omega)
  simp only [List.flatten_cons, List.flatten_nil, List.append_nil, ← ci_append] at e
  exact Ev.bind e (Ev.now _)
theorem seal_bad {t : List Nat} (ht : t.length ≠ 256) (b : List Int) : Ev (fun k => crc_Seal.f k (ci t) b) ([], 1) := by
  simp only [crc_Seal.f]
  exact Ev.bind (sum_bad ht b) (Ev.neg (by decide) (Ev.now _))
def opened (t s : List Nat) : List Nat × Nat := if s.length < 4 then ([], 2) else if four (sum t (s.take (s.length - 4))) = s.drop (s.length - 4) then (s.take (s.length - 4), 0) else ([], 4)
theorem equal_eq {a b : List Nat} (ha : ∀ x ∈ a, x < 256) (hb : ∀ x ∈ b, x < 256) : bytes_Equal.f (ci a) (ci b) = some (decide (a = b)) := by
  unfold bytes_Equal.f
  congr 1
  rw [Bool.eq_iff_iff, beq_iff_eq, strs_eq ha hb, decide_eq_true_iff]
theorem open_ev {t s : List Nat} (ht : t.length = 256) (ht2 : ∀ x ∈ t, x < 4294967296) (hs : ∀ x ∈ s, x < 256) (hl : s.length ≤ 140737488351232) :
    Ev (fun k => crc_Open.f k (ci t) (ci s)) (ci (opened t s).1, ((opened t s).2 : Int)) := by
  have ew : wrap64 ((s.length : Int) - 4) = (s.length : Int) - 4 := w64 (by omega) (by omega)
  have et : ((s.length : Int) - 4).toNat = s.length - 4 := by omega
  simp only [crc_Open.f, ci_length, ew, et]
  refine Ev.pos (by omega) ?_
  unfold opened
  by_cases h4 : s.length < 4
  · rw [if_pos h4]
    exact Ev.pos (by omega) (Ev.now _)
  rw [if_neg h4]
  refine Ev.neg (by omega) (Ev.pos (by omega) (Ev.pos (by omega) ?_))
  simp only [ci_take, ci_drop]
  have htk : ∀ x ∈ s.take (s.length - 4), x < 256 := fun x hx => hs x (List.mem_of_mem_take hx)
  have hdr : ∀ x ∈ s.drop (s.length - 4), x < 256 := fun x hx => hs x (List.mem_of_mem_drop hx)
  refine Ev.bind (sum_ev ht ht2 htk (by rw [List.length_take]; omega)) (Ev.const (tail_eq _) (Ev.const (equal_eq (four_lt _) hdr) ?_))
  by_cases he : four (sum t (s.take (s.length - 4))) = s.drop (s.length - 4)
  · rw [if_pos he]
    exact Ev.pos (by simpa using he) (Ev.const (clone_eq _ (by rw [ci_length, List.length_take]; omega)) (Ev.now _))
  · rw [if_neg he]
    exact Ev.neg (by simpa using he) (Ev.now _)
theorem open_bad {t : List Nat} (ht : t.length ≠ 256) (b : List Int) : Ev (fun k => crc_Open.f k (ci t) b) ([], 1) := by
  simp only [crc_Open.f, ci_length]
  exact Ev.neg (by omega) (Ev.now _)
theorem open_sealed (t b : List Nat) : opened t (sealed t b) = (b, 0) := by
  unfold opened
  rw [sealed_length, if_neg (by omega), show b.length + 4 - 4 = b.length by omega]
  unfold sealed
  rw [List.take_left, List.drop_left, if_pos rfl]
end Go.Proofs.Ytkbdlgohmafglaa.Pure
