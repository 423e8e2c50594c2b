import Derived.Test.YtkbdlgohmafglaaLClone
import Derived.Test.YtkbdlgohmafglaaLCrc
import Derived.Test.YtkbdlgohmafglaaLConcat
import Derived.Test.YtkbdlgohmafglaaLCrcSeal
import Derived.Test.YtkbdlgohmafglaaGBlockPair
import Derived.Test.YtkbdlgohmafglaaGBlockReads
-- what block.Store, Load and ReadAt answer
set_option linter.unusedVariables false
set_option linter.unusedSimpArgs false
namespace Go.Proofs.Ytkbdlgohmafglaa.Pure
open Go.RowKit Go.Proofs.Ytkbdlgohmafglaa.PA Go.Proofs.YtkbdlgohmafglaaW.PrintWords Go.Proofs.YtkbdlgohmafglaaW.PrintLast Go.Proofs.YtkbdlgohmafglaaW.PrintMore
/-- Row j of rows of m. -/
def ck (m : Nat) (l : List Nat) (j : Nat) : List Nat := (l.drop (j * m)).take m
def rws (m : Nat) (l : List Nat) : List (List Nat) := (List.range ((l.length + m - 1) / m)).map (ck m l)
theorem chunks_ci (m : Nat) (l : List Nat) : chunks m (ci l) = (rws m l).map ci := by
  unfold chunks rws ck
  rw [ci_length, List.map_map]
  refine List.map_congr_left (fun j _ => ?_)
  simp only [Function.comp, ci_drop, ci_take]
theorem ck_lt {m : Nat} {l : List Nat} (h : ∀ x ∈ l, x < 256) (j : Nat) : ∀ x ∈ ck m l j, x < 256 := fun x hx => h x (List.mem_of_mem_drop (List.mem_of_mem_take hx))
theorem ck_length (m : Nat) (l : List Nat) (j : Nat) : (ck m l j).length = min m (l.length - j * m) := by simp [ck]
theorem rws_mem {m : Nat} {l : List Nat} (hm : 0 < m) {p : List Nat} (h : p ∈ rws m l) : ∃ j, j * m < l.length ∧ p = ck m l j := by
  obtain ⟨j, hj, rfl⟩ := List.mem_map.1 h
  have hj := List.mem_range.1 hj
  refine ⟨j, ?_, rfl⟩
  have := (Nat.le_div_iff_mul_le hm).1 (Nat.succ_le_of_lt hj)
  rw [Nat.succ_mul] at this
  omega
theorem ck_succ (m : Nat) (l : List Nat) (j : Nat) : ck m l (j + 1) = ck m (l.drop m) j := by
  unfold ck
  rw [List.drop_drop, Nat.succ_mul, Nat.add_comm]
theorem rws_nil (m : Nat) (hm : 0 < m) : rws m [] = [] := by
  unfold rws
  rw [show ([] : List Nat).length + m - 1 = m - 1 by simp, Nat.div_eq_of_lt (by omega)]
  rfl
theorem rws_cons {m : Nat} (hm : 0 < m) {l : List Nat} (h : l ≠ []) : rws m l = l.take m :: rws m (l.drop m) := by
  have hl : 0 < l.length := List.length_pos_iff.2 h
  unfold rws
  have e : (l.length + m - 1) / m = ((l.drop m).length + m - 1) / m + 1 := by
    rw [List.length_drop]
    rcases Nat.lt_or_ge m l.length with h1 | h1
    · rw [show l.length + m - 1 = (l.length - m + m - 1) + m by omega, Nat.add_div_right _ hm]
    · rw [show l.length - m + m - 1 = m - 1 by omega, Nat.div_eq_of_lt (show m - 1 < m by omega), show l.length + m - 1 = (l.length - 1) + m by omega, Nat.add_div_right _ hm, Nat.div_eq_of_lt (by omega)]
  rw [e, List.range_succ_eq_map, List.map_cons, List.map_map]
  congr 1
  · simp [ck]
  · refine List.map_congr_left (fun j _ => ?_)
    simp only [Function.comp, ck_succ]
/-- What is stored. -/
def sto (l : List Nat) : List Nat := (rws 64 l).flatMap (sealed tbl)
theorem sto_nil : sto [] = [] := by simp [sto, rws_nil]
theorem sto_cons {l : List Nat} (h : l ≠ []) : sto l = sealed tbl (l.take 64) ++ sto (l.drop 64) := by
  unfold sto
  rw [rws_cons (by omega) h, List.flatMap_cons]
theorem sto_drop (l : List Nat) : (sto l).drop 68 = sto (l.drop 64) := by
  by_cases h : l = []
  · subst h; simp [sto_nil]
  rw [sto_cons h, List.drop_append]
  have hl := sealed_length tbl (l.take 64)
  rw [List.length_take] at hl
  by_cases h64 : 64 ≤ l.length
  · rw [List.drop_of_length_le (by omega), hl, show 68 - (min 64 l.length + 4) = 0 by omega]
    rfl
  · rw [show l.drop 64 = [] from List.drop_of_length_le (by omega), sto_nil, List.drop_of_length_le (by omega)]
    simp
theorem sto_take {l : List Nat} (h : l ≠ []) : (sto l).take 68 = sealed tbl (l.take 64) := by
  rw [sto_cons h, List.take_append]
  have hl := sealed_length tbl (l.take 64)
  rw [List.length_take] at hl
  by_cases h64 : 64 ≤ l.length
  · rw [List.take_of_length_le (by omega), hl, show 68 - (min 64 l.length + 4) = 0 by omega]
    simp
  · rw [show l.drop 64 = [] from List.drop_of_length_le (by omega), sto_nil, List.take_of_length_le (by omega)]
    simp
theorem sto_ck : ∀ (j : Nat) (l : List Nat), j * 64 < l.length → ck 68 (sto l) j = sealed tbl (ck 64 l j)
  | 0, l, h => by
    have h0 : l ≠ [] := List.length_pos_iff.1 (by omega)
    simp only [ck, Nat.zero_mul, List.drop_zero]
    exact sto_take h0
  | j + 1, l, h => by
    rw [ck_succ, sto_drop, sto_ck j _ (by rw [List.length_drop]; omega), ck_succ]
theorem sto_lt {l : List Nat} (h : ∀ x ∈ l, x < 256) : ∀ x ∈ sto l, x < 256 := by
  intro x hx
  obtain ⟨p, hp, hx⟩ := List.mem_flatMap.1 hx
  obtain ⟨j, _, rfl⟩ := rws_mem (by omega) hp
  exact sealed_lt tbl (ck_lt h j) x hx
theorem sto_length : ∀ (n : Nat) (l : List Nat), l.length ≤ n → (sto l).length = l.length + (l.length + 63) / 64 * 4
  | 0, l, h => by
    have : l = [] := List.eq_nil_of_length_eq_zero (by omega)
    subst this
    simp [sto_nil]
  | n + 1, l, h => by
    by_cases h0 : l = []
    · subst h0; simp [sto_nil]
    have hl : 0 < l.length := List.length_pos_iff.2 h0
    rw [sto_cons h0, List.length_append, sealed_length, sto_length n _ (by rw [List.length_drop]; omega), List.length_take, List.length_drop]
    omega
/-! the program -/
theorem stoL_ev (ps : List (List Nat)) (acc : List Nat) (h : ∀ p ∈ ps, (∀ x ∈ p, x < 256) ∧ p.length ≤ 64) :
    Ev (fun k => stoL k (ci tbl) (ps.map ci) (ci acc)) (ci (acc ++ ps.flatMap (sealed tbl))) := by
  induction ps generalizing acc with
  | nil => simp only [List.map_nil, stoL, List.flatMap_nil, List.append_nil]; exact Ev.now _
  | cons p ps ih =>
    obtain ⟨h1, h2⟩ := h p (List.mem_cons_self ..)
    simp only [List.map_cons, stoL]
    refine Ev.bind (seal_ev tbl_length tbl_lt h1 (by omega)) ?_
    dsimp only
    refine Ev.pos (by rw [ci_length, sealed_length]; omega) ?_
    have e := ih (acc ++ sealed tbl p) (fun q hq => h q (List.mem_cons_of_mem _ hq))
    rw [List.flatMap_cons, ← List.append_assoc, ← ci_append]
    exact e
theorem store_ev {l : List Nat} (h : ∀ x ∈ l, x < 256) (hl : l.length ≤ 1000000) : Ev (fun k => block_Store.f k (ci l)) (ci (sto l)) := by
  simp only [block_Store.f, ci_length]
  refine Ev.pos hl (Ev.bind table_ev ?_)
  rw [chunks_ci]
  have e := stoL_ev (rws 64 l) [] (fun p hp => by
    obtain ⟨j, hj, rfl⟩ := rws_mem (by omega) hp
    exact ⟨ck_lt h j, by rw [ck_length]; omega⟩)
  exact e
def opb (s : List Nat) : List Nat × Bool := ((opened tbl s).1, decide ((opened tbl s).2 = 0 ∧ 0 < (opened tbl s).1.length))
theorem bopen_ev {s : List Nat} (h : ∀ x ∈ s, x < 256) (hl : s.length ≤ 1000000) : Ev (fun k => block_open.f k (ci s) (ci tbl)) (ci (opb s).1, (opb s).2) := by
  simp only [block_open.f]
  refine Ev.bind (open_ev tbl_length tbl_lt h (by omega)) ?_
  dsimp only [opb]
  by_cases h0 : (opened tbl s).2 = 0
  · refine Ev.pos (by rw [h0]; rfl) (Ev.eq (Ev.now _) ?_)
    rw [ci_length]
    simp [h0]
  · refine Ev.neg (by omega) (Ev.eq (Ev.now _) ?_)
    simp [h0]
theorem mapO_ev (ps : List (List Nat)) (h : ∀ p ∈ ps, (∀ x ∈ p, x < 256) ∧ p.length ≤ 68) :
    Ev (fun k => mapO (fun p => block_open.f k p (ci tbl)) (ps.map ci)) (ps.map (fun p => (ci (opb p).1, (opb p).2))) := by
  induction ps with
  | nil => exact Ev.now _
  | cons p ps ih =>
    obtain ⟨h1, h2⟩ := h p (List.mem_cons_self ..)
    simp only [List.map_cons, mapO]
    exact Ev.bind (bopen_ev h1 (by omega)) (Ev.bind (ih (fun q hq => h q (List.mem_cons_of_mem _ hq))) (Ev.now _))
theorem opened_length (s : List Nat) : (opened tbl s).1.length ≤ s.length - 4 := by
  unfold opened
  split
  · simp
  · split
    · simp
    · simp
/-- What is loaded. -/
def loa (s : List Nat) : List Nat × Nat := if (rws 68 s).all (fun p => (opb p).2) then ((rws 68 s).flatMap (fun p => (opb p).1), 0) else ([], 16)
theorem load_ev {s : List Nat} (h : ∀ x ∈ s, x < 256) (hl : s.length ≤ 1000000) : Ev (fun k => block_load.f k (ci s)) (ci (loa s).1, ((loa s).2 : Int)) := by
  simp only [block_load.f, ci_length]
  refine Ev.pos hl (Ev.bind table_ev ?_)
  rw [chunks_ci]
  refine Ev.bind (mapO_ev _ (fun p hp => by
    obtain ⟨j, hj, rfl⟩ := rws_mem (by omega) hp
    exact ⟨ck_lt h j, by rw [ck_length]; omega⟩)) ?_
  refine Ev.pos ?_ (Ev.eq (Ev.now _) ?_)
  · rw [List.all_map, List.all_eq_true]
    intro p hp
    obtain ⟨j, hj, rfl⟩ := rws_mem (by omega) hp
    simp only [Function.comp, okP, ci_length]
    cases hb : (opb (ck 68 s j)).2 with
    | false => rfl
    | true =>
      have h1 := opened_length (ck 68 s j)
      rw [ck_length] at h1
      simp only [opb, decide_eq_true_eq] at hb
      simp only [opb, ci_length, Bool.not_true, Bool.false_or, Bool.and_eq_true, decide_eq_true_eq]
      exact ⟨decide_eq_true (by omega), decide_eq_true (by omega)⟩
  · unfold loaA loa
    rw [List.all_map]
    simp only [Function.comp_def]
    split
    · simp only [List.flatMap_map, Prod.mk.injEq]
      refine ⟨?_, rfl⟩
      unfold ci
      rw [List.map_flatMap]
    · rfl
end Go.Proofs.Ytkbdlgohmafglaa.Pure
