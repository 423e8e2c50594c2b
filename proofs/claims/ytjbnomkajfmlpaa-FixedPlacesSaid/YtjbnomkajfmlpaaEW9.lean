/- The files of one width, on plain values. -/
import Derived.Test.YtjbnomkajfmlpaaEA9
namespace Go.Proofs.Ytjbnomkajfmlpaa.E
open Go Go.RowKit Go.Proofs
set_option linter.unusedVariables false
set_option linter.unusedSimpArgs false
theorem isWidth (n : Int) : PSpec Try.prog 28 [.int .i64 n] (.bool (decide (1 ≤ n) && decide (n ≤ 1000))) := by
  intro H
  refine spec_of t28 (by simp [p28]) ?_
  simp only [p28]
  by_cases h1 : 1 ≤ n
  all_goals
    refine pwp_seq (pwp_regionM fun K hK => ?_)
    simp [runM_nil, runM_cons, runB, goes, pev, ptake, putSt, arg, argT, takeAt, lend, lendL, thenP, inBlockP, binP, binBP, intP, unP, lenP, fadP, ldP, iadP, fldP, extP, extTake, sliP, optN, appP, emptyOr, cvSP, cvMP, hget, hset, partP, cellsOf, callArgs, callTake, fillP, partsOf, elemParts, elemsOf, chunk, PV.isCell, mmP, eqSP, eqCells, planM_nil, planM_cons, planB, keepL_MS, keepA, MS_getD, MS_get, MS_set, getS, idxA]
    refine hK _ _ (pwp_seq (pwp_regionM fun K hK => ?_))
    simp [runM_nil, runM_cons, runB, goes, pev, ptake, putSt, arg, argT, takeAt, lend, lendL, thenP, inBlockP, binP, binBP, intP, unP, lenP, fadP, ldP, iadP, fldP, extP, extTake, sliP, optN, appP, emptyOr, cvSP, cvMP, hget, hset, partP, cellsOf, callArgs, callTake, fillP, partsOf, elemParts, elemsOf, chunk, PV.isCell, mmP, eqSP, eqCells, planM_nil, planM_cons, planB, keepL_MS, keepA, MS_getD, MS_get, MS_set, getS, idxA, h1]
    refine hK _ _ (pwp_ret ?_)
    simp [runM_nil, runM_cons, runB, goes, pev, ptake, putSt, arg, argT, takeAt, lend, lendL, thenP, inBlockP, binP, binBP, intP, unP, lenP, fadP, ldP, iadP, fldP, extP, extTake, sliP, optN, appP, emptyOr, cvSP, cvMP, hget, hset, partP, cellsOf, callArgs, callTake, fillP, partsOf, elemParts, elemsOf, chunk, PV.isCell, mmP, eqSP, eqCells, planM_nil, planM_cons, planB, keepL_MS, keepA, MS_getD, MS_get, MS_set, getS, idxA, resL, resV]
    omega
theorem whole (xs : List PV) (w : Int) (hw : 1 ≤ w) (hl : xs.length ≤ 3000) : PSpec Try.prog 30 [.lst 1 xs false, .int .i64 w] (.int .i64 (xs.length - (xs.length : Int).tmod w)) := by
  intro H
  refine spec_of t30 (by simp [p30]) ?_
  simp only [p30]
  have hw0 : w ≠ 0 := by omega
  have h1 : 0 ≤ (xs.length : Int).tmod w := Int.tmod_nonneg _ (by omega)
  have h2 : (xs.length : Int).tmod w ≤ xs.length := by rw [Int.tmod_eq_emod_of_nonneg (by omega)]; have := Int.emod_add_mul_ediv (xs.length : Int) w; have := Int.ediv_nonneg (a := (xs.length : Int)) (b := w) (by omega) (by omega); have := Int.mul_nonneg (a := w) (by omega) this; omega
  have h3 : IntKind.i64.wrap ((xs.length : Int) - (xs.length : Int).tmod w) = (xs.length : Int) - (xs.length : Int).tmod w := w64 (by omega) (by omega)
  refine pwp_seq (pwp_regionM fun K hK => ?_)
  simp [runM_nil, runM_cons, runB, goes, pev, ptake, putSt, arg, argT, takeAt, lend, lendL, thenP, inBlockP, binP, binBP, intP, unP, lenP, fadP, ldP, iadP, fldP, extP, extTake, sliP, optN, appP, emptyOr, cvSP, cvMP, hget, hset, partP, cellsOf, callArgs, callTake, fillP, partsOf, elemParts, elemsOf, chunk, PV.isCell, mmP, eqSP, eqCells, planM_nil, planM_cons, planB, keepL_MS, keepA, MS_getD, MS_get, MS_set, getS, idxA]
  refine hK _ _ (pwp_seq (pwp_regionM fun K hK => ?_))
  simp [runM_nil, runM_cons, runB, goes, pev, ptake, putSt, arg, argT, takeAt, lend, lendL, thenP, inBlockP, binP, binBP, intP, unP, lenP, fadP, ldP, iadP, fldP, extP, extTake, sliP, optN, appP, emptyOr, cvSP, cvMP, hget, hset, partP, cellsOf, callArgs, callTake, fillP, partsOf, elemParts, elemsOf, chunk, PV.isCell, mmP, eqSP, eqCells, planM_nil, planM_cons, planB, keepL_MS, keepA, MS_getD, MS_get, MS_set, getS, idxA, hw0, h3]
  refine hK _ _ (pwp_ret ?_)
  simp [runM_nil, runM_cons, runB, goes, pev, ptake, putSt, arg, argT, takeAt, lend, lendL, thenP, inBlockP, binP, binBP, intP, unP, lenP, fadP, ldP, iadP, fldP, extP, extTake, sliP, optN, appP, emptyOr, cvSP, cvMP, hget, hset, partP, cellsOf, callArgs, callTake, fillP, partsOf, elemParts, elemsOf, chunk, PV.isCell, mmP, eqSP, eqCells, planM_nil, planM_cons, planB, keepL_MS, keepA, MS_getD, MS_get, MS_set, getS, idxA, resL, resV]
/-- The bytes of a file. -/
def bytesV (bs : List Int) : PV := .lst 1 (bs.map (.int .u8)) false
def cutOf (bs : List Int) (a w : Nat) : List Int := (bs.take (a + w)).drop a
def pieceV (bs : List Int) (w a : Nat) : PV := .agg [.int .i64 a, .lst 1 [.lst 1 [.str (cutOf bs a w)] false] false]
def accV (sz : Nat) (xs : List PV) : PV := .lst (if xs = [] then 0 else sz) xs true
def Wf8 (bs : List Int) : Prop := ∀ c ∈ bs, 0 ≤ c ∧ c < 256
theorem norm8_map {l : List Int} (h : Wf8 l) : l.map norm8 = l := by
  have : ∀ c ∈ l, norm8 c = c := fun c hc => norm8_of (h c hc)
  exact (List.map_congr_left this).trans (List.map_id _)
theorem Wf8.cut {bs : List Int} (h : Wf8 bs) (a w : Nat) : Wf8 (cutOf bs a w) := fun c hc => h c (List.mem_of_mem_take (List.mem_of_mem_drop hc))
theorem pieces_ok (bs : List Int) (w a n : Nat) (t : Int) (hwf : Wf8 bs) (hl : bs.length ≤ 3000) (hw : 1 ≤ w) (hw2 : w ≤ 1000) (hin : a + n * w ≤ bs.length ∨ n = 0 ∧ a ≤ 5000) (hlo : ∀ i, i < n → ((a + i * w : Nat) : Int) < t) (hhi : t ≤ (a + n * w : Nat)) :
    PSpec Try.prog 31 [bytesV bs, .int .i64 a, .int .i64 t, .int .i64 w] (accV 2 ((List.range n).map fun i => pieceV bs w (a + i * w))) := by
  intro H
  refine spec_of t31 (by simp [p31]) ?_
  simp only [p31]
  refine pwp_seq (pwp_regionM fun K hK => ?_)
  simp [runM_nil, runM_cons, runB, goes, pev, ptake, putSt, arg, argT, takeAt, lend, lendL, thenP, inBlockP, binP, binBP, intP, unP, lenP, fadP, ldP, iadP, fldP, extP, extTake, sliP, optN, appP, emptyOr, cvSP, cvMP, hget, hset, partP, cellsOf, callArgs, callTake, fillP, partsOf, elemParts, elemsOf, chunk, PV.isCell, mmP, eqSP, eqCells, planM_nil, planM_cons, planB, keepL_MS, keepA, MS_getD, MS_get, MS_set, getS, idxA]
  refine hK _ _ (pwp_seq (pwp_regionM fun K hK => ?_))
  simp [runM_nil, runM_cons, runB, goes, pev, ptake, putSt, arg, argT, takeAt, lend, lendL, thenP, inBlockP, binP, binBP, intP, unP, lenP, fadP, ldP, iadP, fldP, extP, extTake, sliP, optN, appP, emptyOr, cvSP, cvMP, hget, hset, partP, cellsOf, callArgs, callTake, fillP, partsOf, elemParts, elemsOf, chunk, PV.isCell, mmP, eqSP, eqCells, planM_nil, planM_cons, planB, keepL_MS, keepA, MS_getD, MS_get, MS_set, getS, idxA]
  refine hK _ _ (pwp_seq (pwp_block ?_))
  refine pwp_loopK [0, 1, 2, 3, 8, 9] (fun m st H' => ∃ k, k ≤ n ∧ m = n - k ∧ H' = H ∧ st = MS 31 [(0, bytesV bs), (1, .int .i64 (a + k * w : Nat)), (2, .int .i64 t), (3, .int .i64 w), (8, .lst 0 [] true),
    (9, accV 2 ((List.range k).map fun i => pieceV bs w (a + i * w)))]) (n := n) ⟨H, List.Sublist.refl _, 0, Nat.zero_le _, rfl, rfl, ?_⟩ ?_
  · simp [runM_nil, runM_cons, runB, goes, pev, ptake, putSt, arg, argT, takeAt, lend, lendL, thenP, inBlockP, binP, binBP, intP, unP, lenP, fadP, ldP, iadP, fldP, extP, extTake, sliP, optN, appP, emptyOr, cvSP, cvMP, hget, hset, partP, cellsOf, callArgs, callTake, fillP, partsOf, elemParts, elemsOf, chunk, PV.isCell, mmP, eqSP, eqCells, planM_nil, planM_cons, planB, keepL_MS, keepA, MS_getD, MS_get, MS_set, getS, idxA, accV]
  rintro m st _ ⟨k, hk, rfl, rfl, rfl⟩
  have hlok := hlo k
  have hmul : k < n → (k + 1) * w ≤ n * w := fun h => Nat.mul_le_mul_right _ h
  have hkn : k = n → k * w = n * w := fun h => by rw [h]
  have hnext : a + (k + 1) * w = a + k * w + w := by rw [Nat.succ_mul]; omega
  have hacc : ((List.range (k + 1)).map fun i => pieceV bs w (a + i * w)) = ((List.range k).map fun i => pieceV bs w (a + i * w)) ++ [pieceV bs w (a + k * w)] := by rw [List.range_succ]; simp
  have hkw : k ≤ k * w := Nat.le_mul_of_pos_right _ hw
  have hall : k < n → k ≤ 3000 := fun h => by have := hmul h; rw [Nat.succ_mul] at this; omega
  generalize hq : a + k * w = q at *
  generalize hacc0 : (List.range k).map (fun i => pieceV bs w (a + i * w)) = acc at *
  have hal : acc.length = k := by rw [← hacc0]; simp
  refine pwp_seq (pwp_seq (pwp_regionM fun K hK => ?_))
  simp only [bytesV, accV]
  by_cases hkn2 : k < n
  · have hlt : (q : Int) < t := hlok hkn2
    simp [runM_nil, runM_cons, runB, goes, pev, ptake, putSt, arg, argT, takeAt, lend, lendL, thenP, inBlockP, binP, binBP, intP, unP, lenP, fadP, ldP, iadP, fldP, extP, extTake, sliP, optN, appP, emptyOr, cvSP, cvMP, hget, hset, partP, cellsOf, callArgs, callTake, fillP, partsOf, elemParts, elemsOf, chunk, PV.isCell, mmP, eqSP, eqCells, planM_nil, planM_cons, planB, keepL_MS, keepA, MS_getD, MS_get, MS_set, getS, idxA, hlt]
    refine hK _ _ (pwp_cond (b := true) (by simp [runM_nil, runM_cons, runB, goes, pev, ptake, putSt, arg, argT, takeAt, lend, lendL, thenP, inBlockP, binP, binBP, intP, unP, lenP, fadP, ldP, iadP, fldP, extP, extTake, sliP, optN, appP, emptyOr, cvSP, cvMP, hget, hset, partP, cellsOf, callArgs, callTake, fillP, partsOf, elemParts, elemsOf, chunk, PV.isCell, mmP, eqSP, eqCells, planM_nil, planM_cons, planB, keepL_MS, keepA, MS_getD, MS_get, MS_set, getS, idxA]) (fun _ => pwp_skip ?_) (fun h => by cases h))
    have hin2 : q + w ≤ bs.length := by have := hmul hkn2; rcases hin with h | ⟨h, _⟩ <;> omega
    have hwr : IntKind.i64.wrap ((q : Int) + w) = (q : Int) + w := w64 (by omega) (by omega)
    have h0 : (0 : Int) ≤ (q : Int) + w := by omega
    have hn : ((q : Int) + w).toNat = q + w := by omega
    have hc : List.drop q (List.take (q + w) (bs.map (PV.int .u8))) = (cutOf bs q w).map (PV.int .u8) := by simp [cutOf, List.map_drop, List.map_take]
    have hk3 : (acc.length + 1) * 32 ≤ 140737488355328 := by have := hall hkn2; omega
    have hacc1 : (¬ acc = [] ∨ acc = []) = True := eq_true (Classical.em _).symm
    refine pwp_seq (pwp_block (pwp_regionM fun K hK => ?_))
    simp [runM_nil, runM_cons, runB, goes, pev, ptake, putSt, arg, argT, takeAt, lend, lendL, thenP, inBlockP, binP, binBP, intP, unP, lenP, fadP, ldP, iadP, fldP, extP, extTake, sliP, optN, appP, emptyOr, cvSP, cvMP, hget, hset, partP, cellsOf, callArgs, callTake, fillP, partsOf, elemParts, elemsOf, chunk, PV.isCell, mmP, eqSP, eqCells, planM_nil, planM_cons, planB, keepL_MS, keepA, MS_getD, MS_get, MS_set, getS, idxA, hwr, h0, hn, hin2, hc, toInts_map, norm8_map (hwf.cut q w), hk3, hacc1]
    refine hK _ _ (pwp_regionM fun K hK => ?_)
    simp [runM_nil, runM_cons, runB, goes, pev, ptake, putSt, arg, argT, takeAt, lend, lendL, thenP, inBlockP, binP, binBP, intP, unP, lenP, fadP, ldP, iadP, fldP, extP, extTake, sliP, optN, appP, emptyOr, cvSP, cvMP, hget, hset, partP, cellsOf, callArgs, callTake, fillP, partsOf, elemParts, elemsOf, chunk, PV.isCell, mmP, eqSP, eqCells, planM_nil, planM_cons, planB, keepL_MS, keepA, MS_getD, MS_get, MS_set, getS, idxA, hwr]
    refine hK _ _ ⟨n - (k + 1), by omega, _, List.Sublist.refl _, k + 1, by omega, rfl, rfl, ?_⟩
    rw [hacc, hnext]
    simp [runM_nil, runM_cons, runB, goes, pev, ptake, putSt, arg, argT, takeAt, lend, lendL, thenP, inBlockP, binP, binBP, intP, unP, lenP, fadP, ldP, iadP, fldP, extP, extTake, sliP, optN, appP, emptyOr, cvSP, cvMP, hget, hset, partP, cellsOf, callArgs, callTake, fillP, partsOf, elemParts, elemsOf, chunk, PV.isCell, mmP, eqSP, eqCells, planM_nil, planM_cons, planB, keepL_MS, keepA, MS_getD, MS_get, MS_set, getS, idxA, pieceV, bytesV, accV]
  · have hkn3 : k = n := by omega
    have hge : ¬ ((q : Int) < t) := by have := hkn hkn3; omega
    simp [runM_nil, runM_cons, runB, goes, pev, ptake, putSt, arg, argT, takeAt, lend, lendL, thenP, inBlockP, binP, binBP, intP, unP, lenP, fadP, ldP, iadP, fldP, extP, extTake, sliP, optN, appP, emptyOr, cvSP, cvMP, hget, hset, partP, cellsOf, callArgs, callTake, fillP, partsOf, elemParts, elemsOf, chunk, PV.isCell, mmP, eqSP, eqCells, planM_nil, planM_cons, planB, keepL_MS, keepA, MS_getD, MS_get, MS_set, getS, idxA, hge]
    refine hK _ _ (pwp_cond (b := false) (by simp [runM_nil, runM_cons, runB, goes, pev, ptake, putSt, arg, argT, takeAt, lend, lendL, thenP, inBlockP, binP, binBP, intP, unP, lenP, fadP, ldP, iadP, fldP, extP, extTake, sliP, optN, appP, emptyOr, cvSP, cvMP, hget, hset, partP, cellsOf, callArgs, callTake, fillP, partsOf, elemParts, elemsOf, chunk, PV.isCell, mmP, eqSP, eqCells, planM_nil, planM_cons, planB, keepL_MS, keepA, MS_getD, MS_get, MS_set, getS, idxA]) (fun h => by cases h) (fun _ => pwp_exit ?_))
    refine pwp_seq (pwp_regionM fun K hK => ?_)
    simp [runM_nil, runM_cons, runB, goes, pev, ptake, putSt, arg, argT, takeAt, lend, lendL, thenP, inBlockP, binP, binBP, intP, unP, lenP, fadP, ldP, iadP, fldP, extP, extTake, sliP, optN, appP, emptyOr, cvSP, cvMP, hget, hset, partP, cellsOf, callArgs, callTake, fillP, partsOf, elemParts, elemsOf, chunk, PV.isCell, mmP, eqSP, eqCells, planM_nil, planM_cons, planB, keepL_MS, keepA, MS_getD, MS_get, MS_set, getS, idxA]
    refine hK _ _ (pwp_ret ?_)
    subst hkn3
    rw [← hacc0]
    simp [runM_nil, runM_cons, runB, goes, pev, ptake, putSt, arg, argT, takeAt, lend, lendL, thenP, inBlockP, binP, binBP, intP, unP, lenP, fadP, ldP, iadP, fldP, extP, extTake, sliP, optN, appP, emptyOr, cvSP, cvMP, hget, hset, partP, cellsOf, callArgs, callTake, fillP, partsOf, elemParts, elemsOf, chunk, PV.isCell, mmP, eqSP, eqCells, planM_nil, planM_cons, planB, keepL_MS, keepA, MS_getD, MS_get, MS_set, getS, idxA, resL, resV, accV]
/-- The pieces of a file, and how many whole ones there are. -/
def piecesV (bs : List Int) (w n : Nat) : PV := accV 2 ((List.range n).map fun i => pieceV bs w (0 + i * w))
theorem tmod_nat (a b : Nat) : (a : Int).tmod b = ((a % b : Nat) : Int) := by
  rw [Int.tmod_eq_emod_of_nonneg (by omega)]
  rfl
theorem good_eq (l w : Nat) : (l : Int) - (l : Int).tmod w = ((l / w * w : Nat) : Int) := by
  rw [tmod_nat]
  have := Nat.div_add_mod l w
  rw [Nat.mul_comm] at this
  omega
theorem scan_ok (bs : List Int) (w : Nat) (hwf : Wf8 bs) (hl : bs.length ≤ 3000) (hw : 1 ≤ w) (hw2 : w ≤ 1000) :
    ∃ e : Int, PSpec Try.prog 14 [bytesV bs, .int .i64 w] (.tup [piecesV bs w (bs.length / w), .int .i64 (bs.length / w * w : Nat), .int .i64 e]) := by
  refine ⟨if (bs.length / w * w : Nat) < bs.length then 2 else 0, fun H => ?_⟩
  refine spec_of t14 (by simp [p14]) ?_
  simp only [p14, bytesV]
  have hgle : bs.length / w * w ≤ bs.length := Nat.div_mul_le_self _ _
  have hpc := pieces_ok bs w 0 (bs.length / w) (bs.length / w * w : Nat) hwf hl hw hw2 (.inl (by omega)) (fun i hi => by have := Nat.mul_le_mul_right w (show i + 1 ≤ bs.length / w from hi); rw [Nat.succ_mul] at this; omega) (by omega)
  have hwh := whole (bs.map (.int .u8)) w (by omega) (by simpa using hl)
  rw [List.length_map, good_eq] at hwh
  have hisw := isWidth w
  rw [decide_eq_true (show (1 : Int) ≤ w by omega), decide_eq_true (show (w : Int) ≤ 1000 by omega)] at hisw
  simp only [bytesV] at hpc
  generalize bs.length / w * w = good at *
  refine pwp_seq (pwp_regionM fun K hK => ?_)
  simp [runM_nil, runM_cons, runB, goes, pev, ptake, putSt, arg, argT, takeAt, lend, lendL, thenP, inBlockP, binP, binBP, intP, unP, lenP, fadP, ldP, iadP, fldP, extP, extTake, sliP, optN, appP, emptyOr, cvSP, cvMP, hget, hset, partP, cellsOf, callArgs, callTake, fillP, partsOf, elemParts, elemsOf, chunk, PV.isCell, mmP, eqSP, eqCells, planM_nil, planM_cons, planB, keepL_MS, keepA, MS_getD, MS_get, MS_set, getS, idxA]
  refine hK _ _ (pwp_seq (pwp_seq (pwp_regionM fun K hK => ?_)))
  simp [runM_nil, runM_cons, runB, goes, pev, ptake, putSt, arg, argT, takeAt, lend, lendL, thenP, inBlockP, binP, binBP, intP, unP, lenP, fadP, ldP, iadP, fldP, extP, extTake, sliP, optN, appP, emptyOr, cvSP, cvMP, hget, hset, partP, cellsOf, callArgs, callTake, fillP, partsOf, elemParts, elemsOf, chunk, PV.isCell, mmP, eqSP, eqCells, planM_nil, planM_cons, planB, keepL_MS, keepA, MS_getD, MS_get, MS_set, getS, idxA]
  refine useP hisw ?_
  simp [runM_nil, runM_cons, runB, goes, pev, ptake, putSt, arg, argT, takeAt, lend, lendL, thenP, inBlockP, binP, binBP, intP, unP, lenP, fadP, ldP, iadP, fldP, extP, extTake, sliP, optN, appP, emptyOr, cvSP, cvMP, hget, hset, partP, cellsOf, callArgs, callTake, fillP, partsOf, elemParts, elemsOf, chunk, PV.isCell, mmP, eqSP, eqCells, planM_nil, planM_cons, planB, keepL_MS, keepA, MS_getD, MS_get, MS_set, getS, idxA]
  refine hK _ _ (pwp_cond (b := false) (by simp [runM_nil, runM_cons, runB, goes, pev, ptake, putSt, arg, argT, takeAt, lend, lendL, thenP, inBlockP, binP, binBP, intP, unP, lenP, fadP, ldP, iadP, fldP, extP, extTake, sliP, optN, appP, emptyOr, cvSP, cvMP, hget, hset, partP, cellsOf, callArgs, callTake, fillP, partsOf, elemParts, elemsOf, chunk, PV.isCell, mmP, eqSP, eqCells, planM_nil, planM_cons, planB, keepL_MS, keepA, MS_getD, MS_get, MS_set, getS, idxA]) (fun h => by cases h) (fun _ => pwp_skip ?_))
  refine pwp_seq (pwp_regionM fun K hK => ?_)
  simp [runM_nil, runM_cons, runB, goes, pev, ptake, putSt, arg, argT, takeAt, lend, lendL, thenP, inBlockP, binP, binBP, intP, unP, lenP, fadP, ldP, iadP, fldP, extP, extTake, sliP, optN, appP, emptyOr, cvSP, cvMP, hget, hset, partP, cellsOf, callArgs, callTake, fillP, partsOf, elemParts, elemsOf, chunk, PV.isCell, mmP, eqSP, eqCells, planM_nil, planM_cons, planB, keepL_MS, keepA, MS_getD, MS_get, MS_set, getS, idxA]
  refine useP hwh ?_
  simp [runM_nil, runM_cons, runB, goes, pev, ptake, putSt, arg, argT, takeAt, lend, lendL, thenP, inBlockP, binP, binBP, intP, unP, lenP, fadP, ldP, iadP, fldP, extP, extTake, sliP, optN, appP, emptyOr, cvSP, cvMP, hget, hset, partP, cellsOf, callArgs, callTake, fillP, partsOf, elemParts, elemsOf, chunk, PV.isCell, mmP, eqSP, eqCells, planM_nil, planM_cons, planB, keepL_MS, keepA, MS_getD, MS_get, MS_set, getS, idxA]
  refine hK _ _ (pwp_seq (pwp_regionM fun K hK => ?_))
  simp [runM_nil, runM_cons, runB, goes, pev, ptake, putSt, arg, argT, takeAt, lend, lendL, thenP, inBlockP, binP, binBP, intP, unP, lenP, fadP, ldP, iadP, fldP, extP, extTake, sliP, optN, appP, emptyOr, cvSP, cvMP, hget, hset, partP, cellsOf, callArgs, callTake, fillP, partsOf, elemParts, elemsOf, chunk, PV.isCell, mmP, eqSP, eqCells, planM_nil, planM_cons, planB, keepL_MS, keepA, MS_getD, MS_get, MS_set, getS, idxA]
  refine hK _ _ (pwp_seq (pwp_seq (pwp_regionM fun K hK => ?_)))
  by_cases hlt : good < bs.length
  · simp [runM_nil, runM_cons, runB, goes, pev, ptake, putSt, arg, argT, takeAt, lend, lendL, thenP, inBlockP, binP, binBP, intP, unP, lenP, fadP, ldP, iadP, fldP, extP, extTake, sliP, optN, appP, emptyOr, cvSP, cvMP, hget, hset, partP, cellsOf, callArgs, callTake, fillP, partsOf, elemParts, elemsOf, chunk, PV.isCell, mmP, eqSP, eqCells, planM_nil, planM_cons, planB, keepL_MS, keepA, MS_getD, MS_get, MS_set, getS, idxA, hlt]
    refine hK _ _ (pwp_cond (b := true) (by simp [runM_nil, runM_cons, runB, goes, pev, ptake, putSt, arg, argT, takeAt, lend, lendL, thenP, inBlockP, binP, binBP, intP, unP, lenP, fadP, ldP, iadP, fldP, extP, extTake, sliP, optN, appP, emptyOr, cvSP, cvMP, hget, hset, partP, cellsOf, callArgs, callTake, fillP, partsOf, elemParts, elemsOf, chunk, PV.isCell, mmP, eqSP, eqCells, planM_nil, planM_cons, planB, keepL_MS, keepA, MS_getD, MS_get, MS_set, getS, idxA]) (fun _ => pwp_regionM fun K hK => ?_) (fun h => by cases h))
    simp [runM_nil, runM_cons, runB, goes, pev, ptake, putSt, arg, argT, takeAt, lend, lendL, thenP, inBlockP, binP, binBP, intP, unP, lenP, fadP, ldP, iadP, fldP, extP, extTake, sliP, optN, appP, emptyOr, cvSP, cvMP, hget, hset, partP, cellsOf, callArgs, callTake, fillP, partsOf, elemParts, elemsOf, chunk, PV.isCell, mmP, eqSP, eqCells, planM_nil, planM_cons, planB, keepL_MS, keepA, MS_getD, MS_get, MS_set, getS, idxA]
    refine hK _ _ (pwp_seq (pwp_regionM fun K hK => ?_))
    simp [runM_nil, runM_cons, runB, goes, pev, ptake, putSt, arg, argT, takeAt, lend, lendL, thenP, inBlockP, binP, binBP, intP, unP, lenP, fadP, ldP, iadP, fldP, extP, extTake, sliP, optN, appP, emptyOr, cvSP, cvMP, hget, hset, partP, cellsOf, callArgs, callTake, fillP, partsOf, elemParts, elemsOf, chunk, PV.isCell, mmP, eqSP, eqCells, planM_nil, planM_cons, planB, keepL_MS, keepA, MS_getD, MS_get, MS_set, getS, idxA]
    refine useP hpc ?_
    simp [runM_nil, runM_cons, runB, goes, pev, ptake, putSt, arg, argT, takeAt, lend, lendL, thenP, inBlockP, binP, binBP, intP, unP, lenP, fadP, ldP, iadP, fldP, extP, extTake, sliP, optN, appP, emptyOr, cvSP, cvMP, hget, hset, partP, cellsOf, callArgs, callTake, fillP, partsOf, elemParts, elemsOf, chunk, PV.isCell, mmP, eqSP, eqCells, planM_nil, planM_cons, planB, keepL_MS, keepA, MS_getD, MS_get, MS_set, getS, idxA]
    refine hK _ _ (pwp_ret ?_)
    simp [runM_nil, runM_cons, runB, goes, pev, ptake, putSt, arg, argT, takeAt, lend, lendL, thenP, inBlockP, binP, binBP, intP, unP, lenP, fadP, ldP, iadP, fldP, extP, extTake, sliP, optN, appP, emptyOr, cvSP, cvMP, hget, hset, partP, cellsOf, callArgs, callTake, fillP, partsOf, elemParts, elemsOf, chunk, PV.isCell, mmP, eqSP, eqCells, planM_nil, planM_cons, planB, keepL_MS, keepA, MS_getD, MS_get, MS_set, getS, idxA, resL, resV, piecesV, hlt]
  · simp [runM_nil, runM_cons, runB, goes, pev, ptake, putSt, arg, argT, takeAt, lend, lendL, thenP, inBlockP, binP, binBP, intP, unP, lenP, fadP, ldP, iadP, fldP, extP, extTake, sliP, optN, appP, emptyOr, cvSP, cvMP, hget, hset, partP, cellsOf, callArgs, callTake, fillP, partsOf, elemParts, elemsOf, chunk, PV.isCell, mmP, eqSP, eqCells, planM_nil, planM_cons, planB, keepL_MS, keepA, MS_getD, MS_get, MS_set, getS, idxA, hlt]
    refine hK _ _ (pwp_cond (b := false) (by simp [runM_nil, runM_cons, runB, goes, pev, ptake, putSt, arg, argT, takeAt, lend, lendL, thenP, inBlockP, binP, binBP, intP, unP, lenP, fadP, ldP, iadP, fldP, extP, extTake, sliP, optN, appP, emptyOr, cvSP, cvMP, hget, hset, partP, cellsOf, callArgs, callTake, fillP, partsOf, elemParts, elemsOf, chunk, PV.isCell, mmP, eqSP, eqCells, planM_nil, planM_cons, planB, keepL_MS, keepA, MS_getD, MS_get, MS_set, getS, idxA]) (fun h => by cases h) (fun _ => pwp_skip ?_))
    refine pwp_seq (pwp_regionM fun K hK => ?_)
    simp [runM_nil, runM_cons, runB, goes, pev, ptake, putSt, arg, argT, takeAt, lend, lendL, thenP, inBlockP, binP, binBP, intP, unP, lenP, fadP, ldP, iadP, fldP, extP, extTake, sliP, optN, appP, emptyOr, cvSP, cvMP, hget, hset, partP, cellsOf, callArgs, callTake, fillP, partsOf, elemParts, elemsOf, chunk, PV.isCell, mmP, eqSP, eqCells, planM_nil, planM_cons, planB, keepL_MS, keepA, MS_getD, MS_get, MS_set, getS, idxA]
    refine useP hpc ?_
    simp [runM_nil, runM_cons, runB, goes, pev, ptake, putSt, arg, argT, takeAt, lend, lendL, thenP, inBlockP, binP, binBP, intP, unP, lenP, fadP, ldP, iadP, fldP, extP, extTake, sliP, optN, appP, emptyOr, cvSP, cvMP, hget, hset, partP, cellsOf, callArgs, callTake, fillP, partsOf, elemParts, elemsOf, chunk, PV.isCell, mmP, eqSP, eqCells, planM_nil, planM_cons, planB, keepL_MS, keepA, MS_getD, MS_get, MS_set, getS, idxA]
    refine hK _ _ (pwp_ret ?_)
    simp [runM_nil, runM_cons, runB, goes, pev, ptake, putSt, arg, argT, takeAt, lend, lendL, thenP, inBlockP, binP, binBP, intP, unP, lenP, fadP, ldP, iadP, fldP, extP, extTake, sliP, optN, appP, emptyOr, cvSP, cvMP, hget, hset, partP, cellsOf, callArgs, callTake, fillP, partsOf, elemParts, elemsOf, chunk, PV.isCell, mmP, eqSP, eqCells, planM_nil, planM_cons, planB, keepL_MS, keepA, MS_getD, MS_get, MS_set, getS, idxA, resL, resV, piecesV, hlt]
end Go.Proofs.Ytjbnomkajfmlpaa.E
