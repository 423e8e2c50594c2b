/- FixedPlaces, on plain values. -/
import Derived.Test.YtjbnomkajfmlpaaER9
namespace Go.Proofs.Ytjbnomkajfmlpaa.E
open Go Go.RowKit Go.Proofs
set_option linter.unusedVariables false
set_option linter.unusedSimpArgs false
theorem upTo_min (t K w : Nat) (hw : 1 ≤ w) : upTo (min t (K * w)) w = min K (upTo t w) := by
  have key : ∀ i, i < upTo (min t (K * w)) w ↔ i < min K (upTo t w) := fun i => by
    rw [upTo_lt hw, Nat.lt_min, Nat.lt_min, upTo_lt hw]
    have : i * w < K * w ↔ i < K := Nat.mul_lt_mul_right (by omega)
    rw [this]
    exact ⟨fun h => ⟨h.2, h.1⟩, fun h => ⟨h.2, h.1⟩⟩
  have h1 := key (min K (upTo t w))
  have h2 := key (upTo (min t (K * w)) w)
  omega
theorem tdiv_nat (a b : Nat) : (a : Int).tdiv b = ((a / b : Nat) : Int) := by
  rw [Int.tdiv_eq_ediv_of_nonneg (by omega)]
  rfl
set_option maxHeartbeats 2000000 in
theorem places_main (bs : List Int) (f t w : Nat) (hwf : Wf8 bs) (hl : bs.length ≤ 3000) (hw : 1 ≤ w) (hw2 : w ≤ 1000) (hft : f ≤ t) (htl : t ≤ bs.length) :
    PSpec Try.prog 8 [bytesV bs, .agg [.int .i64 f, .int .i64 t, .int .i64 w]] (.bool true) := by
  intro H
  refine spec_of t8 (by simp [p8]) ?_
  simp only [p8]
  obtain ⟨e1, hscan⟩ := scan_ok bs w hwf hl hw hw2
  obtain ⟨e2, hread⟩ := read_ok bs w f t hwf hl hw hw2 hft htl
  rw [upTo_min t _ w hw] at hread
  have hKw : bs.length / w * w ≤ bs.length := Nat.div_mul_le_self _ _
  have hKl : bs.length / w ≤ bs.length := Nat.div_le_self _ _
  have hdiv := tdiv_nat bs.length w
  simp only [bytesV] at hscan hread ⊢
  generalize bs.length / w * w = good at hscan
  generalize bs.length / w = M at *
  have c1 : ¬ (3000 < (bs.length : Int)) := by omega
  have c2 : ¬ ((w : Int) < 1) := by omega
  have c2' : ¬ (w = 0) := by omega
  have c3 : ¬ (1000 < (w : Int)) := by omega
  have c7 : ¬ ((t : Int) < f) := by omega
  have c8 : ¬ ((bs.length : Int) < t) := by omega
  have c4 : ¬ ((f : Int) < 0) := by omega
  have c5 : ¬ (t < f) := by omega
  have c6 : ¬ (bs.length < t) := by omega
  refine pwp_seq (pwp_regionM fun K hK => ?_)
  simp [runM_nil, runM_cons, runB, goes, pev, ptake, putSt, arg, argT, takeAt, lend, lendL, thenP, inBlockP, binP, binBP, intP, unP, lenP, fadP, ldP, iadP, fldP, extP, extTake, sliP, optN, appP, emptyOr, cvSP, cvMP, hget, hset, partP, cellsOf, callArgs, callTake, fillP, partsOf, elemParts, elemsOf, chunk, PV.isCell, mmP, eqSP, eqCells, planM_nil, planM_cons, planB, keepL_MS, keepA, MS_getD, MS_get, MS_set, getS, idxA]
  intro b hb
  refine hK _ _ (pwp_seq (pwp_seq (pwp_regionM fun K hK => ?_)))
  simp [runM_nil, runM_cons, runB, goes, pev, ptake, putSt, arg, argT, takeAt, lend, lendL, thenP, inBlockP, binP, binBP, intP, unP, lenP, fadP, ldP, iadP, fldP, extP, extTake, sliP, optN, appP, emptyOr, cvSP, cvMP, hget, hset, partP, cellsOf, callArgs, callTake, fillP, partsOf, elemParts, elemsOf, chunk, PV.isCell, mmP, eqSP, eqCells, planM_nil, planM_cons, planB, keepL_MS, keepA, MS_getD, MS_get, MS_set, getS, idxA, c1, c2, c2', c3, c4, c5, c6, c7, c8]
  refine hK _ _ (pwp_cond (b := false) (by simp [runM_nil, runM_cons, runB, goes, pev, ptake, putSt, arg, argT, takeAt, lend, lendL, thenP, inBlockP, binP, binBP, intP, unP, lenP, fadP, ldP, iadP, fldP, extP, extTake, sliP, optN, appP, emptyOr, cvSP, cvMP, hget, hset, partP, cellsOf, callArgs, callTake, fillP, partsOf, elemParts, elemsOf, chunk, PV.isCell, mmP, eqSP, eqCells, planM_nil, planM_cons, planB, keepL_MS, keepA, MS_getD, MS_get, MS_set, getS, idxA]) (fun h => by cases h) (fun _ => pwp_skip ?_))
  refine pwp_seq (pwp_regionM fun K hK => ?_)
  simp [runM_nil, runM_cons, runB, goes, pev, ptake, putSt, arg, argT, takeAt, lend, lendL, thenP, inBlockP, binP, binBP, intP, unP, lenP, fadP, ldP, iadP, fldP, extP, extTake, sliP, optN, appP, emptyOr, cvSP, cvMP, hget, hset, partP, cellsOf, callArgs, callTake, fillP, partsOf, elemParts, elemsOf, chunk, PV.isCell, mmP, eqSP, eqCells, planM_nil, planM_cons, planB, keepL_MS, keepA, MS_getD, MS_get, MS_set, getS, idxA]
  refine useP hscan ?_
  simp [runM_nil, runM_cons, runB, goes, pev, ptake, putSt, arg, argT, takeAt, lend, lendL, thenP, inBlockP, binP, binBP, intP, unP, lenP, fadP, ldP, iadP, fldP, extP, extTake, sliP, optN, appP, emptyOr, cvSP, cvMP, hget, hset, partP, cellsOf, callArgs, callTake, fillP, partsOf, elemParts, elemsOf, chunk, PV.isCell, mmP, eqSP, eqCells, planM_nil, planM_cons, planB, keepL_MS, keepA, MS_getD, MS_get, MS_set, getS, idxA, piecesV, accV]
  refine hK _ _ (pwp_seq (pwp_regionM fun K hK => ?_))
  simp [runM_nil, runM_cons, runB, goes, pev, ptake, putSt, arg, argT, takeAt, lend, lendL, thenP, inBlockP, binP, binBP, intP, unP, lenP, fadP, ldP, iadP, fldP, extP, extTake, sliP, optN, appP, emptyOr, cvSP, cvMP, hget, hset, partP, cellsOf, callArgs, callTake, fillP, partsOf, elemParts, elemsOf, chunk, PV.isCell, mmP, eqSP, eqCells, planM_nil, planM_cons, planB, keepL_MS, keepA, MS_getD, MS_get, MS_set, getS, idxA]
  refine hK _ _ (pwp_seq (pwp_seq (pwp_regionM fun K hK => ?_)))
  simp [runM_nil, runM_cons, runB, goes, pev, ptake, putSt, arg, argT, takeAt, lend, lendL, thenP, inBlockP, binP, binBP, intP, unP, lenP, fadP, ldP, iadP, fldP, extP, extTake, sliP, optN, appP, emptyOr, cvSP, cvMP, hget, hset, partP, cellsOf, callArgs, callTake, fillP, partsOf, elemParts, elemsOf, chunk, PV.isCell, mmP, eqSP, eqCells, planM_nil, planM_cons, planB, keepL_MS, keepA, MS_getD, MS_get, MS_set, getS, idxA]
  generalize hL : (List.range M).map (fun i => pieceV bs w (i * w)) = L
  have hLl : L.length = M := by rw [← hL]; simp
  refine hK _ _ (pwp_block ?_)
  refine pwp_loopK [0, 3, 4, 5, 8, 9] (fun m st H' => ∃ k, k ≤ M ∧ m = M - k ∧ H' = (b, [.int .i64 f, .int .i64 t, .int .i64 w]) :: H ∧ st = MS 160 [(0, bytesV bs), (3, .ptr (some (b, 0))), (4, .bool false), (5, .lst (if M = 0 then 0 else 2) L false),
    (8, .int .i64 (min k (upTo t w) - upTo f w : Nat)), (9, .int .i64 k)]) (n := M) ⟨_, List.Sublist.refl _, 0, Nat.zero_le _, rfl, rfl, ?_⟩ ?_
  · simp [runM_nil, runM_cons, runB, goes, pev, ptake, putSt, arg, argT, takeAt, lend, lendL, thenP, inBlockP, binP, binBP, intP, unP, lenP, fadP, ldP, iadP, fldP, extP, extTake, sliP, optN, appP, emptyOr, cvSP, cvMP, hget, hset, partP, cellsOf, callArgs, callTake, fillP, partsOf, elemParts, elemsOf, chunk, PV.isCell, mmP, eqSP, eqCells, planM_nil, planM_cons, planB, keepL_MS, keepA, MS_getD, MS_get, MS_set, getS, idxA, bytesV]
  rintro m st _ ⟨k, hk, rfl, rfl, rfl⟩
  refine pwp_seq (pwp_seq (pwp_regionM fun K hK => ?_))
  simp only [bytesV]
  by_cases hkn : k < M
  · have hLg : ∀ h : k < L.length, L[k] = pieceV bs w (k * w) := fun h => by simp [← hL]
    have hM0 : ¬ M = 0 := by omega
    have hmul : (k + 1) * w ≤ M * w := Nat.mul_le_mul_right _ hkn
    have hq1 : k < upTo f w ↔ k * w < f := upTo_lt hw
    have hq2 : k < upTo t w ↔ k * w < t := upTo_lt hw
    rw [Nat.succ_mul] at hmul
    have hkk : k ≤ k * w := Nat.le_mul_of_pos_right _ hw
    have hkw : IntKind.i64.wrap ((k : Int) * w) = ((k * w : Nat) : Int) := by rw [← Int.natCast_mul]; exact w64 (by omega) (by omega)
    generalize k * w = q at *
    have hqw : IntKind.i64.wrap ((q : Int) + w) = ((q + w : Nat) : Int) := by rw [← Int.natCast_add]; exact w64 (by omega) (by omega)
    have hk1 : IntKind.i64.wrap ((k : Int) + 1) = ((k + 1 : Nat) : Int) := w64 (by omega) (by omega)
    have hin : q + w ≤ bs.length := by omega
    have hin2 : ¬ (bs.length < q + w) := by omega
    have hc : List.drop q (List.take (q + w) (bs.map (PV.int .u8))) = (cutOf bs q w).map (PV.int .u8) := by simp [cutOf, List.map_drop, List.map_take]
    have ht0 : ((q : Int) + w).toNat = q + w := by omega
    have h00 : (0 : Int) ≤ (q : Int) + w := by omega
    have hin3 : ¬ ((bs.length : Int) < (q : Int) + w) := by omega
    simp [runM_nil, runM_cons, runB, goes, pev, ptake, putSt, arg, argT, takeAt, lend, lendL, thenP, inBlockP, binP, binBP, intP, unP, lenP, fadP, ldP, iadP, fldP, extP, extTake, sliP, optN, appP, emptyOr, cvSP, cvMP, hget, hset, partP, cellsOf, callArgs, callTake, fillP, partsOf, elemParts, elemsOf, chunk, PV.isCell, mmP, eqSP, eqCells, planM_nil, planM_cons, planB, keepL_MS, keepA, MS_getD, MS_get, MS_set, getS, idxA, hkn, hLl]
    refine hK _ _ (pwp_cond (b := true) (by simp [runM_nil, runM_cons, runB, goes, pev, ptake, putSt, arg, argT, takeAt, lend, lendL, thenP, inBlockP, binP, binBP, intP, unP, lenP, fadP, ldP, iadP, fldP, extP, extTake, sliP, optN, appP, emptyOr, cvSP, cvMP, hget, hset, partP, cellsOf, callArgs, callTake, fillP, partsOf, elemParts, elemsOf, chunk, PV.isCell, mmP, eqSP, eqCells, planM_nil, planM_cons, planB, keepL_MS, keepA, MS_getD, MS_get, MS_set, getS, idxA]) (fun _ => pwp_skip ?_) (fun h => by cases h))
    refine pwp_seq (pwp_block (pwp_seq (pwp_regionM fun K hK => ?_)))
    simp [runM_nil, runM_cons, runB, goes, pev, ptake, putSt, arg, argT, takeAt, lend, lendL, thenP, inBlockP, binP, binBP, intP, unP, lenP, fadP, ldP, iadP, fldP, extP, extTake, sliP, optN, appP, emptyOr, cvSP, cvMP, hget, hset, partP, cellsOf, callArgs, callTake, fillP, partsOf, elemParts, elemsOf, chunk, PV.isCell, mmP, eqSP, eqCells, planM_nil, planM_cons, planB, keepL_MS, keepA, MS_getD, MS_get, MS_set, getS, idxA, hkw]
    refine hK _ _ (pwp_seq (pwp_seq (pwp_drawM hmix fun K hK => ?_)))
    simp [runM_nil, runM_cons, runB, goes, pev, ptake, putSt, arg, argT, takeAt, lend, lendL, thenP, inBlockP, binP, binBP, intP, unP, lenP, fadP, ldP, iadP, fldP, extP, extTake, sliP, optN, appP, emptyOr, cvSP, cvMP, hget, hset, partP, cellsOf, callArgs, callTake, fillP, partsOf, elemParts, elemsOf, chunk, PV.isCell, mmP, eqSP, eqCells, planM_nil, planM_cons, planB, keepL_MS, keepA, MS_getD, MS_get, MS_set, getS, idxA, hM0, hLl, hkn, hLg, pieceV, hqw, hin, hin2, hin3, hc, toInts_map, norm8_map (hwf.cut q w), ht0, h00]
    refine hK _ _ (pwp_cond (b := false) (by simp [runM_nil, runM_cons, runB, goes, pev, ptake, putSt, arg, argT, takeAt, lend, lendL, thenP, inBlockP, binP, binBP, intP, unP, lenP, fadP, ldP, iadP, fldP, extP, extTake, sliP, optN, appP, emptyOr, cvSP, cvMP, hget, hset, partP, cellsOf, callArgs, callTake, fillP, partsOf, elemParts, elemsOf, chunk, PV.isCell, mmP, eqSP, eqCells, planM_nil, planM_cons, planB, keepL_MS, keepA, MS_getD, MS_get, MS_set, getS, idxA]) (fun h => by cases h) (fun _ => pwp_skip ?_))
    refine pwp_seq (pwp_regionM fun K hK => ?_)
    by_cases hf : f ≤ q
    · by_cases htt : q < t
      · have hn1 : IntKind.i64.wrap (((min k (upTo t w) - upTo f w : Nat) : Int) + 1) = ((min (k + 1) (upTo t w) - upTo f w : Nat) : Int) := by
          rw [w64 (by omega) (by omega)]
          omega
        generalize min k (upTo t w) - upTo f w = n0 at *
        simp [runM_nil, runM_cons, runB, goes, pev, ptake, putSt, arg, argT, takeAt, lend, lendL, thenP, inBlockP, binP, binBP, intP, unP, lenP, fadP, ldP, iadP, fldP, extP, extTake, sliP, optN, appP, emptyOr, cvSP, cvMP, hget, hset, partP, cellsOf, callArgs, callTake, fillP, partsOf, elemParts, elemsOf, chunk, PV.isCell, mmP, eqSP, eqCells, planM_nil, planM_cons, planB, keepL_MS, keepA, MS_getD, MS_get, MS_set, getS, idxA, hf, htt]
        refine hK _ _ (pwp_cond (b := true) (by simp [runM_nil, runM_cons, runB, goes, pev, ptake, putSt, arg, argT, takeAt, lend, lendL, thenP, inBlockP, binP, binBP, intP, unP, lenP, fadP, ldP, iadP, fldP, extP, extTake, sliP, optN, appP, emptyOr, cvSP, cvMP, hget, hset, partP, cellsOf, callArgs, callTake, fillP, partsOf, elemParts, elemsOf, chunk, PV.isCell, mmP, eqSP, eqCells, planM_nil, planM_cons, planB, keepL_MS, keepA, MS_getD, MS_get, MS_set, getS, idxA]) (fun _ => pwp_regionM fun K hK => ?_) (fun h => by cases h))
        simp [runM_nil, runM_cons, runB, goes, pev, ptake, putSt, arg, argT, takeAt, lend, lendL, thenP, inBlockP, binP, binBP, intP, unP, lenP, fadP, ldP, iadP, fldP, extP, extTake, sliP, optN, appP, emptyOr, cvSP, cvMP, hget, hset, partP, cellsOf, callArgs, callTake, fillP, partsOf, elemParts, elemsOf, chunk, PV.isCell, mmP, eqSP, eqCells, planM_nil, planM_cons, planB, keepL_MS, keepA, MS_getD, MS_get, MS_set, getS, idxA, hn1]
        refine hK _ _ (pwp_regionM fun K hK => ?_)
        simp [runM_nil, runM_cons, runB, goes, pev, ptake, putSt, arg, argT, takeAt, lend, lendL, thenP, inBlockP, binP, binBP, intP, unP, lenP, fadP, ldP, iadP, fldP, extP, extTake, sliP, optN, appP, emptyOr, cvSP, cvMP, hget, hset, partP, cellsOf, callArgs, callTake, fillP, partsOf, elemParts, elemsOf, chunk, PV.isCell, mmP, eqSP, eqCells, planM_nil, planM_cons, planB, keepL_MS, keepA, MS_getD, MS_get, MS_set, getS, idxA, hk1]
        refine hK _ _ ⟨M - (k + 1), by omega, _, List.Sublist.refl _, k + 1, by omega, rfl, rfl, ?_⟩
        simp [runM_nil, runM_cons, runB, goes, pev, ptake, putSt, arg, argT, takeAt, lend, lendL, thenP, inBlockP, binP, binBP, intP, unP, lenP, fadP, ldP, iadP, fldP, extP, extTake, sliP, optN, appP, emptyOr, cvSP, cvMP, hget, hset, partP, cellsOf, callArgs, callTake, fillP, partsOf, elemParts, elemsOf, chunk, PV.isCell, mmP, eqSP, eqCells, planM_nil, planM_cons, planB, keepL_MS, keepA, MS_getD, MS_get, MS_set, getS, idxA, hM0, bytesV]
      · have hn1 : min k (upTo t w) - upTo f w = min (k + 1) (upTo t w) - upTo f w := by omega
        simp [runM_nil, runM_cons, runB, goes, pev, ptake, putSt, arg, argT, takeAt, lend, lendL, thenP, inBlockP, binP, binBP, intP, unP, lenP, fadP, ldP, iadP, fldP, extP, extTake, sliP, optN, appP, emptyOr, cvSP, cvMP, hget, hset, partP, cellsOf, callArgs, callTake, fillP, partsOf, elemParts, elemsOf, chunk, PV.isCell, mmP, eqSP, eqCells, planM_nil, planM_cons, planB, keepL_MS, keepA, MS_getD, MS_get, MS_set, getS, idxA, hf, htt]
        refine hK _ _ (pwp_cond (b := false) (by simp [runM_nil, runM_cons, runB, goes, pev, ptake, putSt, arg, argT, takeAt, lend, lendL, thenP, inBlockP, binP, binBP, intP, unP, lenP, fadP, ldP, iadP, fldP, extP, extTake, sliP, optN, appP, emptyOr, cvSP, cvMP, hget, hset, partP, cellsOf, callArgs, callTake, fillP, partsOf, elemParts, elemsOf, chunk, PV.isCell, mmP, eqSP, eqCells, planM_nil, planM_cons, planB, keepL_MS, keepA, MS_getD, MS_get, MS_set, getS, idxA]) (fun h => by cases h) (fun _ => pwp_skip ?_))
        refine pwp_regionM fun K hK => ?_
        simp [runM_nil, runM_cons, runB, goes, pev, ptake, putSt, arg, argT, takeAt, lend, lendL, thenP, inBlockP, binP, binBP, intP, unP, lenP, fadP, ldP, iadP, fldP, extP, extTake, sliP, optN, appP, emptyOr, cvSP, cvMP, hget, hset, partP, cellsOf, callArgs, callTake, fillP, partsOf, elemParts, elemsOf, chunk, PV.isCell, mmP, eqSP, eqCells, planM_nil, planM_cons, planB, keepL_MS, keepA, MS_getD, MS_get, MS_set, getS, idxA, hk1]
        refine hK _ _ ⟨M - (k + 1), by omega, _, List.Sublist.refl _, k + 1, by omega, rfl, rfl, ?_⟩
        simp [runM_nil, runM_cons, runB, goes, pev, ptake, putSt, arg, argT, takeAt, lend, lendL, thenP, inBlockP, binP, binBP, intP, unP, lenP, fadP, ldP, iadP, fldP, extP, extTake, sliP, optN, appP, emptyOr, cvSP, cvMP, hget, hset, partP, cellsOf, callArgs, callTake, fillP, partsOf, elemParts, elemsOf, chunk, PV.isCell, mmP, eqSP, eqCells, planM_nil, planM_cons, planB, keepL_MS, keepA, MS_getD, MS_get, MS_set, getS, idxA, hM0, hn1, bytesV]
    · have hn1 : min k (upTo t w) - upTo f w = min (k + 1) (upTo t w) - upTo f w := by omega
      simp [runM_nil, runM_cons, runB, goes, pev, ptake, putSt, arg, argT, takeAt, lend, lendL, thenP, inBlockP, binP, binBP, intP, unP, lenP, fadP, ldP, iadP, fldP, extP, extTake, sliP, optN, appP, emptyOr, cvSP, cvMP, hget, hset, partP, cellsOf, callArgs, callTake, fillP, partsOf, elemParts, elemsOf, chunk, PV.isCell, mmP, eqSP, eqCells, planM_nil, planM_cons, planB, keepL_MS, keepA, MS_getD, MS_get, MS_set, getS, idxA, hf]
      refine hK _ _ (pwp_cond (b := false) (by simp [runM_nil, runM_cons, runB, goes, pev, ptake, putSt, arg, argT, takeAt, lend, lendL, thenP, inBlockP, binP, binBP, intP, unP, lenP, fadP, ldP, iadP, fldP, extP, extTake, sliP, optN, appP, emptyOr, cvSP, cvMP, hget, hset, partP, cellsOf, callArgs, callTake, fillP, partsOf, elemParts, elemsOf, chunk, PV.isCell, mmP, eqSP, eqCells, planM_nil, planM_cons, planB, keepL_MS, keepA, MS_getD, MS_get, MS_set, getS, idxA]) (fun h => by cases h) (fun _ => pwp_skip ?_))
      refine pwp_regionM fun K hK => ?_
      simp [runM_nil, runM_cons, runB, goes, pev, ptake, putSt, arg, argT, takeAt, lend, lendL, thenP, inBlockP, binP, binBP, intP, unP, lenP, fadP, ldP, iadP, fldP, extP, extTake, sliP, optN, appP, emptyOr, cvSP, cvMP, hget, hset, partP, cellsOf, callArgs, callTake, fillP, partsOf, elemParts, elemsOf, chunk, PV.isCell, mmP, eqSP, eqCells, planM_nil, planM_cons, planB, keepL_MS, keepA, MS_getD, MS_get, MS_set, getS, idxA, hk1]
      refine hK _ _ ⟨M - (k + 1), by omega, _, List.Sublist.refl _, k + 1, by omega, rfl, rfl, ?_⟩
      simp [runM_nil, runM_cons, runB, goes, pev, ptake, putSt, arg, argT, takeAt, lend, lendL, thenP, inBlockP, binP, binBP, intP, unP, lenP, fadP, ldP, iadP, fldP, extP, extTake, sliP, optN, appP, emptyOr, cvSP, cvMP, hget, hset, partP, cellsOf, callArgs, callTake, fillP, partsOf, elemParts, elemsOf, chunk, PV.isCell, mmP, eqSP, eqCells, planM_nil, planM_cons, planB, keepL_MS, keepA, MS_getD, MS_get, MS_set, getS, idxA, hM0, hn1, bytesV]
  · have hkn3 : k = M := by omega
    subst hkn3
    have hwd : IntKind.i64.wrap ((bs.length : Int).tdiv w) = (k : Int) := by rw [hdiv]; exact w64 (by omega) (by omega)
    have hwd2 : IntKind.i64.wrap ((bs.length : Int) / (w : Int)) = (k : Int) := by rw [← hwd, Int.tdiv_eq_ediv_of_nonneg (by omega)]
    simp [runM_nil, runM_cons, runB, goes, pev, ptake, putSt, arg, argT, takeAt, lend, lendL, thenP, inBlockP, binP, binBP, intP, unP, lenP, fadP, ldP, iadP, fldP, extP, extTake, sliP, optN, appP, emptyOr, cvSP, cvMP, hget, hset, partP, cellsOf, callArgs, callTake, fillP, partsOf, elemParts, elemsOf, chunk, PV.isCell, mmP, eqSP, eqCells, planM_nil, planM_cons, planB, keepL_MS, keepA, MS_getD, MS_get, MS_set, getS, idxA, hkn, hLl]
    refine hK _ _ (pwp_cond (b := false) (by simp [runM_nil, runM_cons, runB, goes, pev, ptake, putSt, arg, argT, takeAt, lend, lendL, thenP, inBlockP, binP, binBP, intP, unP, lenP, fadP, ldP, iadP, fldP, extP, extTake, sliP, optN, appP, emptyOr, cvSP, cvMP, hget, hset, partP, cellsOf, callArgs, callTake, fillP, partsOf, elemParts, elemsOf, chunk, PV.isCell, mmP, eqSP, eqCells, planM_nil, planM_cons, planB, keepL_MS, keepA, MS_getD, MS_get, MS_set, getS, idxA]) (fun h => by cases h) (fun _ => pwp_exit ?_))
    refine pwp_seq (pwp_regionM fun K hK => ?_)
    simp [runM_nil, runM_cons, runB, goes, pev, ptake, putSt, arg, argT, takeAt, lend, lendL, thenP, inBlockP, binP, binBP, intP, unP, lenP, fadP, ldP, iadP, fldP, extP, extTake, sliP, optN, appP, emptyOr, cvSP, cvMP, hget, hset, partP, cellsOf, callArgs, callTake, fillP, partsOf, elemParts, elemsOf, chunk, PV.isCell, mmP, eqSP, eqCells, planM_nil, planM_cons, planB, keepL_MS, keepA, MS_getD, MS_get, MS_set, getS, idxA]
    refine useP hread ?_
    simp [runM_nil, runM_cons, runB, goes, pev, ptake, putSt, arg, argT, takeAt, lend, lendL, thenP, inBlockP, binP, binBP, intP, unP, lenP, fadP, ldP, iadP, fldP, extP, extTake, sliP, optN, appP, emptyOr, cvSP, cvMP, hget, hset, partP, cellsOf, callArgs, callTake, fillP, partsOf, elemParts, elemsOf, chunk, PV.isCell, mmP, eqSP, eqCells, planM_nil, planM_cons, planB, keepL_MS, keepA, MS_getD, MS_get, MS_set, getS, idxA, accV]
    refine hK _ _ (pwp_seq (pwp_regionM fun K hK => ?_))
    simp [runM_nil, runM_cons, runB, goes, pev, ptake, putSt, arg, argT, takeAt, lend, lendL, thenP, inBlockP, binP, binBP, intP, unP, lenP, fadP, ldP, iadP, fldP, extP, extTake, sliP, optN, appP, emptyOr, cvSP, cvMP, hget, hset, partP, cellsOf, callArgs, callTake, fillP, partsOf, elemParts, elemsOf, chunk, PV.isCell, mmP, eqSP, eqCells, planM_nil, planM_cons, planB, keepL_MS, keepA, MS_getD, MS_get, MS_set, getS, idxA]
    refine useP alive ?_
    simp [runM_nil, runM_cons, runB, goes, pev, ptake, putSt, arg, argT, takeAt, lend, lendL, thenP, inBlockP, binP, binBP, intP, unP, lenP, fadP, ldP, iadP, fldP, extP, extTake, sliP, optN, appP, emptyOr, cvSP, cvMP, hget, hset, partP, cellsOf, callArgs, callTake, fillP, partsOf, elemParts, elemsOf, chunk, PV.isCell, mmP, eqSP, eqCells, planM_nil, planM_cons, planB, keepL_MS, keepA, MS_getD, MS_get, MS_set, getS, idxA, hLl, c2', hwd, hwd2]
    refine hK _ _ (pwp_ret ?_)
    simp [runM_nil, runM_cons, runB, goes, pev, ptake, putSt, arg, argT, takeAt, lend, lendL, thenP, inBlockP, binP, binBP, intP, unP, lenP, fadP, ldP, iadP, fldP, extP, extTake, sliP, optN, appP, emptyOr, cvSP, cvMP, hget, hset, partP, cellsOf, callArgs, callTake, fillP, partsOf, elemParts, elemsOf, chunk, PV.isCell, mmP, eqSP, eqCells, planM_nil, planM_cons, planB, keepL_MS, keepA, MS_getD, MS_get, MS_set, getS, idxA, resL, resV]
set_option maxHeartbeats 2000000 in
theorem places (bs : List Int) (f t w : Int) (hwf : Wf8 bs) : PSpec Try.prog 8 [bytesV bs, .agg [.int .i64 f, .int .i64 t, .int .i64 w]] (.bool true) := by
  by_cases h1 : 3000 < (bs.length : Int)
  · intro H
    refine spec_of t8 (by simp [p8]) ?_
    simp only [p8, bytesV]
    refine pwp_seq (pwp_regionM fun K hK => ?_)
    simp [runM_nil, runM_cons, runB, goes, pev, ptake, putSt, arg, argT, takeAt, lend, lendL, thenP, inBlockP, binP, binBP, intP, unP, lenP, fadP, ldP, iadP, fldP, extP, extTake, sliP, optN, appP, emptyOr, cvSP, cvMP, hget, hset, partP, cellsOf, callArgs, callTake, fillP, partsOf, elemParts, elemsOf, chunk, PV.isCell, mmP, eqSP, eqCells, planM_nil, planM_cons, planB, keepL_MS, keepA, MS_getD, MS_get, MS_set, getS, idxA]
    intro b hb
    refine hK _ _ (pwp_seq (pwp_seq (pwp_regionM fun K hK => ?_)))
    simp [runM_nil, runM_cons, runB, goes, pev, ptake, putSt, arg, argT, takeAt, lend, lendL, thenP, inBlockP, binP, binBP, intP, unP, lenP, fadP, ldP, iadP, fldP, extP, extTake, sliP, optN, appP, emptyOr, cvSP, cvMP, hget, hset, partP, cellsOf, callArgs, callTake, fillP, partsOf, elemParts, elemsOf, chunk, PV.isCell, mmP, eqSP, eqCells, planM_nil, planM_cons, planB, keepL_MS, keepA, MS_getD, MS_get, MS_set, getS, idxA, h1]
    refine hK _ _ (pwp_cond (b := true) (by simp [runM_nil, runM_cons, runB, goes, pev, ptake, putSt, arg, argT, takeAt, lend, lendL, thenP, inBlockP, binP, binBP, intP, unP, lenP, fadP, ldP, iadP, fldP, extP, extTake, sliP, optN, appP, emptyOr, cvSP, cvMP, hget, hset, partP, cellsOf, callArgs, callTake, fillP, partsOf, elemParts, elemsOf, chunk, PV.isCell, mmP, eqSP, eqCells, planM_nil, planM_cons, planB, keepL_MS, keepA, MS_getD, MS_get, MS_set, getS, idxA]) (fun _ => ?_) (fun h => by cases h))
    refine pwp_seq (pwp_regionM fun K hK => ?_)
    simp [runM_nil, runM_cons, runB, goes, pev, ptake, putSt, arg, argT, takeAt, lend, lendL, thenP, inBlockP, binP, binBP, intP, unP, lenP, fadP, ldP, iadP, fldP, extP, extTake, sliP, optN, appP, emptyOr, cvSP, cvMP, hget, hset, partP, cellsOf, callArgs, callTake, fillP, partsOf, elemParts, elemsOf, chunk, PV.isCell, mmP, eqSP, eqCells, planM_nil, planM_cons, planB, keepL_MS, keepA, MS_getD, MS_get, MS_set, getS, idxA]
    refine useP alive ?_
    simp [runM_nil, runM_cons, runB, goes, pev, ptake, putSt, arg, argT, takeAt, lend, lendL, thenP, inBlockP, binP, binBP, intP, unP, lenP, fadP, ldP, iadP, fldP, extP, extTake, sliP, optN, appP, emptyOr, cvSP, cvMP, hget, hset, partP, cellsOf, callArgs, callTake, fillP, partsOf, elemParts, elemsOf, chunk, PV.isCell, mmP, eqSP, eqCells, planM_nil, planM_cons, planB, keepL_MS, keepA, MS_getD, MS_get, MS_set, getS, idxA]
    refine hK _ _ (pwp_ret ?_)
    simp [runM_nil, runM_cons, runB, goes, pev, ptake, putSt, arg, argT, takeAt, lend, lendL, thenP, inBlockP, binP, binBP, intP, unP, lenP, fadP, ldP, iadP, fldP, extP, extTake, sliP, optN, appP, emptyOr, cvSP, cvMP, hget, hset, partP, cellsOf, callArgs, callTake, fillP, partsOf, elemParts, elemsOf, chunk, PV.isCell, mmP, eqSP, eqCells, planM_nil, planM_cons, planB, keepL_MS, keepA, MS_getD, MS_get, MS_set, getS, idxA, resL, resV]
  by_cases h2 : w < 1
  · intro H
    refine spec_of t8 (by simp [p8]) ?_
    simp only [p8, bytesV]
    refine pwp_seq (pwp_regionM fun K hK => ?_)
    simp [runM_nil, runM_cons, runB, goes, pev, ptake, putSt, arg, argT, takeAt, lend, lendL, thenP, inBlockP, binP, binBP, intP, unP, lenP, fadP, ldP, iadP, fldP, extP, extTake, sliP, optN, appP, emptyOr, cvSP, cvMP, hget, hset, partP, cellsOf, callArgs, callTake, fillP, partsOf, elemParts, elemsOf, chunk, PV.isCell, mmP, eqSP, eqCells, planM_nil, planM_cons, planB, keepL_MS, keepA, MS_getD, MS_get, MS_set, getS, idxA]
    intro b hb
    refine hK _ _ (pwp_seq (pwp_seq (pwp_regionM fun K hK => ?_)))
    simp [runM_nil, runM_cons, runB, goes, pev, ptake, putSt, arg, argT, takeAt, lend, lendL, thenP, inBlockP, binP, binBP, intP, unP, lenP, fadP, ldP, iadP, fldP, extP, extTake, sliP, optN, appP, emptyOr, cvSP, cvMP, hget, hset, partP, cellsOf, callArgs, callTake, fillP, partsOf, elemParts, elemsOf, chunk, PV.isCell, mmP, eqSP, eqCells, planM_nil, planM_cons, planB, keepL_MS, keepA, MS_getD, MS_get, MS_set, getS, idxA, h1, h2]
    refine hK _ _ (pwp_cond (b := true) (by simp [runM_nil, runM_cons, runB, goes, pev, ptake, putSt, arg, argT, takeAt, lend, lendL, thenP, inBlockP, binP, binBP, intP, unP, lenP, fadP, ldP, iadP, fldP, extP, extTake, sliP, optN, appP, emptyOr, cvSP, cvMP, hget, hset, partP, cellsOf, callArgs, callTake, fillP, partsOf, elemParts, elemsOf, chunk, PV.isCell, mmP, eqSP, eqCells, planM_nil, planM_cons, planB, keepL_MS, keepA, MS_getD, MS_get, MS_set, getS, idxA]) (fun _ => ?_) (fun h => by cases h))
    refine pwp_seq (pwp_regionM fun K hK => ?_)
    simp [runM_nil, runM_cons, runB, goes, pev, ptake, putSt, arg, argT, takeAt, lend, lendL, thenP, inBlockP, binP, binBP, intP, unP, lenP, fadP, ldP, iadP, fldP, extP, extTake, sliP, optN, appP, emptyOr, cvSP, cvMP, hget, hset, partP, cellsOf, callArgs, callTake, fillP, partsOf, elemParts, elemsOf, chunk, PV.isCell, mmP, eqSP, eqCells, planM_nil, planM_cons, planB, keepL_MS, keepA, MS_getD, MS_get, MS_set, getS, idxA]
    refine useP alive ?_
    simp [runM_nil, runM_cons, runB, goes, pev, ptake, putSt, arg, argT, takeAt, lend, lendL, thenP, inBlockP, binP, binBP, intP, unP, lenP, fadP, ldP, iadP, fldP, extP, extTake, sliP, optN, appP, emptyOr, cvSP, cvMP, hget, hset, partP, cellsOf, callArgs, callTake, fillP, partsOf, elemParts, elemsOf, chunk, PV.isCell, mmP, eqSP, eqCells, planM_nil, planM_cons, planB, keepL_MS, keepA, MS_getD, MS_get, MS_set, getS, idxA]
    refine hK _ _ (pwp_ret ?_)
    simp [runM_nil, runM_cons, runB, goes, pev, ptake, putSt, arg, argT, takeAt, lend, lendL, thenP, inBlockP, binP, binBP, intP, unP, lenP, fadP, ldP, iadP, fldP, extP, extTake, sliP, optN, appP, emptyOr, cvSP, cvMP, hget, hset, partP, cellsOf, callArgs, callTake, fillP, partsOf, elemParts, elemsOf, chunk, PV.isCell, mmP, eqSP, eqCells, planM_nil, planM_cons, planB, keepL_MS, keepA, MS_getD, MS_get, MS_set, getS, idxA, resL, resV]
  by_cases h3 : 1000 < w
  · intro H
    refine spec_of t8 (by simp [p8]) ?_
    simp only [p8, bytesV]
    refine pwp_seq (pwp_regionM fun K hK => ?_)
    simp [runM_nil, runM_cons, runB, goes, pev, ptake, putSt, arg, argT, takeAt, lend, lendL, thenP, inBlockP, binP, binBP, intP, unP, lenP, fadP, ldP, iadP, fldP, extP, extTake, sliP, optN, appP, emptyOr, cvSP, cvMP, hget, hset, partP, cellsOf, callArgs, callTake, fillP, partsOf, elemParts, elemsOf, chunk, PV.isCell, mmP, eqSP, eqCells, planM_nil, planM_cons, planB, keepL_MS, keepA, MS_getD, MS_get, MS_set, getS, idxA]
    intro b hb
    refine hK _ _ (pwp_seq (pwp_seq (pwp_regionM fun K hK => ?_)))
    simp [runM_nil, runM_cons, runB, goes, pev, ptake, putSt, arg, argT, takeAt, lend, lendL, thenP, inBlockP, binP, binBP, intP, unP, lenP, fadP, ldP, iadP, fldP, extP, extTake, sliP, optN, appP, emptyOr, cvSP, cvMP, hget, hset, partP, cellsOf, callArgs, callTake, fillP, partsOf, elemParts, elemsOf, chunk, PV.isCell, mmP, eqSP, eqCells, planM_nil, planM_cons, planB, keepL_MS, keepA, MS_getD, MS_get, MS_set, getS, idxA, h1, h2, h3]
    refine hK _ _ (pwp_cond (b := true) (by simp [runM_nil, runM_cons, runB, goes, pev, ptake, putSt, arg, argT, takeAt, lend, lendL, thenP, inBlockP, binP, binBP, intP, unP, lenP, fadP, ldP, iadP, fldP, extP, extTake, sliP, optN, appP, emptyOr, cvSP, cvMP, hget, hset, partP, cellsOf, callArgs, callTake, fillP, partsOf, elemParts, elemsOf, chunk, PV.isCell, mmP, eqSP, eqCells, planM_nil, planM_cons, planB, keepL_MS, keepA, MS_getD, MS_get, MS_set, getS, idxA]) (fun _ => ?_) (fun h => by cases h))
    refine pwp_seq (pwp_regionM fun K hK => ?_)
    simp [runM_nil, runM_cons, runB, goes, pev, ptake, putSt, arg, argT, takeAt, lend, lendL, thenP, inBlockP, binP, binBP, intP, unP, lenP, fadP, ldP, iadP, fldP, extP, extTake, sliP, optN, appP, emptyOr, cvSP, cvMP, hget, hset, partP, cellsOf, callArgs, callTake, fillP, partsOf, elemParts, elemsOf, chunk, PV.isCell, mmP, eqSP, eqCells, planM_nil, planM_cons, planB, keepL_MS, keepA, MS_getD, MS_get, MS_set, getS, idxA]
    refine useP alive ?_
    simp [runM_nil, runM_cons, runB, goes, pev, ptake, putSt, arg, argT, takeAt, lend, lendL, thenP, inBlockP, binP, binBP, intP, unP, lenP, fadP, ldP, iadP, fldP, extP, extTake, sliP, optN, appP, emptyOr, cvSP, cvMP, hget, hset, partP, cellsOf, callArgs, callTake, fillP, partsOf, elemParts, elemsOf, chunk, PV.isCell, mmP, eqSP, eqCells, planM_nil, planM_cons, planB, keepL_MS, keepA, MS_getD, MS_get, MS_set, getS, idxA]
    refine hK _ _ (pwp_ret ?_)
    simp [runM_nil, runM_cons, runB, goes, pev, ptake, putSt, arg, argT, takeAt, lend, lendL, thenP, inBlockP, binP, binBP, intP, unP, lenP, fadP, ldP, iadP, fldP, extP, extTake, sliP, optN, appP, emptyOr, cvSP, cvMP, hget, hset, partP, cellsOf, callArgs, callTake, fillP, partsOf, elemParts, elemsOf, chunk, PV.isCell, mmP, eqSP, eqCells, planM_nil, planM_cons, planB, keepL_MS, keepA, MS_getD, MS_get, MS_set, getS, idxA, resL, resV]
  by_cases h4 : f < 0
  · intro H
    refine spec_of t8 (by simp [p8]) ?_
    simp only [p8, bytesV]
    refine pwp_seq (pwp_regionM fun K hK => ?_)
    simp [runM_nil, runM_cons, runB, goes, pev, ptake, putSt, arg, argT, takeAt, lend, lendL, thenP, inBlockP, binP, binBP, intP, unP, lenP, fadP, ldP, iadP, fldP, extP, extTake, sliP, optN, appP, emptyOr, cvSP, cvMP, hget, hset, partP, cellsOf, callArgs, callTake, fillP, partsOf, elemParts, elemsOf, chunk, PV.isCell, mmP, eqSP, eqCells, planM_nil, planM_cons, planB, keepL_MS, keepA, MS_getD, MS_get, MS_set, getS, idxA]
    intro b hb
    refine hK _ _ (pwp_seq (pwp_seq (pwp_regionM fun K hK => ?_)))
    simp [runM_nil, runM_cons, runB, goes, pev, ptake, putSt, arg, argT, takeAt, lend, lendL, thenP, inBlockP, binP, binBP, intP, unP, lenP, fadP, ldP, iadP, fldP, extP, extTake, sliP, optN, appP, emptyOr, cvSP, cvMP, hget, hset, partP, cellsOf, callArgs, callTake, fillP, partsOf, elemParts, elemsOf, chunk, PV.isCell, mmP, eqSP, eqCells, planM_nil, planM_cons, planB, keepL_MS, keepA, MS_getD, MS_get, MS_set, getS, idxA, h1, h2, h3, h4]
    refine hK _ _ (pwp_cond (b := true) (by simp [runM_nil, runM_cons, runB, goes, pev, ptake, putSt, arg, argT, takeAt, lend, lendL, thenP, inBlockP, binP, binBP, intP, unP, lenP, fadP, ldP, iadP, fldP, extP, extTake, sliP, optN, appP, emptyOr, cvSP, cvMP, hget, hset, partP, cellsOf, callArgs, callTake, fillP, partsOf, elemParts, elemsOf, chunk, PV.isCell, mmP, eqSP, eqCells, planM_nil, planM_cons, planB, keepL_MS, keepA, MS_getD, MS_get, MS_set, getS, idxA]) (fun _ => ?_) (fun h => by cases h))
    refine pwp_seq (pwp_regionM fun K hK => ?_)
    simp [runM_nil, runM_cons, runB, goes, pev, ptake, putSt, arg, argT, takeAt, lend, lendL, thenP, inBlockP, binP, binBP, intP, unP, lenP, fadP, ldP, iadP, fldP, extP, extTake, sliP, optN, appP, emptyOr, cvSP, cvMP, hget, hset, partP, cellsOf, callArgs, callTake, fillP, partsOf, elemParts, elemsOf, chunk, PV.isCell, mmP, eqSP, eqCells, planM_nil, planM_cons, planB, keepL_MS, keepA, MS_getD, MS_get, MS_set, getS, idxA]
    refine useP alive ?_
    simp [runM_nil, runM_cons, runB, goes, pev, ptake, putSt, arg, argT, takeAt, lend, lendL, thenP, inBlockP, binP, binBP, intP, unP, lenP, fadP, ldP, iadP, fldP, extP, extTake, sliP, optN, appP, emptyOr, cvSP, cvMP, hget, hset, partP, cellsOf, callArgs, callTake, fillP, partsOf, elemParts, elemsOf, chunk, PV.isCell, mmP, eqSP, eqCells, planM_nil, planM_cons, planB, keepL_MS, keepA, MS_getD, MS_get, MS_set, getS, idxA]
    refine hK _ _ (pwp_ret ?_)
    simp [runM_nil, runM_cons, runB, goes, pev, ptake, putSt, arg, argT, takeAt, lend, lendL, thenP, inBlockP, binP, binBP, intP, unP, lenP, fadP, ldP, iadP, fldP, extP, extTake, sliP, optN, appP, emptyOr, cvSP, cvMP, hget, hset, partP, cellsOf, callArgs, callTake, fillP, partsOf, elemParts, elemsOf, chunk, PV.isCell, mmP, eqSP, eqCells, planM_nil, planM_cons, planB, keepL_MS, keepA, MS_getD, MS_get, MS_set, getS, idxA, resL, resV]
  by_cases h5 : t < f
  · intro H
    refine spec_of t8 (by simp [p8]) ?_
    simp only [p8, bytesV]
    refine pwp_seq (pwp_regionM fun K hK => ?_)
    simp [runM_nil, runM_cons, runB, goes, pev, ptake, putSt, arg, argT, takeAt, lend, lendL, thenP, inBlockP, binP, binBP, intP, unP, lenP, fadP, ldP, iadP, fldP, extP, extTake, sliP, optN, appP, emptyOr, cvSP, cvMP, hget, hset, partP, cellsOf, callArgs, callTake, fillP, partsOf, elemParts, elemsOf, chunk, PV.isCell, mmP, eqSP, eqCells, planM_nil, planM_cons, planB, keepL_MS, keepA, MS_getD, MS_get, MS_set, getS, idxA]
    intro b hb
    refine hK _ _ (pwp_seq (pwp_seq (pwp_regionM fun K hK => ?_)))
    simp [runM_nil, runM_cons, runB, goes, pev, ptake, putSt, arg, argT, takeAt, lend, lendL, thenP, inBlockP, binP, binBP, intP, unP, lenP, fadP, ldP, iadP, fldP, extP, extTake, sliP, optN, appP, emptyOr, cvSP, cvMP, hget, hset, partP, cellsOf, callArgs, callTake, fillP, partsOf, elemParts, elemsOf, chunk, PV.isCell, mmP, eqSP, eqCells, planM_nil, planM_cons, planB, keepL_MS, keepA, MS_getD, MS_get, MS_set, getS, idxA, h1, h2, h3, h4, h5]
    refine hK _ _ (pwp_cond (b := true) (by simp [runM_nil, runM_cons, runB, goes, pev, ptake, putSt, arg, argT, takeAt, lend, lendL, thenP, inBlockP, binP, binBP, intP, unP, lenP, fadP, ldP, iadP, fldP, extP, extTake, sliP, optN, appP, emptyOr, cvSP, cvMP, hget, hset, partP, cellsOf, callArgs, callTake, fillP, partsOf, elemParts, elemsOf, chunk, PV.isCell, mmP, eqSP, eqCells, planM_nil, planM_cons, planB, keepL_MS, keepA, MS_getD, MS_get, MS_set, getS, idxA]) (fun _ => ?_) (fun h => by cases h))
    refine pwp_seq (pwp_regionM fun K hK => ?_)
    simp [runM_nil, runM_cons, runB, goes, pev, ptake, putSt, arg, argT, takeAt, lend, lendL, thenP, inBlockP, binP, binBP, intP, unP, lenP, fadP, ldP, iadP, fldP, extP, extTake, sliP, optN, appP, emptyOr, cvSP, cvMP, hget, hset, partP, cellsOf, callArgs, callTake, fillP, partsOf, elemParts, elemsOf, chunk, PV.isCell, mmP, eqSP, eqCells, planM_nil, planM_cons, planB, keepL_MS, keepA, MS_getD, MS_get, MS_set, getS, idxA]
    refine useP alive ?_
    simp [runM_nil, runM_cons, runB, goes, pev, ptake, putSt, arg, argT, takeAt, lend, lendL, thenP, inBlockP, binP, binBP, intP, unP, lenP, fadP, ldP, iadP, fldP, extP, extTake, sliP, optN, appP, emptyOr, cvSP, cvMP, hget, hset, partP, cellsOf, callArgs, callTake, fillP, partsOf, elemParts, elemsOf, chunk, PV.isCell, mmP, eqSP, eqCells, planM_nil, planM_cons, planB, keepL_MS, keepA, MS_getD, MS_get, MS_set, getS, idxA]
    refine hK _ _ (pwp_ret ?_)
    simp [runM_nil, runM_cons, runB, goes, pev, ptake, putSt, arg, argT, takeAt, lend, lendL, thenP, inBlockP, binP, binBP, intP, unP, lenP, fadP, ldP, iadP, fldP, extP, extTake, sliP, optN, appP, emptyOr, cvSP, cvMP, hget, hset, partP, cellsOf, callArgs, callTake, fillP, partsOf, elemParts, elemsOf, chunk, PV.isCell, mmP, eqSP, eqCells, planM_nil, planM_cons, planB, keepL_MS, keepA, MS_getD, MS_get, MS_set, getS, idxA, resL, resV]
  by_cases h6 : (bs.length : Int) < t
  · intro H
    refine spec_of t8 (by simp [p8]) ?_
    simp only [p8, bytesV]
    refine pwp_seq (pwp_regionM fun K hK => ?_)
    simp [runM_nil, runM_cons, runB, goes, pev, ptake, putSt, arg, argT, takeAt, lend, lendL, thenP, inBlockP, binP, binBP, intP, unP, lenP, fadP, ldP, iadP, fldP, extP, extTake, sliP, optN, appP, emptyOr, cvSP, cvMP, hget, hset, partP, cellsOf, callArgs, callTake, fillP, partsOf, elemParts, elemsOf, chunk, PV.isCell, mmP, eqSP, eqCells, planM_nil, planM_cons, planB, keepL_MS, keepA, MS_getD, MS_get, MS_set, getS, idxA]
    intro b hb
    refine hK _ _ (pwp_seq (pwp_seq (pwp_regionM fun K hK => ?_)))
    simp [runM_nil, runM_cons, runB, goes, pev, ptake, putSt, arg, argT, takeAt, lend, lendL, thenP, inBlockP, binP, binBP, intP, unP, lenP, fadP, ldP, iadP, fldP, extP, extTake, sliP, optN, appP, emptyOr, cvSP, cvMP, hget, hset, partP, cellsOf, callArgs, callTake, fillP, partsOf, elemParts, elemsOf, chunk, PV.isCell, mmP, eqSP, eqCells, planM_nil, planM_cons, planB, keepL_MS, keepA, MS_getD, MS_get, MS_set, getS, idxA, h1, h2, h3, h4, h5, h6]
    refine hK _ _ (pwp_cond (b := true) (by simp [runM_nil, runM_cons, runB, goes, pev, ptake, putSt, arg, argT, takeAt, lend, lendL, thenP, inBlockP, binP, binBP, intP, unP, lenP, fadP, ldP, iadP, fldP, extP, extTake, sliP, optN, appP, emptyOr, cvSP, cvMP, hget, hset, partP, cellsOf, callArgs, callTake, fillP, partsOf, elemParts, elemsOf, chunk, PV.isCell, mmP, eqSP, eqCells, planM_nil, planM_cons, planB, keepL_MS, keepA, MS_getD, MS_get, MS_set, getS, idxA]) (fun _ => ?_) (fun h => by cases h))
    refine pwp_seq (pwp_regionM fun K hK => ?_)
    simp [runM_nil, runM_cons, runB, goes, pev, ptake, putSt, arg, argT, takeAt, lend, lendL, thenP, inBlockP, binP, binBP, intP, unP, lenP, fadP, ldP, iadP, fldP, extP, extTake, sliP, optN, appP, emptyOr, cvSP, cvMP, hget, hset, partP, cellsOf, callArgs, callTake, fillP, partsOf, elemParts, elemsOf, chunk, PV.isCell, mmP, eqSP, eqCells, planM_nil, planM_cons, planB, keepL_MS, keepA, MS_getD, MS_get, MS_set, getS, idxA]
    refine useP alive ?_
    simp [runM_nil, runM_cons, runB, goes, pev, ptake, putSt, arg, argT, takeAt, lend, lendL, thenP, inBlockP, binP, binBP, intP, unP, lenP, fadP, ldP, iadP, fldP, extP, extTake, sliP, optN, appP, emptyOr, cvSP, cvMP, hget, hset, partP, cellsOf, callArgs, callTake, fillP, partsOf, elemParts, elemsOf, chunk, PV.isCell, mmP, eqSP, eqCells, planM_nil, planM_cons, planB, keepL_MS, keepA, MS_getD, MS_get, MS_set, getS, idxA]
    refine hK _ _ (pwp_ret ?_)
    simp [runM_nil, runM_cons, runB, goes, pev, ptake, putSt, arg, argT, takeAt, lend, lendL, thenP, inBlockP, binP, binBP, intP, unP, lenP, fadP, ldP, iadP, fldP, extP, extTake, sliP, optN, appP, emptyOr, cvSP, cvMP, hget, hset, partP, cellsOf, callArgs, callTake, fillP, partsOf, elemParts, elemsOf, chunk, PV.isCell, mmP, eqSP, eqCells, planM_nil, planM_cons, planB, keepL_MS, keepA, MS_getD, MS_get, MS_set, getS, idxA, resL, resV]
  obtain ⟨f', rfl⟩ := Int.eq_ofNat_of_zero_le (show 0 ≤ f by omega)
  obtain ⟨t', rfl⟩ := Int.eq_ofNat_of_zero_le (show 0 ≤ t by omega)
  obtain ⟨w', rfl⟩ := Int.eq_ofNat_of_zero_le (show 0 ≤ w by omega)
  exact places_main bs f' t' w' hwf (by omega) (by omega) (by omega) (by omega) (by omega)
end Go.Proofs.Ytjbnomkajfmlpaa.E
