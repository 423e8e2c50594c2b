/- Which task is to be started, and what is asked of a table, on plain values. -/
import Derived.Test.YtkjibelcaeanjaaEW27
namespace Go.Proofs.Ytkjibelcaeanjaa.E
open Go Go.RowKit Go.Proofs
set_option linter.unusedVariables false
set_option linter.unusedSimpArgs false
/-- A captured number. -/
def capI (n : Int) : PV := .ip 1 [.int .i64 n] 0 0
def capT (t : Tb) : PV := .ip 3 [tbV t] 0 0
def notDone (k : Tk) : Bool := decide (k.dn = -1)
theorem notDone_ok (k : Tk) : PSpec Try.prog 52 [tkV k] (.bool (notDone k)) := by
  intro H
  refine spec_of t52 (by simp [p52]) ?_
  simp only [p52]
  refine pwp_sr fun K hK => ?_
  simp [runM_nil, runM_n, runM_t, runM_f, runM_s, runK, pev, ptake, putSt, arg, argT, takeAt, lend, lendL, thenP, inBlockP, binP, binBP, intP, unP, lenP, fadP, ldP, iadP, fldP, extP, extTake, sliP, optN, appP, emptyOr, cvSP, cvMP, cvIP, hget, hset, partP, cellsOf, callArgs, callTake, fillP, partsOf, elemParts, elemsOf, chunk, PV.isCell, mmP, eqSP, eqCells, planM_nil, planM_n, planM_t, planM_f, planM_s, planK, keepL_MS, keepA, MS_getD, MS_get, MS_set, getS, idxA, bxP, nckP, idxP, slsP, mkP, tkV]
  refine hK _ _ (pwp_sr fun K hK => ?_)
  simp [runM_nil, runM_n, runM_t, runM_f, runM_s, runK, pev, ptake, putSt, arg, argT, takeAt, lend, lendL, thenP, inBlockP, binP, binBP, intP, unP, lenP, fadP, ldP, iadP, fldP, extP, extTake, sliP, optN, appP, emptyOr, cvSP, cvMP, cvIP, hget, hset, partP, cellsOf, callArgs, callTake, fillP, partsOf, elemParts, elemsOf, chunk, PV.isCell, mmP, eqSP, eqCells, planM_nil, planM_n, planM_t, planM_f, planM_s, planK, keepL_MS, keepA, MS_getD, MS_get, MS_set, getS, idxA, bxP, nckP, idxP, slsP, mkP]
  refine hK _ _ (pwp_ret ?_)
  simp [runM_nil, runM_n, runM_t, runM_f, runM_s, runK, pev, ptake, putSt, arg, argT, takeAt, lend, lendL, thenP, inBlockP, binP, binBP, intP, unP, lenP, fadP, ldP, iadP, fldP, extP, extTake, sliP, optN, appP, emptyOr, cvSP, cvMP, cvIP, hget, hset, partP, cellsOf, callArgs, callTake, fillP, partsOf, elemParts, elemsOf, chunk, PV.isCell, mmP, eqSP, eqCells, planM_nil, planM_n, planM_t, planM_f, planM_s, planK, keepL_MS, keepA, MS_getD, MS_get, MS_set, getS, idxA, bxP, nckP, idxP, slsP, mkP, resL, resV, notDone]
def allT (t : Tb) : Bool := t.l.all fun k => !notDone k
theorem All_ok (t : Tb) (hs : Small t) : PSpec Try.prog 21 [tbV t] (.bool (allT t)) := by
  intro H
  have hh := hasTk t.l 52 [] notDone (by have := hs.l; omega) (fun k hk => notDone_ok k) rfl
  have hall : (!t.l.any notDone) = allT t := by rw [allT, List.not_any_eq_all_not]
  refine spec_of t21 (by simp [p21]) ?_
  simp only [p21]
  refine pwp_sr fun K hK => ?_
  simp [runM_nil, runM_n, runM_t, runM_f, runM_s, runK, pev, ptake, putSt, arg, argT, takeAt, lend, lendL, thenP, inBlockP, binP, binBP, intP, unP, lenP, fadP, ldP, iadP, fldP, extP, extTake, sliP, optN, appP, emptyOr, cvSP, cvMP, cvIP, hget, hset, partP, cellsOf, callArgs, callTake, fillP, partsOf, elemParts, elemsOf, chunk, PV.isCell, mmP, eqSP, eqCells, planM_nil, planM_n, planM_t, planM_f, planM_s, planK, keepL_MS, keepA, MS_getD, MS_get, MS_set, getS, idxA, bxP, nckP, idxP, slsP, mkP, tbV]
  refine hK _ _ (pwp_sr fun K hK => ?_)
  simp [runM_nil, runM_n, runM_t, runM_f, runM_s, runK, pev, ptake, putSt, arg, argT, takeAt, lend, lendL, thenP, inBlockP, binP, binBP, intP, unP, lenP, fadP, ldP, iadP, fldP, extP, extTake, sliP, optN, appP, emptyOr, cvSP, cvMP, cvIP, hget, hset, partP, cellsOf, callArgs, callTake, fillP, partsOf, elemParts, elemsOf, chunk, PV.isCell, mmP, eqSP, eqCells, planM_nil, planM_n, planM_t, planM_f, planM_s, planK, keepL_MS, keepA, MS_getD, MS_get, MS_set, getS, idxA, bxP, nckP, idxP, slsP, mkP]
  refine useP hh ?_
  simp [runM_nil, runM_n, runM_t, runM_f, runM_s, runK, pev, ptake, putSt, arg, argT, takeAt, lend, lendL, thenP, inBlockP, binP, binBP, intP, unP, lenP, fadP, ldP, iadP, fldP, extP, extTake, sliP, optN, appP, emptyOr, cvSP, cvMP, cvIP, hget, hset, partP, cellsOf, callArgs, callTake, fillP, partsOf, elemParts, elemsOf, chunk, PV.isCell, mmP, eqSP, eqCells, planM_nil, planM_n, planM_t, planM_f, planM_s, planK, keepL_MS, keepA, MS_getD, MS_get, MS_set, getS, idxA, bxP, nckP, idxP, slsP, mkP]
  refine hK _ _ (pwp_ret ?_)
  simp [runM_nil, runM_n, runM_t, runM_f, runM_s, runK, pev, ptake, putSt, arg, argT, takeAt, lend, lendL, thenP, inBlockP, binP, binBP, intP, unP, lenP, fadP, ldP, iadP, fldP, extP, extTake, sliP, optN, appP, emptyOr, cvSP, cvMP, cvIP, hget, hset, partP, cellsOf, callArgs, callTake, fillP, partsOf, elemParts, elemsOf, chunk, PV.isCell, mmP, eqSP, eqCells, planM_nil, planM_n, planM_t, planM_f, planM_s, planK, keepL_MS, keepA, MS_getD, MS_get, MS_set, getS, idxA, bxP, nckP, idxP, slsP, mkP, resL, resV, hall]
def failedAt (t : Tb) (k : Tk) : Bool := decide (t.cap ≤ k.fl)
theorem failedAt_ok (t : Tb) (k : Tk) : PSpec Try.prog 51 [tkV k, capT t] (.bool (failedAt t k)) := by
  intro H
  refine spec_of t51 (by simp [p51]) ?_
  simp only [p51]
  refine pwp_sr fun K hK => ?_
  simp [runM_nil, runM_n, runM_t, runM_f, runM_s, runK, pev, ptake, putSt, arg, argT, takeAt, lend, lendL, thenP, inBlockP, binP, binBP, intP, unP, lenP, fadP, ldP, iadP, fldP, extP, extTake, sliP, optN, appP, emptyOr, cvSP, cvMP, cvIP, hget, hset, partP, cellsOf, callArgs, callTake, fillP, partsOf, elemParts, elemsOf, chunk, PV.isCell, mmP, eqSP, eqCells, planM_nil, planM_n, planM_t, planM_f, planM_s, planK, keepL_MS, keepA, MS_getD, MS_get, MS_set, getS, idxA, bxP, nckP, idxP, slsP, mkP, tkV, capT, tbV]
  refine hK _ _ (pwp_sr fun K hK => ?_)
  simp [runM_nil, runM_n, runM_t, runM_f, runM_s, runK, pev, ptake, putSt, arg, argT, takeAt, lend, lendL, thenP, inBlockP, binP, binBP, intP, unP, lenP, fadP, ldP, iadP, fldP, extP, extTake, sliP, optN, appP, emptyOr, cvSP, cvMP, cvIP, hget, hset, partP, cellsOf, callArgs, callTake, fillP, partsOf, elemParts, elemsOf, chunk, PV.isCell, mmP, eqSP, eqCells, planM_nil, planM_n, planM_t, planM_f, planM_s, planK, keepL_MS, keepA, MS_getD, MS_get, MS_set, getS, idxA, bxP, nckP, idxP, slsP, mkP]
  refine hK _ _ (pwp_ret ?_)
  simp [runM_nil, runM_n, runM_t, runM_f, runM_s, runK, pev, ptake, putSt, arg, argT, takeAt, lend, lendL, thenP, inBlockP, binP, binBP, intP, unP, lenP, fadP, ldP, iadP, fldP, extP, extTake, sliP, optN, appP, emptyOr, cvSP, cvMP, cvIP, hget, hset, partP, cellsOf, callArgs, callTake, fillP, partsOf, elemParts, elemsOf, chunk, PV.isCell, mmP, eqSP, eqCells, planM_nil, planM_n, planM_t, planM_f, planM_s, planK, keepL_MS, keepA, MS_getD, MS_get, MS_set, getS, idxA, bxP, nckP, idxP, slsP, mkP, resL, resV, failedAt]
theorem Failed_ok (t : Tb) (hs : Small t) : PSpec Try.prog 19 [tbV t] (.tup [.int .i64 (if idxOf (failedAt t) t.l < 0 then 0 else idxOf (failedAt t) t.l), .bool (decide (0 ≤ idxOf (failedAt t) t.l))]) := by
  intro H
  have hh := indexTk t.l 51 [capT t] (failedAt t) (by have := hs.l; omega) (fun k hk => by simpa [lendL, lend, capT] using failedAt_ok t k)
  refine spec_of t19 (by simp [p19]) ?_
  simp only [p19]
  refine pwp_sr fun K hK => ?_
  simp [runM_nil, runM_n, runM_t, runM_f, runM_s, runK, pev, ptake, putSt, arg, argT, takeAt, lend, lendL, thenP, inBlockP, binP, binBP, intP, unP, lenP, fadP, ldP, iadP, fldP, extP, extTake, sliP, optN, appP, emptyOr, cvSP, cvMP, cvIP, hget, hset, partP, cellsOf, callArgs, callTake, fillP, partsOf, elemParts, elemsOf, chunk, PV.isCell, mmP, eqSP, eqCells, planM_nil, planM_n, planM_t, planM_f, planM_s, planK, keepL_MS, keepA, MS_getD, MS_get, MS_set, getS, idxA, bxP, nckP, idxP, slsP, mkP, tbV]
  refine hK _ _ (pwp_sr fun K hK => ?_)
  simp [runM_nil, runM_n, runM_t, runM_f, runM_s, runK, pev, ptake, putSt, arg, argT, takeAt, lend, lendL, thenP, inBlockP, binP, binBP, intP, unP, lenP, fadP, ldP, iadP, fldP, extP, extTake, sliP, optN, appP, emptyOr, cvSP, cvMP, cvIP, hget, hset, partP, cellsOf, callArgs, callTake, fillP, partsOf, elemParts, elemsOf, chunk, PV.isCell, mmP, eqSP, eqCells, planM_nil, planM_n, planM_t, planM_f, planM_s, planK, keepL_MS, keepA, MS_getD, MS_get, MS_set, getS, idxA, bxP, nckP, idxP, slsP, mkP]
  simp only [capT, tbV] at hh
  refine useP hh ?_
  simp [runM_nil, runM_n, runM_t, runM_f, runM_s, runK, pev, ptake, putSt, arg, argT, takeAt, lend, lendL, thenP, inBlockP, binP, binBP, intP, unP, lenP, fadP, ldP, iadP, fldP, extP, extTake, sliP, optN, appP, emptyOr, cvSP, cvMP, cvIP, hget, hset, partP, cellsOf, callArgs, callTake, fillP, partsOf, elemParts, elemsOf, chunk, PV.isCell, mmP, eqSP, eqCells, planM_nil, planM_n, planM_t, planM_f, planM_s, planK, keepL_MS, keepA, MS_getD, MS_get, MS_set, getS, idxA, bxP, nckP, idxP, slsP, mkP]
  refine hK _ _ (pwp_sr fun K hK => ?_)
  by_cases h : idxOf (failedAt t) t.l < 0
  all_goals
    simp [runM_nil, runM_n, runM_t, runM_f, runM_s, runK, pev, ptake, putSt, arg, argT, takeAt, lend, lendL, thenP, inBlockP, binP, binBP, intP, unP, lenP, fadP, ldP, iadP, fldP, extP, extTake, sliP, optN, appP, emptyOr, cvSP, cvMP, cvIP, hget, hset, partP, cellsOf, callArgs, callTake, fillP, partsOf, elemParts, elemsOf, chunk, PV.isCell, mmP, eqSP, eqCells, planM_nil, planM_n, planM_t, planM_f, planM_s, planK, keepL_MS, keepA, MS_getD, MS_get, MS_set, getS, idxA, bxP, nckP, idxP, slsP, mkP, h]
    refine hK _ _ (pwp_ret ?_)
    simp [runM_nil, runM_n, runM_t, runM_f, runM_s, runK, pev, ptake, putSt, arg, argT, takeAt, lend, lendL, thenP, inBlockP, binP, binBP, intP, unP, lenP, fadP, ldP, iadP, fldP, extP, extTake, sliP, optN, appP, emptyOr, cvSP, cvMP, cvIP, hget, hset, partP, cellsOf, callArgs, callTake, fillP, partsOf, elemParts, elemsOf, chunk, PV.isCell, mmP, eqSP, eqCells, planM_nil, planM_n, planM_t, planM_f, planM_s, planK, keepL_MS, keepA, MS_getD, MS_get, MS_set, getS, idxA, bxP, nckP, idxP, slsP, mkP, resL, resV]
    omega
def idle (k : Tk) : Bool := decide (k.dn = -1) && (decide ((k.tr.length : Int) < 500) && decide (opn k = []))
theorem idle_ok (k : Tk) (hl : k.tr.length ≤ 4000000000000) : PSpec Try.prog 29 [tkV k] (.bool (idle k)) := by
  intro H
  have ho := open_ok k hl
  simp only [tkV] at ho
  refine spec_of t29 (by simp [p29]) ?_
  simp only [p29]
  refine pwp_sr fun K hK => ?_
  simp [runM_nil, runM_n, runM_t, runM_f, runM_s, runK, pev, ptake, putSt, arg, argT, takeAt, lend, lendL, thenP, inBlockP, binP, binBP, intP, unP, lenP, fadP, ldP, iadP, fldP, extP, extTake, sliP, optN, appP, emptyOr, cvSP, cvMP, cvIP, hget, hset, partP, cellsOf, callArgs, callTake, fillP, partsOf, elemParts, elemsOf, chunk, PV.isCell, mmP, eqSP, eqCells, planM_nil, planM_n, planM_t, planM_f, planM_s, planK, keepL_MS, keepA, MS_getD, MS_get, MS_set, getS, idxA, bxP, nckP, idxP, slsP, mkP, tkV]
  refine hK _ _ (pwp_sr fun K hK => ?_)
  by_cases h1 : k.dn = -1
  rotate_left
  · simp [runM_nil, runM_n, runM_t, runM_f, runM_s, runK, pev, ptake, putSt, arg, argT, takeAt, lend, lendL, thenP, inBlockP, binP, binBP, intP, unP, lenP, fadP, ldP, iadP, fldP, extP, extTake, sliP, optN, appP, emptyOr, cvSP, cvMP, cvIP, hget, hset, partP, cellsOf, callArgs, callTake, fillP, partsOf, elemParts, elemsOf, chunk, PV.isCell, mmP, eqSP, eqCells, planM_nil, planM_n, planM_t, planM_f, planM_s, planK, keepL_MS, keepA, MS_getD, MS_get, MS_set, getS, idxA, bxP, nckP, idxP, slsP, mkP, h1]
    refine hK _ _ (pwp_ret ?_)
    simp [runM_nil, runM_n, runM_t, runM_f, runM_s, runK, pev, ptake, putSt, arg, argT, takeAt, lend, lendL, thenP, inBlockP, binP, binBP, intP, unP, lenP, fadP, ldP, iadP, fldP, extP, extTake, sliP, optN, appP, emptyOr, cvSP, cvMP, cvIP, hget, hset, partP, cellsOf, callArgs, callTake, fillP, partsOf, elemParts, elemsOf, chunk, PV.isCell, mmP, eqSP, eqCells, planM_nil, planM_n, planM_t, planM_f, planM_s, planK, keepL_MS, keepA, MS_getD, MS_get, MS_set, getS, idxA, bxP, nckP, idxP, slsP, mkP, resL, resV, idle, h1]
  by_cases h2 : (k.tr.length : Int) < 500
  rotate_left
  · simp [runM_nil, runM_n, runM_t, runM_f, runM_s, runK, pev, ptake, putSt, arg, argT, takeAt, lend, lendL, thenP, inBlockP, binP, binBP, intP, unP, lenP, fadP, ldP, iadP, fldP, extP, extTake, sliP, optN, appP, emptyOr, cvSP, cvMP, cvIP, hget, hset, partP, cellsOf, callArgs, callTake, fillP, partsOf, elemParts, elemsOf, chunk, PV.isCell, mmP, eqSP, eqCells, planM_nil, planM_n, planM_t, planM_f, planM_s, planK, keepL_MS, keepA, MS_getD, MS_get, MS_set, getS, idxA, bxP, nckP, idxP, slsP, mkP, h1, h2]
    refine hK _ _ (pwp_ret ?_)
    simp [runM_nil, runM_n, runM_t, runM_f, runM_s, runK, pev, ptake, putSt, arg, argT, takeAt, lend, lendL, thenP, inBlockP, binP, binBP, intP, unP, lenP, fadP, ldP, iadP, fldP, extP, extTake, sliP, optN, appP, emptyOr, cvSP, cvMP, cvIP, hget, hset, partP, cellsOf, callArgs, callTake, fillP, partsOf, elemParts, elemsOf, chunk, PV.isCell, mmP, eqSP, eqCells, planM_nil, planM_n, planM_t, planM_f, planM_s, planK, keepL_MS, keepA, MS_getD, MS_get, MS_set, getS, idxA, bxP, nckP, idxP, slsP, mkP, resL, resV, idle, h1, h2]
  simp [runM_nil, runM_n, runM_t, runM_f, runM_s, runK, pev, ptake, putSt, arg, argT, takeAt, lend, lendL, thenP, inBlockP, binP, binBP, intP, unP, lenP, fadP, ldP, iadP, fldP, extP, extTake, sliP, optN, appP, emptyOr, cvSP, cvMP, cvIP, hget, hset, partP, cellsOf, callArgs, callTake, fillP, partsOf, elemParts, elemsOf, chunk, PV.isCell, mmP, eqSP, eqCells, planM_nil, planM_n, planM_t, planM_f, planM_s, planK, keepL_MS, keepA, MS_getD, MS_get, MS_set, getS, idxA, bxP, nckP, idxP, slsP, mkP, h1, h2]
  rw [h1] at ho
  refine useP ho ?_
  simp [runM_nil, runM_n, runM_t, runM_f, runM_s, runK, pev, ptake, putSt, arg, argT, takeAt, lend, lendL, thenP, inBlockP, binP, binBP, intP, unP, lenP, fadP, ldP, iadP, fldP, extP, extTake, sliP, optN, appP, emptyOr, cvSP, cvMP, cvIP, hget, hset, partP, cellsOf, callArgs, callTake, fillP, partsOf, elemParts, elemsOf, chunk, PV.isCell, mmP, eqSP, eqCells, planM_nil, planM_n, planM_t, planM_f, planM_s, planK, keepL_MS, keepA, MS_getD, MS_get, MS_set, getS, idxA, bxP, nckP, idxP, slsP, mkP]
  refine hK _ _ (pwp_ret ?_)
  simp [runM_nil, runM_n, runM_t, runM_f, runM_s, runK, pev, ptake, putSt, arg, argT, takeAt, lend, lendL, thenP, inBlockP, binP, binBP, intP, unP, lenP, fadP, ldP, iadP, fldP, extP, extTake, sliP, optN, appP, emptyOr, cvSP, cvMP, cvIP, hget, hset, partP, cellsOf, callArgs, callTake, fillP, partsOf, elemParts, elemsOf, chunk, PV.isCell, mmP, eqSP, eqCells, planM_nil, planM_n, planM_t, planM_f, planM_s, planK, keepL_MS, keepA, MS_getD, MS_get, MS_set, getS, idxA, bxP, nckP, idxP, slsP, mkP, resL, resV, idle, h1, h2]
/-- May another worker start it, too? -/
def slowTr (worker now tm : Int) : List Tr → Bool
  | [a] => decide (a.w ≠ worker) && decide (tm ≤ 2 * (now - a.b))
  | _ => false
def slow (worker now tm : Int) (k : Tk) : Bool := decide (k.dn = -1) && (decide ((k.tr.length : Int) < 500) && slowTr worker now tm (opn k))
set_option maxRecDepth 4000 in
theorem slow_ok (k : Tk) (t : Tb) (worker now : Int) (hl : k.tr.length ≤ 4000000000000) (hn : 0 ≤ now ∧ now ≤ 1000000000) (hb : ∀ x ∈ k.tr, 0 ≤ x.b ∧ x.b ≤ 1000000000) :
    PSpec Try.prog 31 [tkV k, capI worker, capI now, capT t] (.bool (slow worker now t.tm k)) := by
  intro H
  have ho := open_ok k hl
  have hbo : ∀ x ∈ opn k, 0 ≤ x.b ∧ x.b ≤ 1000000000 := fun x hx => hb x (List.mem_filter.1 hx).1
  simp only [tkV] at ho
  refine spec_of t31 (by simp [p31]) ?_
  simp only [p31]
  refine pwp_sr fun K hK => ?_
  simp [runM_nil, runM_n, runM_t, runM_f, runM_s, runK, pev, ptake, putSt, arg, argT, takeAt, lend, lendL, thenP, inBlockP, binP, binBP, intP, unP, lenP, fadP, ldP, iadP, fldP, extP, extTake, sliP, optN, appP, emptyOr, cvSP, cvMP, cvIP, hget, hset, partP, cellsOf, callArgs, callTake, fillP, partsOf, elemParts, elemsOf, chunk, PV.isCell, mmP, eqSP, eqCells, planM_nil, planM_n, planM_t, planM_f, planM_s, planK, keepL_MS, keepA, MS_getD, MS_get, MS_set, getS, idxA, bxP, nckP, idxP, slsP, mkP, tkV, capI, capT, tbV]
  refine hK _ _ (pwp_sr fun K hK => ?_)
  simp [runM_nil, runM_n, runM_t, runM_f, runM_s, runK, pev, ptake, putSt, arg, argT, takeAt, lend, lendL, thenP, inBlockP, binP, binBP, intP, unP, lenP, fadP, ldP, iadP, fldP, extP, extTake, sliP, optN, appP, emptyOr, cvSP, cvMP, cvIP, hget, hset, partP, cellsOf, callArgs, callTake, fillP, partsOf, elemParts, elemsOf, chunk, PV.isCell, mmP, eqSP, eqCells, planM_nil, planM_n, planM_t, planM_f, planM_s, planK, keepL_MS, keepA, MS_getD, MS_get, MS_set, getS, idxA, bxP, nckP, idxP, slsP, mkP]
  refine useP ho ?_
  simp [runM_nil, runM_n, runM_t, runM_f, runM_s, runK, pev, ptake, putSt, arg, argT, takeAt, lend, lendL, thenP, inBlockP, binP, binBP, intP, unP, lenP, fadP, ldP, iadP, fldP, extP, extTake, sliP, optN, appP, emptyOr, cvSP, cvMP, cvIP, hget, hset, partP, cellsOf, callArgs, callTake, fillP, partsOf, elemParts, elemsOf, chunk, PV.isCell, mmP, eqSP, eqCells, planM_nil, planM_n, planM_t, planM_f, planM_s, planK, keepL_MS, keepA, MS_getD, MS_get, MS_set, getS, idxA, bxP, nckP, idxP, slsP, mkP]
  refine hK _ _ (pwp_sd hmix fun K hK => ?_)
  by_cases h1 : k.dn = -1
  rotate_left
  · simp [runM_nil, runM_n, runM_t, runM_f, runM_s, runK, pev, ptake, putSt, arg, argT, takeAt, lend, lendL, thenP, inBlockP, binP, binBP, intP, unP, lenP, fadP, ldP, iadP, fldP, extP, extTake, sliP, optN, appP, emptyOr, cvSP, cvMP, cvIP, hget, hset, partP, cellsOf, callArgs, callTake, fillP, partsOf, elemParts, elemsOf, chunk, PV.isCell, mmP, eqSP, eqCells, planM_nil, planM_n, planM_t, planM_f, planM_s, planK, keepL_MS, keepA, MS_getD, MS_get, MS_set, getS, idxA, bxP, nckP, idxP, slsP, mkP, h1]
    refine hK _ _ (pwp_ret ?_)
    simp [runM_nil, runM_n, runM_t, runM_f, runM_s, runK, pev, ptake, putSt, arg, argT, takeAt, lend, lendL, thenP, inBlockP, binP, binBP, intP, unP, lenP, fadP, ldP, iadP, fldP, extP, extTake, sliP, optN, appP, emptyOr, cvSP, cvMP, cvIP, hget, hset, partP, cellsOf, callArgs, callTake, fillP, partsOf, elemParts, elemsOf, chunk, PV.isCell, mmP, eqSP, eqCells, planM_nil, planM_n, planM_t, planM_f, planM_s, planK, keepL_MS, keepA, MS_getD, MS_get, MS_set, getS, idxA, bxP, nckP, idxP, slsP, mkP, resL, resV, slow, h1]
  by_cases h2 : (k.tr.length : Int) < 500
  rotate_left
  · simp [runM_nil, runM_n, runM_t, runM_f, runM_s, runK, pev, ptake, putSt, arg, argT, takeAt, lend, lendL, thenP, inBlockP, binP, binBP, intP, unP, lenP, fadP, ldP, iadP, fldP, extP, extTake, sliP, optN, appP, emptyOr, cvSP, cvMP, cvIP, hget, hset, partP, cellsOf, callArgs, callTake, fillP, partsOf, elemParts, elemsOf, chunk, PV.isCell, mmP, eqSP, eqCells, planM_nil, planM_n, planM_t, planM_f, planM_s, planK, keepL_MS, keepA, MS_getD, MS_get, MS_set, getS, idxA, bxP, nckP, idxP, slsP, mkP, h1, h2]
    refine hK _ _ (pwp_ret ?_)
    simp [runM_nil, runM_n, runM_t, runM_f, runM_s, runK, pev, ptake, putSt, arg, argT, takeAt, lend, lendL, thenP, inBlockP, binP, binBP, intP, unP, lenP, fadP, ldP, iadP, fldP, extP, extTake, sliP, optN, appP, emptyOr, cvSP, cvMP, cvIP, hget, hset, partP, cellsOf, callArgs, callTake, fillP, partsOf, elemParts, elemsOf, chunk, PV.isCell, mmP, eqSP, eqCells, planM_nil, planM_n, planM_t, planM_f, planM_s, planK, keepL_MS, keepA, MS_getD, MS_get, MS_set, getS, idxA, bxP, nckP, idxP, slsP, mkP, resL, resV, slow, h1, h2]
  clear ho
  have hslow : slow worker now t.tm k = slowTr worker now t.tm (opn k) := by simp [slow, h1, h2]
  generalize opn k = o at *
  rcases o with _ | ⟨a, _ | ⟨b, o⟩⟩
  · simp [runM_nil, runM_n, runM_t, runM_f, runM_s, runK, pev, ptake, putSt, arg, argT, takeAt, lend, lendL, thenP, inBlockP, binP, binBP, intP, unP, lenP, fadP, ldP, iadP, fldP, extP, extTake, sliP, optN, appP, emptyOr, cvSP, cvMP, cvIP, hget, hset, partP, cellsOf, callArgs, callTake, fillP, partsOf, elemParts, elemsOf, chunk, PV.isCell, mmP, eqSP, eqCells, planM_nil, planM_n, planM_t, planM_f, planM_s, planK, keepL_MS, keepA, MS_getD, MS_get, MS_set, getS, idxA, bxP, nckP, idxP, slsP, mkP, h1, h2]
    refine hK _ _ (pwp_ret ?_)
    simp [runM_nil, runM_n, runM_t, runM_f, runM_s, runK, pev, ptake, putSt, arg, argT, takeAt, lend, lendL, thenP, inBlockP, binP, binBP, intP, unP, lenP, fadP, ldP, iadP, fldP, extP, extTake, sliP, optN, appP, emptyOr, cvSP, cvMP, cvIP, hget, hset, partP, cellsOf, callArgs, callTake, fillP, partsOf, elemParts, elemsOf, chunk, PV.isCell, mmP, eqSP, eqCells, planM_nil, planM_n, planM_t, planM_f, planM_s, planK, keepL_MS, keepA, MS_getD, MS_get, MS_set, getS, idxA, bxP, nckP, idxP, slsP, mkP, resL, resV, slowTr, hslow]
  · obtain ⟨b1, b2⟩ := hbo a (List.mem_singleton_self a)
    have w1 : IntKind.i64.wrap (now - a.b) = now - a.b := w64 (by omega) (by omega)
    have w2 : IntKind.i64.wrap (2 * (now - a.b)) = 2 * (now - a.b) := w64 (by omega) (by omega)
    by_cases h3 : a.w = worker
    · simp [runM_nil, runM_n, runM_t, runM_f, runM_s, runK, pev, ptake, putSt, arg, argT, takeAt, lend, lendL, thenP, inBlockP, binP, binBP, intP, unP, lenP, fadP, ldP, iadP, fldP, extP, extTake, sliP, optN, appP, emptyOr, cvSP, cvMP, cvIP, hget, hset, partP, cellsOf, callArgs, callTake, fillP, partsOf, elemParts, elemsOf, chunk, PV.isCell, mmP, eqSP, eqCells, planM_nil, planM_n, planM_t, planM_f, planM_s, planK, keepL_MS, keepA, MS_getD, MS_get, MS_set, getS, idxA, bxP, nckP, idxP, slsP, mkP, h1, h2, h3, trV]
      refine hK _ _ (pwp_ret ?_)
      simp [runM_nil, runM_n, runM_t, runM_f, runM_s, runK, pev, ptake, putSt, arg, argT, takeAt, lend, lendL, thenP, inBlockP, binP, binBP, intP, unP, lenP, fadP, ldP, iadP, fldP, extP, extTake, sliP, optN, appP, emptyOr, cvSP, cvMP, cvIP, hget, hset, partP, cellsOf, callArgs, callTake, fillP, partsOf, elemParts, elemsOf, chunk, PV.isCell, mmP, eqSP, eqCells, planM_nil, planM_n, planM_t, planM_f, planM_s, planK, keepL_MS, keepA, MS_getD, MS_get, MS_set, getS, idxA, bxP, nckP, idxP, slsP, mkP, resL, resV, slowTr, h3, hslow]
    · simp [runM_nil, runM_n, runM_t, runM_f, runM_s, runK, pev, ptake, putSt, arg, argT, takeAt, lend, lendL, thenP, inBlockP, binP, binBP, intP, unP, lenP, fadP, ldP, iadP, fldP, extP, extTake, sliP, optN, appP, emptyOr, cvSP, cvMP, cvIP, hget, hset, partP, cellsOf, callArgs, callTake, fillP, partsOf, elemParts, elemsOf, chunk, PV.isCell, mmP, eqSP, eqCells, planM_nil, planM_n, planM_t, planM_f, planM_s, planK, keepL_MS, keepA, MS_getD, MS_get, MS_set, getS, idxA, bxP, nckP, idxP, slsP, mkP, h1, h2, h3, trV, w1, w2]
      refine hK _ _ (pwp_ret ?_)
      simp [runM_nil, runM_n, runM_t, runM_f, runM_s, runK, pev, ptake, putSt, arg, argT, takeAt, lend, lendL, thenP, inBlockP, binP, binBP, intP, unP, lenP, fadP, ldP, iadP, fldP, extP, extTake, sliP, optN, appP, emptyOr, cvSP, cvMP, cvIP, hget, hset, partP, cellsOf, callArgs, callTake, fillP, partsOf, elemParts, elemsOf, chunk, PV.isCell, mmP, eqSP, eqCells, planM_nil, planM_n, planM_t, planM_f, planM_s, planK, keepL_MS, keepA, MS_getD, MS_get, MS_set, getS, idxA, bxP, nckP, idxP, slsP, mkP, resL, resV, slowTr, h3, hslow]
  · have hne : ¬ ((o.length : Int) + 1 + 1 = 1) := by omega
    simp [runM_nil, runM_n, runM_t, runM_f, runM_s, runK, pev, ptake, putSt, arg, argT, takeAt, lend, lendL, thenP, inBlockP, binP, binBP, intP, unP, lenP, fadP, ldP, iadP, fldP, extP, extTake, sliP, optN, appP, emptyOr, cvSP, cvMP, cvIP, hget, hset, partP, cellsOf, callArgs, callTake, fillP, partsOf, elemParts, elemsOf, chunk, PV.isCell, mmP, eqSP, eqCells, planM_nil, planM_n, planM_t, planM_f, planM_s, planK, keepL_MS, keepA, MS_getD, MS_get, MS_set, getS, idxA, bxP, nckP, idxP, slsP, mkP, h1, h2, hne]
    refine hK _ _ (pwp_ret ?_)
    simp [runM_nil, runM_n, runM_t, runM_f, runM_s, runK, pev, ptake, putSt, arg, argT, takeAt, lend, lendL, thenP, inBlockP, binP, binBP, intP, unP, lenP, fadP, ldP, iadP, fldP, extP, extTake, sliP, optN, appP, emptyOr, cvSP, cvMP, cvIP, hget, hset, partP, cellsOf, callArgs, callTake, fillP, partsOf, elemParts, elemsOf, chunk, PV.isCell, mmP, eqSP, eqCells, planM_nil, planM_n, planM_t, planM_f, planM_s, planK, keepL_MS, keepA, MS_getD, MS_get, MS_set, getS, idxA, bxP, nckP, idxP, slsP, mkP, resL, resV, slowTr, hslow]
/-- What Next tells: the place, and whether there is one. -/
def nextT (t : Tb) (worker now : Int) : Int × Bool :=
  if 0 ≤ idxOf idle t.l then (idxOf idle t.l, true) else if 0 ≤ idxOf (slow worker now t.tm) t.l then (idxOf (slow worker now t.tm) t.l, true) else (0, false)
theorem Next_ok (t : Tb) (worker now : Int) (hs : Small t) (hn : 0 ≤ now ∧ now ≤ 1000000000) (hb : ∀ k ∈ t.l, ∀ x ∈ k.tr, 0 ≤ x.b ∧ x.b ≤ 1000000000) :
    PSpec Try.prog 12 [tbV t, .int .i64 worker, .int .i64 now] (.tup [.int .i64 (nextT t worker now).1, .bool (nextT t worker now).2]) := by
  intro H
  have hi := indexTk t.l 29 [] idle (by have := hs.l; omega) (fun k hk => idle_ok k (by have := hs.tr k hk; omega))
  have hsl := indexTk t.l 31 [capI worker, capI now, capT t] (slow worker now t.tm) (by have := hs.l; omega) (fun k hk => by
    simpa [lendL, lend, capI, capT] using slow_ok k t worker now (by have := hs.tr k hk; omega) hn (hb k hk))
  refine spec_of t12 (by simp [p12]) ?_
  simp only [p12]
  refine pwp_sr fun K hK => ?_
  simp [runM_nil, runM_n, runM_t, runM_f, runM_s, runK, pev, ptake, putSt, arg, argT, takeAt, lend, lendL, thenP, inBlockP, binP, binBP, intP, unP, lenP, fadP, ldP, iadP, fldP, extP, extTake, sliP, optN, appP, emptyOr, cvSP, cvMP, cvIP, hget, hset, partP, cellsOf, callArgs, callTake, fillP, partsOf, elemParts, elemsOf, chunk, PV.isCell, mmP, eqSP, eqCells, planM_nil, planM_n, planM_t, planM_f, planM_s, planK, keepL_MS, keepA, MS_getD, MS_get, MS_set, getS, idxA, bxP, nckP, idxP, slsP, mkP, tbV]
  refine hK _ _ (pwp_sr fun K hK => ?_)
  simp [runM_nil, runM_n, runM_t, runM_f, runM_s, runK, pev, ptake, putSt, arg, argT, takeAt, lend, lendL, thenP, inBlockP, binP, binBP, intP, unP, lenP, fadP, ldP, iadP, fldP, extP, extTake, sliP, optN, appP, emptyOr, cvSP, cvMP, cvIP, hget, hset, partP, cellsOf, callArgs, callTake, fillP, partsOf, elemParts, elemsOf, chunk, PV.isCell, mmP, eqSP, eqCells, planM_nil, planM_n, planM_t, planM_f, planM_s, planK, keepL_MS, keepA, MS_getD, MS_get, MS_set, getS, idxA, bxP, nckP, idxP, slsP, mkP]
  refine hK _ _ (pwp_sr fun K hK => ?_)
  simp [runM_nil, runM_n, runM_t, runM_f, runM_s, runK, pev, ptake, putSt, arg, argT, takeAt, lend, lendL, thenP, inBlockP, binP, binBP, intP, unP, lenP, fadP, ldP, iadP, fldP, extP, extTake, sliP, optN, appP, emptyOr, cvSP, cvMP, cvIP, hget, hset, partP, cellsOf, callArgs, callTake, fillP, partsOf, elemParts, elemsOf, chunk, PV.isCell, mmP, eqSP, eqCells, planM_nil, planM_n, planM_t, planM_f, planM_s, planK, keepL_MS, keepA, MS_getD, MS_get, MS_set, getS, idxA, bxP, nckP, idxP, slsP, mkP]
  refine hK _ _ (pwp_seq (pwp_sr fun K hK => ?_))
  simp [runM_nil, runM_n, runM_t, runM_f, runM_s, runK, pev, ptake, putSt, arg, argT, takeAt, lend, lendL, thenP, inBlockP, binP, binBP, intP, unP, lenP, fadP, ldP, iadP, fldP, extP, extTake, sliP, optN, appP, emptyOr, cvSP, cvMP, cvIP, hget, hset, partP, cellsOf, callArgs, callTake, fillP, partsOf, elemParts, elemsOf, chunk, PV.isCell, mmP, eqSP, eqCells, planM_nil, planM_n, planM_t, planM_f, planM_s, planK, keepL_MS, keepA, MS_getD, MS_get, MS_set, getS, idxA, bxP, nckP, idxP, slsP, mkP]
  refine hK _ _ (pwp_block ?_)
  simp only [capI, capT, tbV] at hsl
  refine pwp_loopU [3, 16, 17, 18] (fun m st H' => ∃ i : Nat, i ≤ 2 ∧ m = 2 - i ∧ H' = H ∧ (1 ≤ i → ¬ 0 ≤ idxOf idle t.l) ∧ (2 ≤ i → ¬ 0 ≤ idxOf (slow worker now t.tm) t.l) ∧ st = MS 30 [(3, .ip 3 [tbV t] 0 0),
      (16, .lst 1 [.fn (.func 29) [] [], .fn (.func 31) [] [.ip 1 [.int .i64 worker] 0 0, .ip 1 [.int .i64 now] 0 0, .ip 3 [.agg [.int .i64 t.cap, .int .i64 t.tm, .lst 3 (t.l.map tkV) false]] 0 0]] true), (17, .int .i64 2), (18, .int .i64 i)]) (n := 2)
    ⟨_, H, keep_up (l' := [(3, .ip 3 [tbV t] 0 0),
      (16, .lst 1 [.fn (.func 29) [] [], .fn (.func 31) [] [.ip 1 [.int .i64 worker] 0 0, .ip 1 [.int .i64 now] 0 0, .ip 3 [.agg [.int .i64 t.cap, .int .i64 t.tm, .lst 3 (t.l.map tkV) false]] 0 0]] true), (17, .int .i64 2), (18, .int .i64 0)]) (by simp [keepA, UpA, Up_refl, UpL_refl, Up_lst, Up_agg, Up_tup, UpL_cons, getS, tbV]), List.Sublist.refl _, 0, Nat.zero_le _, rfl, rfl, fun h => by omega, fun h => by omega, rfl⟩ ?_
  rintro m st _ ⟨i, hi2, rfl, rfl, hno1, hno2, rfl⟩
  refine pwp_sr fun K hK => ?_
  rcases i with _ | _ | _ | i
  · simp [runM_nil, runM_n, runM_t, runM_f, runM_s, runK, pev, ptake, putSt, arg, argT, takeAt, lend, lendL, thenP, inBlockP, binP, binBP, intP, unP, lenP, fadP, ldP, iadP, fldP, extP, extTake, sliP, optN, appP, emptyOr, cvSP, cvMP, cvIP, hget, hset, partP, cellsOf, callArgs, callTake, fillP, partsOf, elemParts, elemsOf, chunk, PV.isCell, mmP, eqSP, eqCells, planM_nil, planM_n, planM_t, planM_f, planM_s, planK, keepL_MS, keepA, MS_getD, MS_get, MS_set, getS, idxA, bxP, nckP, idxP, slsP, mkP]
    refine hK _ _ (pwp_sT (by simp [runM_nil, runM_n, runM_t, runM_f, runM_s, runK, pev, ptake, putSt, arg, argT, takeAt, lend, lendL, thenP, inBlockP, binP, binBP, intP, unP, lenP, fadP, ldP, iadP, fldP, extP, extTake, sliP, optN, appP, emptyOr, cvSP, cvMP, cvIP, hget, hset, partP, cellsOf, callArgs, callTake, fillP, partsOf, elemParts, elemsOf, chunk, PV.isCell, mmP, eqSP, eqCells, planM_nil, planM_n, planM_t, planM_f, planM_s, planK, keepL_MS, keepA, MS_getD, MS_get, MS_set, getS, idxA, bxP, nckP, idxP, slsP, mkP]) (pwp_seq (pwp_block (pwp_sr fun K hK => ?_))))
    simp [runM_nil, runM_n, runM_t, runM_f, runM_s, runK, pev, ptake, putSt, arg, argT, takeAt, lend, lendL, thenP, inBlockP, binP, binBP, intP, unP, lenP, fadP, ldP, iadP, fldP, extP, extTake, sliP, optN, appP, emptyOr, cvSP, cvMP, cvIP, hget, hset, partP, cellsOf, callArgs, callTake, fillP, partsOf, elemParts, elemsOf, chunk, PV.isCell, mmP, eqSP, eqCells, planM_nil, planM_n, planM_t, planM_f, planM_s, planK, keepL_MS, keepA, MS_getD, MS_get, MS_set, getS, idxA, bxP, nckP, idxP, slsP, mkP]
    refine hK _ _ (pwp_sr fun K hK => ?_)
    simp [runM_nil, runM_n, runM_t, runM_f, runM_s, runK, pev, ptake, putSt, arg, argT, takeAt, lend, lendL, thenP, inBlockP, binP, binBP, intP, unP, lenP, fadP, ldP, iadP, fldP, extP, extTake, sliP, optN, appP, emptyOr, cvSP, cvMP, cvIP, hget, hset, partP, cellsOf, callArgs, callTake, fillP, partsOf, elemParts, elemsOf, chunk, PV.isCell, mmP, eqSP, eqCells, planM_nil, planM_n, planM_t, planM_f, planM_s, planK, keepL_MS, keepA, MS_getD, MS_get, MS_set, getS, idxA, bxP, nckP, idxP, slsP, mkP, tbV]
    refine useP hi ?_
    simp [runM_nil, runM_n, runM_t, runM_f, runM_s, runK, pev, ptake, putSt, arg, argT, takeAt, lend, lendL, thenP, inBlockP, binP, binBP, intP, unP, lenP, fadP, ldP, iadP, fldP, extP, extTake, sliP, optN, appP, emptyOr, cvSP, cvMP, cvIP, hget, hset, partP, cellsOf, callArgs, callTake, fillP, partsOf, elemParts, elemsOf, chunk, PV.isCell, mmP, eqSP, eqCells, planM_nil, planM_n, planM_t, planM_f, planM_s, planK, keepL_MS, keepA, MS_getD, MS_get, MS_set, getS, idxA, bxP, nckP, idxP, slsP, mkP]
    refine hK _ _ (pwp_rifE fun K hK => ?_)
    simp [runM_nil, runM_n, runM_t, runM_f, runM_s, runK, pev, ptake, putSt, arg, argT, takeAt, lend, lendL, thenP, inBlockP, binP, binBP, intP, unP, lenP, fadP, ldP, iadP, fldP, extP, extTake, sliP, optN, appP, emptyOr, cvSP, cvMP, cvIP, hget, hset, partP, cellsOf, callArgs, callTake, fillP, partsOf, elemParts, elemsOf, chunk, PV.isCell, mmP, eqSP, eqCells, planM_nil, planM_n, planM_t, planM_f, planM_s, planK, keepL_MS, keepA, MS_getD, MS_get, MS_set, getS, idxA, bxP, nckP, idxP, slsP, mkP]
    refine hK _ _ (ifB (p := 0 ≤ idxOf idle t.l) (by simp [runM_nil, runM_n, runM_t, runM_f, runM_s, runK, pev, ptake, putSt, arg, argT, takeAt, lend, lendL, thenP, inBlockP, binP, binBP, intP, unP, lenP, fadP, ldP, iadP, fldP, extP, extTake, sliP, optN, appP, emptyOr, cvSP, cvMP, cvIP, hget, hset, partP, cellsOf, callArgs, callTake, fillP, partsOf, elemParts, elemsOf, chunk, PV.isCell, mmP, eqSP, eqCells, planM_nil, planM_n, planM_t, planM_f, planM_s, planK, keepL_MS, keepA, MS_getD, MS_get, MS_set, getS, idxA, bxP, nckP, idxP, slsP, mkP]) (fun h => pwp_sr fun K hK => ?_) (fun h => pwp_skip (pwp_regionM fun K hK => ?_)))
    · simp [runM_nil, runM_n, runM_t, runM_f, runM_s, runK, pev, ptake, putSt, arg, argT, takeAt, lend, lendL, thenP, inBlockP, binP, binBP, intP, unP, lenP, fadP, ldP, iadP, fldP, extP, extTake, sliP, optN, appP, emptyOr, cvSP, cvMP, cvIP, hget, hset, partP, cellsOf, callArgs, callTake, fillP, partsOf, elemParts, elemsOf, chunk, PV.isCell, mmP, eqSP, eqCells, planM_nil, planM_n, planM_t, planM_f, planM_s, planK, keepL_MS, keepA, MS_getD, MS_get, MS_set, getS, idxA, bxP, nckP, idxP, slsP, mkP]
      refine hK _ _ (pwp_ret ?_)
      simp [runM_nil, runM_n, runM_t, runM_f, runM_s, runK, pev, ptake, putSt, arg, argT, takeAt, lend, lendL, thenP, inBlockP, binP, binBP, intP, unP, lenP, fadP, ldP, iadP, fldP, extP, extTake, sliP, optN, appP, emptyOr, cvSP, cvMP, cvIP, hget, hset, partP, cellsOf, callArgs, callTake, fillP, partsOf, elemParts, elemsOf, chunk, PV.isCell, mmP, eqSP, eqCells, planM_nil, planM_n, planM_t, planM_f, planM_s, planK, keepL_MS, keepA, MS_getD, MS_get, MS_set, getS, idxA, bxP, nckP, idxP, slsP, mkP, resL, resV, nextT, h]
    · simp [runM_nil, runM_n, runM_t, runM_f, runM_s, runK, pev, ptake, putSt, arg, argT, takeAt, lend, lendL, thenP, inBlockP, binP, binBP, intP, unP, lenP, fadP, ldP, iadP, fldP, extP, extTake, sliP, optN, appP, emptyOr, cvSP, cvMP, cvIP, hget, hset, partP, cellsOf, callArgs, callTake, fillP, partsOf, elemParts, elemsOf, chunk, PV.isCell, mmP, eqSP, eqCells, planM_nil, planM_n, planM_t, planM_f, planM_s, planK, keepL_MS, keepA, MS_getD, MS_get, MS_set, getS, idxA, bxP, nckP, idxP, slsP, mkP]
      refine hK _ _ ⟨1, by omega, _, _, keep_up (l' := [(3, .ip 3 [tbV t] 0 0),
        (16, .lst 1 [.fn (.func 29) [] [], .fn (.func 31) [] [.ip 1 [.int .i64 worker] 0 0, .ip 1 [.int .i64 now] 0 0, .ip 3 [.agg [.int .i64 t.cap, .int .i64 t.tm, .lst 3 (t.l.map tkV) false]] 0 0]] true), (17, .int .i64 2), (18, .int .i64 1)]) (by simp [keepA, UpA, Up_refl, UpL_refl, Up_lst, Up_agg, Up_tup, UpL_cons, getS, tbV, IntKind.wrap_i64]), List.Sublist.refl _, 1, by omega, rfl, rfl, fun _ => h, fun h => by omega, rfl⟩
  · simp [runM_nil, runM_n, runM_t, runM_f, runM_s, runK, pev, ptake, putSt, arg, argT, takeAt, lend, lendL, thenP, inBlockP, binP, binBP, intP, unP, lenP, fadP, ldP, iadP, fldP, extP, extTake, sliP, optN, appP, emptyOr, cvSP, cvMP, cvIP, hget, hset, partP, cellsOf, callArgs, callTake, fillP, partsOf, elemParts, elemsOf, chunk, PV.isCell, mmP, eqSP, eqCells, planM_nil, planM_n, planM_t, planM_f, planM_s, planK, keepL_MS, keepA, MS_getD, MS_get, MS_set, getS, idxA, bxP, nckP, idxP, slsP, mkP]
    refine hK _ _ (pwp_sT (by simp [runM_nil, runM_n, runM_t, runM_f, runM_s, runK, pev, ptake, putSt, arg, argT, takeAt, lend, lendL, thenP, inBlockP, binP, binBP, intP, unP, lenP, fadP, ldP, iadP, fldP, extP, extTake, sliP, optN, appP, emptyOr, cvSP, cvMP, cvIP, hget, hset, partP, cellsOf, callArgs, callTake, fillP, partsOf, elemParts, elemsOf, chunk, PV.isCell, mmP, eqSP, eqCells, planM_nil, planM_n, planM_t, planM_f, planM_s, planK, keepL_MS, keepA, MS_getD, MS_get, MS_set, getS, idxA, bxP, nckP, idxP, slsP, mkP]) (pwp_seq (pwp_block (pwp_sr fun K hK => ?_))))
    simp [runM_nil, runM_n, runM_t, runM_f, runM_s, runK, pev, ptake, putSt, arg, argT, takeAt, lend, lendL, thenP, inBlockP, binP, binBP, intP, unP, lenP, fadP, ldP, iadP, fldP, extP, extTake, sliP, optN, appP, emptyOr, cvSP, cvMP, cvIP, hget, hset, partP, cellsOf, callArgs, callTake, fillP, partsOf, elemParts, elemsOf, chunk, PV.isCell, mmP, eqSP, eqCells, planM_nil, planM_n, planM_t, planM_f, planM_s, planK, keepL_MS, keepA, MS_getD, MS_get, MS_set, getS, idxA, bxP, nckP, idxP, slsP, mkP]
    refine hK _ _ (pwp_sr fun K hK => ?_)
    simp [runM_nil, runM_n, runM_t, runM_f, runM_s, runK, pev, ptake, putSt, arg, argT, takeAt, lend, lendL, thenP, inBlockP, binP, binBP, intP, unP, lenP, fadP, ldP, iadP, fldP, extP, extTake, sliP, optN, appP, emptyOr, cvSP, cvMP, cvIP, hget, hset, partP, cellsOf, callArgs, callTake, fillP, partsOf, elemParts, elemsOf, chunk, PV.isCell, mmP, eqSP, eqCells, planM_nil, planM_n, planM_t, planM_f, planM_s, planK, keepL_MS, keepA, MS_getD, MS_get, MS_set, getS, idxA, bxP, nckP, idxP, slsP, mkP, tbV]
    refine useP hsl ?_
    simp [runM_nil, runM_n, runM_t, runM_f, runM_s, runK, pev, ptake, putSt, arg, argT, takeAt, lend, lendL, thenP, inBlockP, binP, binBP, intP, unP, lenP, fadP, ldP, iadP, fldP, extP, extTake, sliP, optN, appP, emptyOr, cvSP, cvMP, cvIP, hget, hset, partP, cellsOf, callArgs, callTake, fillP, partsOf, elemParts, elemsOf, chunk, PV.isCell, mmP, eqSP, eqCells, planM_nil, planM_n, planM_t, planM_f, planM_s, planK, keepL_MS, keepA, MS_getD, MS_get, MS_set, getS, idxA, bxP, nckP, idxP, slsP, mkP]
    refine hK _ _ (pwp_rifE fun K hK => ?_)
    simp [runM_nil, runM_n, runM_t, runM_f, runM_s, runK, pev, ptake, putSt, arg, argT, takeAt, lend, lendL, thenP, inBlockP, binP, binBP, intP, unP, lenP, fadP, ldP, iadP, fldP, extP, extTake, sliP, optN, appP, emptyOr, cvSP, cvMP, cvIP, hget, hset, partP, cellsOf, callArgs, callTake, fillP, partsOf, elemParts, elemsOf, chunk, PV.isCell, mmP, eqSP, eqCells, planM_nil, planM_n, planM_t, planM_f, planM_s, planK, keepL_MS, keepA, MS_getD, MS_get, MS_set, getS, idxA, bxP, nckP, idxP, slsP, mkP]
    have hno1 := hno1 (by omega)
    refine hK _ _ (ifB (p := 0 ≤ idxOf (slow worker now t.tm) t.l) (by simp [runM_nil, runM_n, runM_t, runM_f, runM_s, runK, pev, ptake, putSt, arg, argT, takeAt, lend, lendL, thenP, inBlockP, binP, binBP, intP, unP, lenP, fadP, ldP, iadP, fldP, extP, extTake, sliP, optN, appP, emptyOr, cvSP, cvMP, cvIP, hget, hset, partP, cellsOf, callArgs, callTake, fillP, partsOf, elemParts, elemsOf, chunk, PV.isCell, mmP, eqSP, eqCells, planM_nil, planM_n, planM_t, planM_f, planM_s, planK, keepL_MS, keepA, MS_getD, MS_get, MS_set, getS, idxA, bxP, nckP, idxP, slsP, mkP]) (fun h => pwp_sr fun K hK => ?_) (fun h => pwp_skip (pwp_regionM fun K hK => ?_)))
    · simp [runM_nil, runM_n, runM_t, runM_f, runM_s, runK, pev, ptake, putSt, arg, argT, takeAt, lend, lendL, thenP, inBlockP, binP, binBP, intP, unP, lenP, fadP, ldP, iadP, fldP, extP, extTake, sliP, optN, appP, emptyOr, cvSP, cvMP, cvIP, hget, hset, partP, cellsOf, callArgs, callTake, fillP, partsOf, elemParts, elemsOf, chunk, PV.isCell, mmP, eqSP, eqCells, planM_nil, planM_n, planM_t, planM_f, planM_s, planK, keepL_MS, keepA, MS_getD, MS_get, MS_set, getS, idxA, bxP, nckP, idxP, slsP, mkP]
      refine hK _ _ (pwp_ret ?_)
      simp [runM_nil, runM_n, runM_t, runM_f, runM_s, runK, pev, ptake, putSt, arg, argT, takeAt, lend, lendL, thenP, inBlockP, binP, binBP, intP, unP, lenP, fadP, ldP, iadP, fldP, extP, extTake, sliP, optN, appP, emptyOr, cvSP, cvMP, cvIP, hget, hset, partP, cellsOf, callArgs, callTake, fillP, partsOf, elemParts, elemsOf, chunk, PV.isCell, mmP, eqSP, eqCells, planM_nil, planM_n, planM_t, planM_f, planM_s, planK, keepL_MS, keepA, MS_getD, MS_get, MS_set, getS, idxA, bxP, nckP, idxP, slsP, mkP, resL, resV, nextT, h, hno1]
    · simp [runM_nil, runM_n, runM_t, runM_f, runM_s, runK, pev, ptake, putSt, arg, argT, takeAt, lend, lendL, thenP, inBlockP, binP, binBP, intP, unP, lenP, fadP, ldP, iadP, fldP, extP, extTake, sliP, optN, appP, emptyOr, cvSP, cvMP, cvIP, hget, hset, partP, cellsOf, callArgs, callTake, fillP, partsOf, elemParts, elemsOf, chunk, PV.isCell, mmP, eqSP, eqCells, planM_nil, planM_n, planM_t, planM_f, planM_s, planK, keepL_MS, keepA, MS_getD, MS_get, MS_set, getS, idxA, bxP, nckP, idxP, slsP, mkP]
      refine hK _ _ ⟨0, by omega, _, _, keep_up (l' := [(3, .ip 3 [tbV t] 0 0),
        (16, .lst 1 [.fn (.func 29) [] [], .fn (.func 31) [] [.ip 1 [.int .i64 worker] 0 0, .ip 1 [.int .i64 now] 0 0, .ip 3 [.agg [.int .i64 t.cap, .int .i64 t.tm, .lst 3 (t.l.map tkV) false]] 0 0]] true), (17, .int .i64 2), (18, .int .i64 2)]) (by simp [keepA, UpA, Up_refl, UpL_refl, Up_lst, Up_agg, Up_tup, UpL_cons, getS, tbV, IntKind.wrap_i64]), List.Sublist.refl _, 2, by omega, rfl, rfl, fun _ => hno1, fun _ => h, rfl⟩
  · have hno1 := hno1 (by omega)
    have hno2 := hno2 (by omega)
    simp [runM_nil, runM_n, runM_t, runM_f, runM_s, runK, pev, ptake, putSt, arg, argT, takeAt, lend, lendL, thenP, inBlockP, binP, binBP, intP, unP, lenP, fadP, ldP, iadP, fldP, extP, extTake, sliP, optN, appP, emptyOr, cvSP, cvMP, cvIP, hget, hset, partP, cellsOf, callArgs, callTake, fillP, partsOf, elemParts, elemsOf, chunk, PV.isCell, mmP, eqSP, eqCells, planM_nil, planM_n, planM_t, planM_f, planM_s, planK, keepL_MS, keepA, MS_getD, MS_get, MS_set, getS, idxA, bxP, nckP, idxP, slsP, mkP]
    refine hK _ _ (pwp_seq (pwp_cF (by simp [runM_nil, runM_n, runM_t, runM_f, runM_s, runK, pev, ptake, putSt, arg, argT, takeAt, lend, lendL, thenP, inBlockP, binP, binBP, intP, unP, lenP, fadP, ldP, iadP, fldP, extP, extTake, sliP, optN, appP, emptyOr, cvSP, cvMP, cvIP, hget, hset, partP, cellsOf, callArgs, callTake, fillP, partsOf, elemParts, elemsOf, chunk, PV.isCell, mmP, eqSP, eqCells, planM_nil, planM_n, planM_t, planM_f, planM_s, planK, keepL_MS, keepA, MS_getD, MS_get, MS_set, getS, idxA, bxP, nckP, idxP, slsP, mkP]) (pwp_exit (pwp_sr fun K hK => ?_))))
    simp [runM_nil, runM_n, runM_t, runM_f, runM_s, runK, pev, ptake, putSt, arg, argT, takeAt, lend, lendL, thenP, inBlockP, binP, binBP, intP, unP, lenP, fadP, ldP, iadP, fldP, extP, extTake, sliP, optN, appP, emptyOr, cvSP, cvMP, cvIP, hget, hset, partP, cellsOf, callArgs, callTake, fillP, partsOf, elemParts, elemsOf, chunk, PV.isCell, mmP, eqSP, eqCells, planM_nil, planM_n, planM_t, planM_f, planM_s, planK, keepL_MS, keepA, MS_getD, MS_get, MS_set, getS, idxA, bxP, nckP, idxP, slsP, mkP]
    refine hK _ _ (pwp_ret ?_)
    simp [runM_nil, runM_n, runM_t, runM_f, runM_s, runK, pev, ptake, putSt, arg, argT, takeAt, lend, lendL, thenP, inBlockP, binP, binBP, intP, unP, lenP, fadP, ldP, iadP, fldP, extP, extTake, sliP, optN, appP, emptyOr, cvSP, cvMP, cvIP, hget, hset, partP, cellsOf, callArgs, callTake, fillP, partsOf, elemParts, elemsOf, chunk, PV.isCell, mmP, eqSP, eqCells, planM_nil, planM_n, planM_t, planM_f, planM_s, planK, keepL_MS, keepA, MS_getD, MS_get, MS_set, getS, idxA, bxP, nckP, idxP, slsP, mkP, resL, resV, nextT, hno1, hno2]
  · omega
end Go.Proofs.Ytkjibelcaeanjaa.E
