/- What the law asks of a table, on plain values. -/
import Derived.Test.YtkjibelcaeanjaaET27
namespace Go.Proofs.Ytkjibelcaeanjaa.E
open Go Go.RowKit Go.Proofs
set_option linter.unusedVariables false
set_option linter.unusedSimpArgs false
def fewT (t : Tb) : Bool := decide (t.l.length ≤ 50) && t.l.all fun k => decide (k.tr.length ≤ 50)
/-- Lists as long as a row may be. -/
structure Fits (t : Tb) : Prop where
  l : t.l.length ≤ 4000000000000
  tr : ∀ k ∈ t.l, k.tr.length ≤ 6000000000000
theorem few_ok (t : Tb) (hs : Fits t) : PSpec Try.prog 6 [tbV t] (.bool (fewT t)) := by
  intro H
  have hsl := hs.l
  refine spec_of t6 (by simp [p6]) ?_
  simp only [p6]
  refine pwp_sr fun K hK => ?_
  simp [runM_nil, runM_n, runM_t, runM_f, runM_s, runK, pev, ptake, putSt, arg, argT, takeAt, lend, lendL, thenP, inBlockP, binP, binBP, intP, unP, lenP, fadP, ldP, iadP, fldP, extP, extTake, sliP, optN, appP, emptyOr, cvSP, cvMP, cvIP, hget, hset, partP, cellsOf, callArgs, callTake, fillP, partsOf, elemParts, elemsOf, chunk, PV.isCell, mmP, eqSP, eqCells, planM_nil, planM_n, planM_t, planM_f, planM_s, planK, keepL_MS, keepA, MS_getD, MS_get, MS_set, getS, idxA, bxP, nckP, idxP, slsP, mkP, tbV]
  refine hK _ _ (pwp_seq (pwp_sr fun K hK => ?_))
  simp [runM_nil, runM_n, runM_t, runM_f, runM_s, runK, pev, ptake, putSt, arg, argT, takeAt, lend, lendL, thenP, inBlockP, binP, binBP, intP, unP, lenP, fadP, ldP, iadP, fldP, extP, extTake, sliP, optN, appP, emptyOr, cvSP, cvMP, cvIP, hget, hset, partP, cellsOf, callArgs, callTake, fillP, partsOf, elemParts, elemsOf, chunk, PV.isCell, mmP, eqSP, eqCells, planM_nil, planM_n, planM_t, planM_f, planM_s, planK, keepL_MS, keepA, MS_getD, MS_get, MS_set, getS, idxA, bxP, nckP, idxP, slsP, mkP]
  refine hK _ _ (pwp_block ?_)
  clear hK
  refine pwp_loopU [1, 3] (fun m st H' => ∃ i, i ≤ t.l.length ∧ i ≤ 50 ∧ m = t.l.length - i ∧ H' = H ∧ (∀ j, (hj : j < i) → (hj2 : j < t.l.length) → t.l[j].tr.length ≤ 50) ∧ st = MS 23 [(1, .ip 3 [tbV t] 0 0), (3, .int .i64 i)]) (n := t.l.length)
    ⟨_, H, keep_up (l' := [(1, .ip 3 [tbV t] 0 0), (3, .int .i64 0)]) (by simp [keepA, UpA, Up_refl, UpL_refl, Up_lst, Up_agg, Up_tup, UpL_cons, getS, tbV]), List.Sublist.refl _, 0, Nat.zero_le _, Nat.zero_le _, rfl, rfl, fun j hj => absurd hj (Nat.not_lt_zero _), rfl⟩ ?_
  rintro m st H2 ⟨i, hi, hi50, rfl, rfl, hle, rfl⟩
  refine pwp_rif fun K hK => ?_
  by_cases hik : i < t.l.length
  · have hw : IntKind.i64.wrap ((i : Int) + 1) = ((i + 1 : Nat) : Int) := by rw [w64 (by omega) (by omega)]; rfl
    simp [runM_nil, runM_n, runM_t, runM_f, runM_s, runK, pev, ptake, putSt, arg, argT, takeAt, lend, lendL, thenP, inBlockP, binP, binBP, intP, unP, lenP, fadP, ldP, iadP, fldP, extP, extTake, sliP, optN, appP, emptyOr, cvSP, cvMP, cvIP, hget, hset, partP, cellsOf, callArgs, callTake, fillP, partsOf, elemParts, elemsOf, chunk, PV.isCell, mmP, eqSP, eqCells, planM_nil, planM_n, planM_t, planM_f, planM_s, planK, keepL_MS, keepA, MS_getD, MS_get, MS_set, getS, idxA, bxP, nckP, idxP, slsP, mkP, tbV, hik]
    refine hK _ _ (ifT (by simp [runM_nil, runM_n, runM_t, runM_f, runM_s, runK, pev, ptake, putSt, arg, argT, takeAt, lend, lendL, thenP, inBlockP, binP, binBP, intP, unP, lenP, fadP, ldP, iadP, fldP, extP, extTake, sliP, optN, appP, emptyOr, cvSP, cvMP, cvIP, hget, hset, partP, cellsOf, callArgs, callTake, fillP, partsOf, elemParts, elemsOf, chunk, PV.isCell, mmP, eqSP, eqCells, planM_nil, planM_n, planM_t, planM_f, planM_s, planK, keepL_MS, keepA, MS_getD, MS_get, MS_set, getS, idxA, bxP, nckP, idxP, slsP, mkP]) (pwp_skip (pwp_seq (pwp_block (pwp_rifE fun K hK => ?_)))))
    have hgx : t.l[i]? = some t.l[i] := List.getElem?_eq_getElem hik
    have no : ∀ st', argT st' (.t 22) = .bool true → keepL [1] 0 st' = MS 23 [(1, .ip 3 [tbV t] 0 0)] → fewT t = false → K st' H2 := by
      intro st' e1 e2 e3
      refine hK _ _ (ifT e1 (pwp_keep [1] ?_))
      rw [e2]
      refine pwp_sr fun K hK => ?_
      simp [runM_nil, runM_n, runM_t, runM_f, runM_s, runK, pev, ptake, putSt, arg, argT, takeAt, lend, lendL, thenP, inBlockP, binP, binBP, intP, unP, lenP, fadP, ldP, iadP, fldP, extP, extTake, sliP, optN, appP, emptyOr, cvSP, cvMP, cvIP, hget, hset, partP, cellsOf, callArgs, callTake, fillP, partsOf, elemParts, elemsOf, chunk, PV.isCell, mmP, eqSP, eqCells, planM_nil, planM_n, planM_t, planM_f, planM_s, planK, keepL_MS, keepA, MS_getD, MS_get, MS_set, getS, idxA, bxP, nckP, idxP, slsP, mkP]
      refine hK _ _ (pwp_ret ⟨.inr rfl, _, _, (by simp [runM_nil, runM_n, runM_t, runM_f, runM_s, runK, pev, ptake, putSt, arg, argT, takeAt, lend, lendL, thenP, inBlockP, binP, binBP, intP, unP, lenP, fadP, ldP, iadP, fldP, extP, extTake, sliP, optN, appP, emptyOr, cvSP, cvMP, cvIP, hget, hset, partP, cellsOf, callArgs, callTake, fillP, partsOf, elemParts, elemsOf, chunk, PV.isCell, mmP, eqSP, eqCells, planM_nil, planM_n, planM_t, planM_f, planM_s, planK, keepL_MS, keepA, MS_getD, MS_get, MS_set, getS, idxA, bxP, nckP, idxP, slsP, mkP, resL]; rfl), .refl _, by simp [resV, e3], rfl⟩)
    by_cases h50 : i = 50
    · subst h50
      simp [runM_nil, runM_n, runM_t, runM_f, runM_s, runK, pev, ptake, putSt, arg, argT, takeAt, lend, lendL, thenP, inBlockP, binP, binBP, intP, unP, lenP, fadP, ldP, iadP, fldP, extP, extTake, sliP, optN, appP, emptyOr, cvSP, cvMP, cvIP, hget, hset, partP, cellsOf, callArgs, callTake, fillP, partsOf, elemParts, elemsOf, chunk, PV.isCell, mmP, eqSP, eqCells, planM_nil, planM_n, planM_t, planM_f, planM_s, planK, keepL_MS, keepA, MS_getD, MS_get, MS_set, getS, idxA, bxP, nckP, idxP, slsP, mkP]
      exact no _ (by simp [runM_nil, runM_n, runM_t, runM_f, runM_s, runK, pev, ptake, putSt, arg, argT, takeAt, lend, lendL, thenP, inBlockP, binP, binBP, intP, unP, lenP, fadP, ldP, iadP, fldP, extP, extTake, sliP, optN, appP, emptyOr, cvSP, cvMP, cvIP, hget, hset, partP, cellsOf, callArgs, callTake, fillP, partsOf, elemParts, elemsOf, chunk, PV.isCell, mmP, eqSP, eqCells, planM_nil, planM_n, planM_t, planM_f, planM_s, planK, keepL_MS, keepA, MS_getD, MS_get, MS_set, getS, idxA, bxP, nckP, idxP, slsP, mkP]) (by simp [keepL_MS, keepA, getS, tbV]) (by simp [fewT]; omega)
    · have h50' : ¬ ((i : Int) = 50) := by omega
      by_cases hb : 50 < t.l[i].tr.length
      · have hb' : (50 : Int) < t.l[i].tr.length := by omega
        simp [runM_nil, runM_n, runM_t, runM_f, runM_s, runK, pev, ptake, putSt, arg, argT, takeAt, lend, lendL, thenP, inBlockP, binP, binBP, intP, unP, lenP, fadP, ldP, iadP, fldP, extP, extTake, sliP, optN, appP, emptyOr, cvSP, cvMP, cvIP, hget, hset, partP, cellsOf, callArgs, callTake, fillP, partsOf, elemParts, elemsOf, chunk, PV.isCell, mmP, eqSP, eqCells, planM_nil, planM_n, planM_t, planM_f, planM_s, planK, keepL_MS, keepA, MS_getD, MS_get, MS_set, getS, idxA, bxP, nckP, idxP, slsP, mkP, h50', hik, tkV, hb']
        refine no _ (by simp [runM_nil, runM_n, runM_t, runM_f, runM_s, runK, pev, ptake, putSt, arg, argT, takeAt, lend, lendL, thenP, inBlockP, binP, binBP, intP, unP, lenP, fadP, ldP, iadP, fldP, extP, extTake, sliP, optN, appP, emptyOr, cvSP, cvMP, cvIP, hget, hset, partP, cellsOf, callArgs, callTake, fillP, partsOf, elemParts, elemsOf, chunk, PV.isCell, mmP, eqSP, eqCells, planM_nil, planM_n, planM_t, planM_f, planM_s, planK, keepL_MS, keepA, MS_getD, MS_get, MS_set, getS, idxA, bxP, nckP, idxP, slsP, mkP, hb']) (by simp [keepL_MS, keepA, getS, tbV]) ?_
        simp only [fewT, Bool.and_eq_false_iff, List.all_eq_false]
        exact .inr ⟨t.l[i], List.getElem_mem hik, by simp; omega⟩
      · have hb' : ¬ (50 : Int) < t.l[i].tr.length := by omega
        simp [runM_nil, runM_n, runM_t, runM_f, runM_s, runK, pev, ptake, putSt, arg, argT, takeAt, lend, lendL, thenP, inBlockP, binP, binBP, intP, unP, lenP, fadP, ldP, iadP, fldP, extP, extTake, sliP, optN, appP, emptyOr, cvSP, cvMP, cvIP, hget, hset, partP, cellsOf, callArgs, callTake, fillP, partsOf, elemParts, elemsOf, chunk, PV.isCell, mmP, eqSP, eqCells, planM_nil, planM_n, planM_t, planM_f, planM_s, planK, keepL_MS, keepA, MS_getD, MS_get, MS_set, getS, idxA, bxP, nckP, idxP, slsP, mkP, h50', hik, tkV, hb']
        refine hK _ _ (ifF (by simp [runM_nil, runM_n, runM_t, runM_f, runM_s, runK, pev, ptake, putSt, arg, argT, takeAt, lend, lendL, thenP, inBlockP, binP, binBP, intP, unP, lenP, fadP, ldP, iadP, fldP, extP, extTake, sliP, optN, appP, emptyOr, cvSP, cvMP, cvIP, hget, hset, partP, cellsOf, callArgs, callTake, fillP, partsOf, elemParts, elemsOf, chunk, PV.isCell, mmP, eqSP, eqCells, planM_nil, planM_n, planM_t, planM_f, planM_s, planK, keepL_MS, keepA, MS_getD, MS_get, MS_set, getS, idxA, bxP, nckP, idxP, slsP, mkP, hb']) (pwp_skip (pwp_regionM fun K hK => ?_)))
        simp [runM_nil, runM_n, runM_t, runM_f, runM_s, runK, pev, ptake, putSt, arg, argT, takeAt, lend, lendL, thenP, inBlockP, binP, binBP, intP, unP, lenP, fadP, ldP, iadP, fldP, extP, extTake, sliP, optN, appP, emptyOr, cvSP, cvMP, cvIP, hget, hset, partP, cellsOf, callArgs, callTake, fillP, partsOf, elemParts, elemsOf, chunk, PV.isCell, mmP, eqSP, eqCells, planM_nil, planM_n, planM_t, planM_f, planM_s, planK, keepL_MS, keepA, MS_getD, MS_get, MS_set, getS, idxA, bxP, nckP, idxP, slsP, mkP, hw]
        refine hK _ _ ⟨t.l.length - (i + 1), by omega, _, _, keep_up (l' := [(1, .ip 3 [tbV t] 0 0), (3, .int .i64 (i + 1 : Nat))]) (by simp [keepA, UpA, Up_refl, UpL_refl, Up_lst, Up_agg, Up_tup, UpL_cons, getS, tbV]), List.Sublist.refl _, i + 1, by omega, by omega, rfl, rfl, fun j hj hj2 => ?_, rfl⟩
        rcases Nat.lt_or_ge j i with h | h
        · exact hle j h hj2
        · obtain rfl : j = i := by omega
          omega
  · simp [runM_nil, runM_n, runM_t, runM_f, runM_s, runK, pev, ptake, putSt, arg, argT, takeAt, lend, lendL, thenP, inBlockP, binP, binBP, intP, unP, lenP, fadP, ldP, iadP, fldP, extP, extTake, sliP, optN, appP, emptyOr, cvSP, cvMP, cvIP, hget, hset, partP, cellsOf, callArgs, callTake, fillP, partsOf, elemParts, elemsOf, chunk, PV.isCell, mmP, eqSP, eqCells, planM_nil, planM_n, planM_t, planM_f, planM_s, planK, keepL_MS, keepA, MS_getD, MS_get, MS_set, getS, idxA, bxP, nckP, idxP, slsP, mkP, tbV, hik]
    refine hK _ _ (ifF (by simp [runM_nil, runM_n, runM_t, runM_f, runM_s, runK, pev, ptake, putSt, arg, argT, takeAt, lend, lendL, thenP, inBlockP, binP, binBP, intP, unP, lenP, fadP, ldP, iadP, fldP, extP, extTake, sliP, optN, appP, emptyOr, cvSP, cvMP, cvIP, hget, hset, partP, cellsOf, callArgs, callTake, fillP, partsOf, elemParts, elemsOf, chunk, PV.isCell, mmP, eqSP, eqCells, planM_nil, planM_n, planM_t, planM_f, planM_s, planK, keepL_MS, keepA, MS_getD, MS_get, MS_set, getS, idxA, bxP, nckP, idxP, slsP, mkP]) (pwp_exit (pwp_sr fun K hK => ?_)))
    simp [runM_nil, runM_n, runM_t, runM_f, runM_s, runK, pev, ptake, putSt, arg, argT, takeAt, lend, lendL, thenP, inBlockP, binP, binBP, intP, unP, lenP, fadP, ldP, iadP, fldP, extP, extTake, sliP, optN, appP, emptyOr, cvSP, cvMP, cvIP, hget, hset, partP, cellsOf, callArgs, callTake, fillP, partsOf, elemParts, elemsOf, chunk, PV.isCell, mmP, eqSP, eqCells, planM_nil, planM_n, planM_t, planM_f, planM_s, planK, keepL_MS, keepA, MS_getD, MS_get, MS_set, getS, idxA, bxP, nckP, idxP, slsP, mkP]
    refine hK _ _ (pwp_ret ⟨.inr rfl, _, _, (by simp [runM_nil, runM_n, runM_t, runM_f, runM_s, runK, pev, ptake, putSt, arg, argT, takeAt, lend, lendL, thenP, inBlockP, binP, binBP, intP, unP, lenP, fadP, ldP, iadP, fldP, extP, extTake, sliP, optN, appP, emptyOr, cvSP, cvMP, cvIP, hget, hset, partP, cellsOf, callArgs, callTake, fillP, partsOf, elemParts, elemsOf, chunk, PV.isCell, mmP, eqSP, eqCells, planM_nil, planM_n, planM_t, planM_f, planM_s, planK, keepL_MS, keepA, MS_getD, MS_get, MS_set, getS, idxA, bxP, nckP, idxP, slsP, mkP, resL]; rfl), .refl _, ?_, rfl⟩)
    have : fewT t = true := by
      simp only [fewT, Bool.and_eq_true, decide_eq_true_eq, List.all_eq_true]
      refine ⟨by omega, fun k hk => ?_⟩
      obtain ⟨j, hj, rfl⟩ := List.getElem_of_mem hk
      exact hle j (by omega) hj
    simp [resV, this]
def okB (x : Tr) : Bool := decide (0 ≤ x.b) && decide (x.b ≤ 1000000000)
def timedT (t : Tb) : Bool := t.l.all fun k => k.tr.all okB
theorem all_take_succ {α : Type} {p : α → Bool} {l : List α} {i : Nat} (h : (l.take i).all p = true) (hi : i < l.length) (hp : p l[i] = true) : (l.take (i + 1)).all p = true := by
  rw [List.take_succ_eq_append_getElem hi, List.all_append, h]
  simp [hp]
theorem all_false {α : Type} {p : α → Bool} {l : List α} {i : Nat} (hi : i < l.length) (hp : p l[i] = false) : l.all p = false := by
  rw [List.all_eq_false]
  exact ⟨_, List.getElem_mem hi, by rw [hp]; simp⟩
set_option maxRecDepth 4000 in
theorem timed_ok (t : Tb) (hs : Fits t) : PSpec Try.prog 7 [tbV t] (.bool (timedT t)) := by
  intro H
  have hsl := hs.l
  refine spec_of t7 (by simp [p7]) ?_
  simp only [p7]
  refine pwp_sr fun K hK => ?_
  simp [runM_nil, runM_n, runM_t, runM_f, runM_s, runK, pev, ptake, putSt, arg, argT, takeAt, lend, lendL, thenP, inBlockP, binP, binBP, intP, unP, lenP, fadP, ldP, iadP, fldP, extP, extTake, sliP, optN, appP, emptyOr, cvSP, cvMP, cvIP, hget, hset, partP, cellsOf, callArgs, callTake, fillP, partsOf, elemParts, elemsOf, chunk, PV.isCell, mmP, eqSP, eqCells, planM_nil, planM_n, planM_t, planM_f, planM_s, planK, keepL_MS, keepA, MS_getD, MS_get, MS_set, getS, idxA, bxP, nckP, idxP, slsP, mkP, tbV]
  refine hK _ _ (pwp_seq (pwp_sr fun K hK => ?_))
  simp [runM_nil, runM_n, runM_t, runM_f, runM_s, runK, pev, ptake, putSt, arg, argT, takeAt, lend, lendL, thenP, inBlockP, binP, binBP, intP, unP, lenP, fadP, ldP, iadP, fldP, extP, extTake, sliP, optN, appP, emptyOr, cvSP, cvMP, cvIP, hget, hset, partP, cellsOf, callArgs, callTake, fillP, partsOf, elemParts, elemsOf, chunk, PV.isCell, mmP, eqSP, eqCells, planM_nil, planM_n, planM_t, planM_f, planM_s, planK, keepL_MS, keepA, MS_getD, MS_get, MS_set, getS, idxA, bxP, nckP, idxP, slsP, mkP]
  refine hK _ _ (pwp_block ?_)
  clear hK
  refine pwp_loopU [1, 3] (fun m st H' => ∃ i, i ≤ t.l.length ∧ m = t.l.length - i ∧ H' = H ∧ (t.l.take i).all (fun k => k.tr.all okB) = true ∧ st = MS 47 [(1, .ip 3 [tbV t] 0 0), (3, .int .i64 i)]) (n := t.l.length)
    ⟨_, H, keep_up (l' := [(1, .ip 3 [tbV t] 0 0), (3, .int .i64 0)]) (by simp [keepA, UpA, Up_refl, UpL_refl, Up_lst, Up_agg, Up_tup, UpL_cons, getS, tbV]), List.Sublist.refl _, 0, Nat.zero_le _, rfl, rfl, by simp, rfl⟩ ?_
  rintro m st H2 ⟨i, hi, rfl, rfl, hle, rfl⟩
  refine pwp_rif fun K hK => ?_
  by_cases hik : i < t.l.length
  · have hw : IntKind.i64.wrap ((i : Int) + 1) = ((i + 1 : Nat) : Int) := by rw [w64 (by omega) (by omega)]; rfl
    simp [runM_nil, runM_n, runM_t, runM_f, runM_s, runK, pev, ptake, putSt, arg, argT, takeAt, lend, lendL, thenP, inBlockP, binP, binBP, intP, unP, lenP, fadP, ldP, iadP, fldP, extP, extTake, sliP, optN, appP, emptyOr, cvSP, cvMP, cvIP, hget, hset, partP, cellsOf, callArgs, callTake, fillP, partsOf, elemParts, elemsOf, chunk, PV.isCell, mmP, eqSP, eqCells, planM_nil, planM_n, planM_t, planM_f, planM_s, planK, keepL_MS, keepA, MS_getD, MS_get, MS_set, getS, idxA, bxP, nckP, idxP, slsP, mkP, tbV, hik]
    refine hK _ _ (ifT (by simp [runM_nil, runM_n, runM_t, runM_f, runM_s, runK, pev, ptake, putSt, arg, argT, takeAt, lend, lendL, thenP, inBlockP, binP, binBP, intP, unP, lenP, fadP, ldP, iadP, fldP, extP, extTake, sliP, optN, appP, emptyOr, cvSP, cvMP, cvIP, hget, hset, partP, cellsOf, callArgs, callTake, fillP, partsOf, elemParts, elemsOf, chunk, PV.isCell, mmP, eqSP, eqCells, planM_nil, planM_n, planM_t, planM_f, planM_s, planK, keepL_MS, keepA, MS_getD, MS_get, MS_set, getS, idxA, bxP, nckP, idxP, slsP, mkP]) (pwp_skip (pwp_seq (pwp_block (pwp_sr fun K hK => ?_)))))
    have hgx : t.l[i]? = some t.l[i] := List.getElem?_eq_getElem hik
    have hks := hs.tr _ (List.getElem_mem hik)
    have hno : t.l[i].tr.all okB = false → timedT t = false := fun h => all_false hik h
    have hyes : t.l[i].tr.all okB = true → (t.l.take (i + 1)).all (fun k => k.tr.all okB) = true := fun h => all_take_succ hle hik h
    generalize hkk : t.l[i] = k at *
    simp [runM_nil, runM_n, runM_t, runM_f, runM_s, runK, pev, ptake, putSt, arg, argT, takeAt, lend, lendL, thenP, inBlockP, binP, binBP, intP, unP, lenP, fadP, ldP, iadP, fldP, extP, extTake, sliP, optN, appP, emptyOr, cvSP, cvMP, cvIP, hget, hset, partP, cellsOf, callArgs, callTake, fillP, partsOf, elemParts, elemsOf, chunk, PV.isCell, mmP, eqSP, eqCells, planM_nil, planM_n, planM_t, planM_f, planM_s, planK, keepL_MS, keepA, MS_getD, MS_get, MS_set, getS, idxA, bxP, nckP, idxP, slsP, mkP]
    refine hK _ _ (pwp_block ?_)
    clear hK
    refine pwp_loopU [1, 3, 4] (fun m st H3 => ∃ j, j ≤ k.tr.length ∧ m = k.tr.length - j ∧ H3 = H2 ∧ (k.tr.take j).all okB = true ∧ st = MS 47 [(1, .ip 3 [tbV t] 0 0), (3, .int .i64 i), (4, .int .i64 j)]) (n := k.tr.length)
      ⟨_, H2, keep_up (l' := [(1, .ip 3 [tbV t] 0 0), (3, .int .i64 i), (4, .int .i64 0)]) (by simp [keepA, UpA, Up_refl, UpL_refl, Up_lst, Up_agg, Up_tup, UpL_cons, getS, tbV]), List.Sublist.refl _, 0, Nat.zero_le _, rfl, rfl, by simp, rfl⟩ ?_
    rintro m st H3 ⟨j, hj, rfl, rfl, hle2, rfl⟩
    refine pwp_rif fun K hK => ?_
    by_cases hjk : j < k.tr.length
    · have hw2 : IntKind.i64.wrap ((j : Int) + 1) = ((j + 1 : Nat) : Int) := by rw [w64 (by omega) (by omega)]; rfl
      simp [runM_nil, runM_n, runM_t, runM_f, runM_s, runK, pev, ptake, putSt, arg, argT, takeAt, lend, lendL, thenP, inBlockP, binP, binBP, intP, unP, lenP, fadP, ldP, iadP, fldP, extP, extTake, sliP, optN, appP, emptyOr, cvSP, cvMP, cvIP, hget, hset, partP, cellsOf, callArgs, callTake, fillP, partsOf, elemParts, elemsOf, chunk, PV.isCell, mmP, eqSP, eqCells, planM_nil, planM_n, planM_t, planM_f, planM_s, planK, keepL_MS, keepA, MS_getD, MS_get, MS_set, getS, idxA, bxP, nckP, idxP, slsP, mkP, tbV, hik, hkk, tkV, hjk]
      refine hK _ _ (ifT (by simp [runM_nil, runM_n, runM_t, runM_f, runM_s, runK, pev, ptake, putSt, arg, argT, takeAt, lend, lendL, thenP, inBlockP, binP, binBP, intP, unP, lenP, fadP, ldP, iadP, fldP, extP, extTake, sliP, optN, appP, emptyOr, cvSP, cvMP, cvIP, hget, hset, partP, cellsOf, callArgs, callTake, fillP, partsOf, elemParts, elemsOf, chunk, PV.isCell, mmP, eqSP, eqCells, planM_nil, planM_n, planM_t, planM_f, planM_s, planK, keepL_MS, keepA, MS_getD, MS_get, MS_set, getS, idxA, bxP, nckP, idxP, slsP, mkP]) (pwp_skip (pwp_seq (pwp_block (pwp_rifE fun K hK => ?_)))))
      have hgy : k.tr[j]? = some k.tr[j] := List.getElem?_eq_getElem hjk
      have hno2 : okB k.tr[j] = false → timedT t = false := fun h => hno (all_false hjk h)
      have hyes2 : okB k.tr[j] = true → (k.tr.take (j + 1)).all okB = true := fun h => all_take_succ hle2 hjk h
      generalize hxx : k.tr[j] = x at *
      have no : ∀ st', argT st' (.t 46) = .bool true → keepL [1] 0 st' = MS 47 [(1, .ip 3 [tbV t] 0 0)] → timedT t = false → K st' H3 := by
        intro st' e1 e2 e3
        refine hK _ _ (ifT e1 (pwp_keep [1] ?_))
        rw [e2]
        refine pwp_sr fun K hK => ?_
        simp [runM_nil, runM_n, runM_t, runM_f, runM_s, runK, pev, ptake, putSt, arg, argT, takeAt, lend, lendL, thenP, inBlockP, binP, binBP, intP, unP, lenP, fadP, ldP, iadP, fldP, extP, extTake, sliP, optN, appP, emptyOr, cvSP, cvMP, cvIP, hget, hset, partP, cellsOf, callArgs, callTake, fillP, partsOf, elemParts, elemsOf, chunk, PV.isCell, mmP, eqSP, eqCells, planM_nil, planM_n, planM_t, planM_f, planM_s, planK, keepL_MS, keepA, MS_getD, MS_get, MS_set, getS, idxA, bxP, nckP, idxP, slsP, mkP]
        refine hK _ _ (pwp_ret ⟨.inr rfl, _, _, (by simp [runM_nil, runM_n, runM_t, runM_f, runM_s, runK, pev, ptake, putSt, arg, argT, takeAt, lend, lendL, thenP, inBlockP, binP, binBP, intP, unP, lenP, fadP, ldP, iadP, fldP, extP, extTake, sliP, optN, appP, emptyOr, cvSP, cvMP, cvIP, hget, hset, partP, cellsOf, callArgs, callTake, fillP, partsOf, elemParts, elemsOf, chunk, PV.isCell, mmP, eqSP, eqCells, planM_nil, planM_n, planM_t, planM_f, planM_s, planK, keepL_MS, keepA, MS_getD, MS_get, MS_set, getS, idxA, bxP, nckP, idxP, slsP, mkP, resL]; rfl), .refl _, by simp [resV, e3], rfl⟩)
      by_cases h1 : x.b < 0
      · simp [runM_nil, runM_n, runM_t, runM_f, runM_s, runK, pev, ptake, putSt, arg, argT, takeAt, lend, lendL, thenP, inBlockP, binP, binBP, intP, unP, lenP, fadP, ldP, iadP, fldP, extP, extTake, sliP, optN, appP, emptyOr, cvSP, cvMP, cvIP, hget, hset, partP, cellsOf, callArgs, callTake, fillP, partsOf, elemParts, elemsOf, chunk, PV.isCell, mmP, eqSP, eqCells, planM_nil, planM_n, planM_t, planM_f, planM_s, planK, keepL_MS, keepA, MS_getD, MS_get, MS_set, getS, idxA, bxP, nckP, idxP, slsP, mkP, hik, hkk, tkV, hjk, hxx, trV, h1]
        exact no _ (by simp [runM_nil, runM_n, runM_t, runM_f, runM_s, runK, pev, ptake, putSt, arg, argT, takeAt, lend, lendL, thenP, inBlockP, binP, binBP, intP, unP, lenP, fadP, ldP, iadP, fldP, extP, extTake, sliP, optN, appP, emptyOr, cvSP, cvMP, cvIP, hget, hset, partP, cellsOf, callArgs, callTake, fillP, partsOf, elemParts, elemsOf, chunk, PV.isCell, mmP, eqSP, eqCells, planM_nil, planM_n, planM_t, planM_f, planM_s, planK, keepL_MS, keepA, MS_getD, MS_get, MS_set, getS, idxA, bxP, nckP, idxP, slsP, mkP]) (by simp [keepL_MS, keepA, getS, tbV]) (hno2 (by simp [okB, Int.not_le.2 h1]))
      · by_cases h2 : 1000000000 < x.b
        · simp [runM_nil, runM_n, runM_t, runM_f, runM_s, runK, pev, ptake, putSt, arg, argT, takeAt, lend, lendL, thenP, inBlockP, binP, binBP, intP, unP, lenP, fadP, ldP, iadP, fldP, extP, extTake, sliP, optN, appP, emptyOr, cvSP, cvMP, cvIP, hget, hset, partP, cellsOf, callArgs, callTake, fillP, partsOf, elemParts, elemsOf, chunk, PV.isCell, mmP, eqSP, eqCells, planM_nil, planM_n, planM_t, planM_f, planM_s, planK, keepL_MS, keepA, MS_getD, MS_get, MS_set, getS, idxA, bxP, nckP, idxP, slsP, mkP, hik, hkk, tkV, hjk, hxx, trV, h1, h2]
          exact no _ (by simp [runM_nil, runM_n, runM_t, runM_f, runM_s, runK, pev, ptake, putSt, arg, argT, takeAt, lend, lendL, thenP, inBlockP, binP, binBP, intP, unP, lenP, fadP, ldP, iadP, fldP, extP, extTake, sliP, optN, appP, emptyOr, cvSP, cvMP, cvIP, hget, hset, partP, cellsOf, callArgs, callTake, fillP, partsOf, elemParts, elemsOf, chunk, PV.isCell, mmP, eqSP, eqCells, planM_nil, planM_n, planM_t, planM_f, planM_s, planK, keepL_MS, keepA, MS_getD, MS_get, MS_set, getS, idxA, bxP, nckP, idxP, slsP, mkP]) (by simp [keepL_MS, keepA, getS, tbV]) (hno2 (by simp [okB, Int.not_le.2 h2]))
        · simp [runM_nil, runM_n, runM_t, runM_f, runM_s, runK, pev, ptake, putSt, arg, argT, takeAt, lend, lendL, thenP, inBlockP, binP, binBP, intP, unP, lenP, fadP, ldP, iadP, fldP, extP, extTake, sliP, optN, appP, emptyOr, cvSP, cvMP, cvIP, hget, hset, partP, cellsOf, callArgs, callTake, fillP, partsOf, elemParts, elemsOf, chunk, PV.isCell, mmP, eqSP, eqCells, planM_nil, planM_n, planM_t, planM_f, planM_s, planK, keepL_MS, keepA, MS_getD, MS_get, MS_set, getS, idxA, bxP, nckP, idxP, slsP, mkP, hik, hkk, tkV, hjk, hxx, trV, h1, h2]
          refine hK _ _ (ifF (by simp [runM_nil, runM_n, runM_t, runM_f, runM_s, runK, pev, ptake, putSt, arg, argT, takeAt, lend, lendL, thenP, inBlockP, binP, binBP, intP, unP, lenP, fadP, ldP, iadP, fldP, extP, extTake, sliP, optN, appP, emptyOr, cvSP, cvMP, cvIP, hget, hset, partP, cellsOf, callArgs, callTake, fillP, partsOf, elemParts, elemsOf, chunk, PV.isCell, mmP, eqSP, eqCells, planM_nil, planM_n, planM_t, planM_f, planM_s, planK, keepL_MS, keepA, MS_getD, MS_get, MS_set, getS, idxA, bxP, nckP, idxP, slsP, mkP]) (pwp_skip (pwp_regionM fun K hK => ?_)))
          simp [runM_nil, runM_n, runM_t, runM_f, runM_s, runK, pev, ptake, putSt, arg, argT, takeAt, lend, lendL, thenP, inBlockP, binP, binBP, intP, unP, lenP, fadP, ldP, iadP, fldP, extP, extTake, sliP, optN, appP, emptyOr, cvSP, cvMP, cvIP, hget, hset, partP, cellsOf, callArgs, callTake, fillP, partsOf, elemParts, elemsOf, chunk, PV.isCell, mmP, eqSP, eqCells, planM_nil, planM_n, planM_t, planM_f, planM_s, planK, keepL_MS, keepA, MS_getD, MS_get, MS_set, getS, idxA, bxP, nckP, idxP, slsP, mkP, hw2]
          exact hK _ _ ⟨k.tr.length - (j + 1), by omega, _, _, keep_up (l' := [(1, .ip 3 [tbV t] 0 0), (3, .int .i64 i), (4, .int .i64 (j + 1 : Nat))]) (by simp [keepA, UpA, Up_refl, UpL_refl, Up_lst, Up_agg, Up_tup, UpL_cons, getS, tbV]), List.Sublist.refl _, j + 1, by omega, rfl, rfl, hyes2 (by simp [okB, Int.not_lt.1 h1, Int.not_lt.1 h2]), rfl⟩
    · simp [runM_nil, runM_n, runM_t, runM_f, runM_s, runK, pev, ptake, putSt, arg, argT, takeAt, lend, lendL, thenP, inBlockP, binP, binBP, intP, unP, lenP, fadP, ldP, iadP, fldP, extP, extTake, sliP, optN, appP, emptyOr, cvSP, cvMP, cvIP, hget, hset, partP, cellsOf, callArgs, callTake, fillP, partsOf, elemParts, elemsOf, chunk, PV.isCell, mmP, eqSP, eqCells, planM_nil, planM_n, planM_t, planM_f, planM_s, planK, keepL_MS, keepA, MS_getD, MS_get, MS_set, getS, idxA, bxP, nckP, idxP, slsP, mkP, tbV, hik, hkk, tkV, hjk]
      refine hK _ _ (ifF (by simp [runM_nil, runM_n, runM_t, runM_f, runM_s, runK, pev, ptake, putSt, arg, argT, takeAt, lend, lendL, thenP, inBlockP, binP, binBP, intP, unP, lenP, fadP, ldP, iadP, fldP, extP, extTake, sliP, optN, appP, emptyOr, cvSP, cvMP, cvIP, hget, hset, partP, cellsOf, callArgs, callTake, fillP, partsOf, elemParts, elemsOf, chunk, PV.isCell, mmP, eqSP, eqCells, planM_nil, planM_n, planM_t, planM_f, planM_s, planK, keepL_MS, keepA, MS_getD, MS_get, MS_set, getS, idxA, bxP, nckP, idxP, slsP, mkP]) (pwp_exit ?_))
      have hjl : j = k.tr.length := by omega
      subst hjl
      rw [List.take_length] at hle2
      refine pwp_regionM fun K hK => ?_
      simp [runM_nil, runM_n, runM_t, runM_f, runM_s, runK, pev, ptake, putSt, arg, argT, takeAt, lend, lendL, thenP, inBlockP, binP, binBP, intP, unP, lenP, fadP, ldP, iadP, fldP, extP, extTake, sliP, optN, appP, emptyOr, cvSP, cvMP, cvIP, hget, hset, partP, cellsOf, callArgs, callTake, fillP, partsOf, elemParts, elemsOf, chunk, PV.isCell, mmP, eqSP, eqCells, planM_nil, planM_n, planM_t, planM_f, planM_s, planK, keepL_MS, keepA, MS_getD, MS_get, MS_set, getS, idxA, bxP, nckP, idxP, slsP, mkP, hw]
      exact hK _ _ ⟨t.l.length - (i + 1), by omega, _, _, keep_up (l' := [(1, .ip 3 [tbV t] 0 0), (3, .int .i64 (i + 1 : Nat))]) (by simp [keepA, UpA, Up_refl, UpL_refl, Up_lst, Up_agg, Up_tup, UpL_cons, getS, tbV]), List.Sublist.refl _, i + 1, by omega, rfl, rfl, hyes hle2, rfl⟩
  · simp [runM_nil, runM_n, runM_t, runM_f, runM_s, runK, pev, ptake, putSt, arg, argT, takeAt, lend, lendL, thenP, inBlockP, binP, binBP, intP, unP, lenP, fadP, ldP, iadP, fldP, extP, extTake, sliP, optN, appP, emptyOr, cvSP, cvMP, cvIP, hget, hset, partP, cellsOf, callArgs, callTake, fillP, partsOf, elemParts, elemsOf, chunk, PV.isCell, mmP, eqSP, eqCells, planM_nil, planM_n, planM_t, planM_f, planM_s, planK, keepL_MS, keepA, MS_getD, MS_get, MS_set, getS, idxA, bxP, nckP, idxP, slsP, mkP, tbV, hik]
    refine hK _ _ (ifF (by simp [runM_nil, runM_n, runM_t, runM_f, runM_s, runK, pev, ptake, putSt, arg, argT, takeAt, lend, lendL, thenP, inBlockP, binP, binBP, intP, unP, lenP, fadP, ldP, iadP, fldP, extP, extTake, sliP, optN, appP, emptyOr, cvSP, cvMP, cvIP, hget, hset, partP, cellsOf, callArgs, callTake, fillP, partsOf, elemParts, elemsOf, chunk, PV.isCell, mmP, eqSP, eqCells, planM_nil, planM_n, planM_t, planM_f, planM_s, planK, keepL_MS, keepA, MS_getD, MS_get, MS_set, getS, idxA, bxP, nckP, idxP, slsP, mkP]) (pwp_exit (pwp_sr fun K hK => ?_)))
    simp [runM_nil, runM_n, runM_t, runM_f, runM_s, runK, pev, ptake, putSt, arg, argT, takeAt, lend, lendL, thenP, inBlockP, binP, binBP, intP, unP, lenP, fadP, ldP, iadP, fldP, extP, extTake, sliP, optN, appP, emptyOr, cvSP, cvMP, cvIP, hget, hset, partP, cellsOf, callArgs, callTake, fillP, partsOf, elemParts, elemsOf, chunk, PV.isCell, mmP, eqSP, eqCells, planM_nil, planM_n, planM_t, planM_f, planM_s, planK, keepL_MS, keepA, MS_getD, MS_get, MS_set, getS, idxA, bxP, nckP, idxP, slsP, mkP]
    have hil : i = t.l.length := by omega
    rw [hil, List.take_length] at hle
    refine hK _ _ (pwp_ret ⟨.inr rfl, _, _, (by simp [runM_nil, runM_n, runM_t, runM_f, runM_s, runK, pev, ptake, putSt, arg, argT, takeAt, lend, lendL, thenP, inBlockP, binP, binBP, intP, unP, lenP, fadP, ldP, iadP, fldP, extP, extTake, sliP, optN, appP, emptyOr, cvSP, cvMP, cvIP, hget, hset, partP, cellsOf, callArgs, callTake, fillP, partsOf, elemParts, elemsOf, chunk, PV.isCell, mmP, eqSP, eqCells, planM_nil, planM_n, planM_t, planM_f, planM_s, planK, keepL_MS, keepA, MS_getD, MS_get, MS_set, getS, idxA, bxP, nckP, idxP, slsP, mkP, resL]; rfl), .refl _, by simp only [resV, timedT, hle], rfl⟩)
theorem small_ok (a b c d n : Int) : PSpec Try.prog 10 [.agg [.int .i64 a, .int .i64 b, .int .i64 c, .int .i64 d, .int .i64 n]] (.bool (decide (0 ≤ n) && decide (n ≤ 1000000000))) := by
  intro H
  refine spec_of t10 (by simp [p10]) ?_
  simp only [p10]
  refine pwp_sr fun K hK => ?_
  simp [runM_nil, runM_n, runM_t, runM_f, runM_s, runK, pev, ptake, putSt, arg, argT, takeAt, lend, lendL, thenP, inBlockP, binP, binBP, intP, unP, lenP, fadP, ldP, iadP, fldP, extP, extTake, sliP, optN, appP, emptyOr, cvSP, cvMP, cvIP, hget, hset, partP, cellsOf, callArgs, callTake, fillP, partsOf, elemParts, elemsOf, chunk, PV.isCell, mmP, eqSP, eqCells, planM_nil, planM_n, planM_t, planM_f, planM_s, planK, keepL_MS, keepA, MS_getD, MS_get, MS_set, getS, idxA, bxP, nckP, idxP, slsP, mkP]
  refine hK _ _ (pwp_sr fun K hK => ?_)
  by_cases h : 0 ≤ n
  all_goals
    simp [runM_nil, runM_n, runM_t, runM_f, runM_s, runK, pev, ptake, putSt, arg, argT, takeAt, lend, lendL, thenP, inBlockP, binP, binBP, intP, unP, lenP, fadP, ldP, iadP, fldP, extP, extTake, sliP, optN, appP, emptyOr, cvSP, cvMP, cvIP, hget, hset, partP, cellsOf, callArgs, callTake, fillP, partsOf, elemParts, elemsOf, chunk, PV.isCell, mmP, eqSP, eqCells, planM_nil, planM_n, planM_t, planM_f, planM_s, planK, keepL_MS, keepA, MS_getD, MS_get, MS_set, getS, idxA, bxP, nckP, idxP, slsP, mkP, h]
    refine hK _ _ (pwp_ret ?_)
    simp [runM_nil, runM_n, runM_t, runM_f, runM_s, runK, pev, ptake, putSt, arg, argT, takeAt, lend, lendL, thenP, inBlockP, binP, binBP, intP, unP, lenP, fadP, ldP, iadP, fldP, extP, extTake, sliP, optN, appP, emptyOr, cvSP, cvMP, cvIP, hget, hset, partP, cellsOf, callArgs, callTake, fillP, partsOf, elemParts, elemsOf, chunk, PV.isCell, mmP, eqSP, eqCells, planM_nil, planM_n, planM_t, planM_f, planM_s, planK, keepL_MS, keepA, MS_getD, MS_get, MS_set, getS, idxA, bxP, nckP, idxP, slsP, mkP, resL, resV, h]
end Go.Proofs.Ytkjibelcaeanjaa.E
