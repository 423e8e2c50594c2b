/- A table as the document's, on plain values. -/
import Derived.Test.YtkjibelcaeanjaaE37
import Derived.Test.YtkjibelcaeanjaaEL27
namespace Go.Proofs.Ytkjibelcaeanjaa.E
open Go Go.RowKit Go.Proofs
set_option linter.unusedVariables false
set_option linter.unusedSimpArgs false
set_option maxRecDepth 4000 in
theorem plain_ok (t : Tb) (hs : Small t) : PSpec Try.prog 9 [tbV t] (tbV t) := by
  intro H
  have hsl := hs.l
  refine spec_of t9p (by simp [p9p]) ?_
  simp only [p9p]
  refine pwp_sr fun K hK => ?_
  simp [runM_nil, runM_n, runM_t, runM_f, runM_s, runK, pev, ptake, putSt, arg, argT, takeAt, lend, lendL, thenP, inBlockP, binP, binBP, intP, unP, lenP, fadP, ldP, iadP, fldP, extP, extTake, sliP, optN, appP, emptyOr, cvSP, cvMP, cvIP, hget, hset, partP, cellsOf, callArgs, callTake, fillP, partsOf, elemParts, elemsOf, chunk, PV.isCell, mmP, eqSP, eqCells, planM_nil, planM_n, planM_t, planM_f, planM_s, planK, keepL_MS, keepA, MS_getD, MS_get, MS_set, getS, idxA, bxP, nckP, idxP, slsP, mkP, tbV]
  intro b2 h2
  refine hK _ _ (pwp_sr fun K hK => ?_)
  simp [runM_nil, runM_n, runM_t, runM_f, runM_s, runK, pev, ptake, putSt, arg, argT, takeAt, lend, lendL, thenP, inBlockP, binP, binBP, intP, unP, lenP, fadP, ldP, iadP, fldP, extP, extTake, sliP, optN, appP, emptyOr, cvSP, cvMP, cvIP, hget, hset, partP, cellsOf, callArgs, callTake, fillP, partsOf, elemParts, elemsOf, chunk, PV.isCell, mmP, eqSP, eqCells, planM_nil, planM_n, planM_t, planM_f, planM_s, planK, keepL_MS, keepA, MS_getD, MS_get, MS_set, getS, idxA, bxP, nckP, idxP, slsP, mkP]
  intro b3 h3
  obtain ⟨n23, h3⟩ := hget_cons_none.1 h3
  refine hK _ _ (pwp_seq (pwp_sr fun K hK => ?_))
  simp [runM_nil, runM_n, runM_t, runM_f, runM_s, runK, pev, ptake, putSt, arg, argT, takeAt, lend, lendL, thenP, inBlockP, binP, binBP, intP, unP, lenP, fadP, ldP, iadP, fldP, extP, extTake, sliP, optN, appP, emptyOr, cvSP, cvMP, cvIP, hget, hset, partP, cellsOf, callArgs, callTake, fillP, partsOf, elemParts, elemsOf, chunk, PV.isCell, mmP, eqSP, eqCells, planM_nil, planM_n, planM_t, planM_f, planM_s, planK, keepL_MS, keepA, MS_getD, MS_get, MS_set, getS, idxA, bxP, nckP, idxP, slsP, mkP]
  refine hK _ _ (pwp_block ?_)
  clear hK
  refine pwp_loopV [1, 2, 3, 4] (fun m st H' => ∃ i, i ≤ t.l.length ∧ m = t.l.length - i ∧ H' = (b3, [.int .i64 t.cap, .int .i64 t.tm, .lst 3 ((t.l.take i).map tkV) true]) :: (b2, [.int .i64 0, .int .i64 0, .lst 0 [] true]) :: H ∧
      st = MS 72 [(1, .ip 3 [tbV t] 0 0), (2, .ptr (some (b2, 0))), (3, .ptr (some (b3, 0))), (4, .int .i64 i)]) (n := t.l.length)
    ⟨_, _, _, keep_up (l' := [(1, .ip 3 [tbV t] 0 0), (2, .ptr (some (b2, 0))), (3, .ptr (some (b3, 0))), (4, .int .i64 0)]) (by simp [keepA, UpA, Up_refl, UpL_refl, Up_lst, Up_agg, Up_tup, UpL_cons, getS, tbV]), List.Sublist.refl _, ?_, 0, Nat.zero_le _, rfl, rfl, rfl⟩ ?_
  · simp [HUp, HUp_refl, keepA, UpA, Up_refl, UpL_refl, Up_lst, Up_agg, Up_tup, UpL_cons, getS]
  rintro m st H2 ⟨i, hi, rfl, rfl, rfl⟩
  refine pwp_rif fun K hK => ?_
  by_cases hik : i < t.l.length
  · have hw : IntKind.i64.wrap ((i : Int) + 1) = ((i + 1 : Nat) : Int) := by rw [w64 (by omega) (by omega)]; rfl
    have hgx : t.l[i]? = some t.l[i] := List.getElem?_eq_getElem hik
    have hks := hs.tr _ (List.getElem_mem hik)
    have hacc := map_take_succ tkV t.l i hik
    generalize hkk : t.l[i] = k at *
    generalize haccD : (t.l.take i).map tkV = acc at *
    have hal : acc.length = i := by rw [← haccD]; simp; omega
    simp [runM_nil, runM_n, runM_t, runM_f, runM_s, runK, pev, ptake, putSt, arg, argT, takeAt, lend, lendL, thenP, inBlockP, binP, binBP, intP, unP, lenP, fadP, ldP, iadP, fldP, extP, extTake, sliP, optN, appP, emptyOr, cvSP, cvMP, cvIP, hget, hset, partP, cellsOf, callArgs, callTake, fillP, partsOf, elemParts, elemsOf, chunk, PV.isCell, mmP, eqSP, eqCells, planM_nil, planM_n, planM_t, planM_f, planM_s, planK, keepL_MS, keepA, MS_getD, MS_get, MS_set, getS, idxA, bxP, nckP, idxP, slsP, mkP, tbV, hik]
    refine hK _ _ (ifT (by simp [runM_nil, runM_n, runM_t, runM_f, runM_s, runK, pev, ptake, putSt, arg, argT, takeAt, lend, lendL, thenP, inBlockP, binP, binBP, intP, unP, lenP, fadP, ldP, iadP, fldP, extP, extTake, sliP, optN, appP, emptyOr, cvSP, cvMP, cvIP, hget, hset, partP, cellsOf, callArgs, callTake, fillP, partsOf, elemParts, elemsOf, chunk, PV.isCell, mmP, eqSP, eqCells, planM_nil, planM_n, planM_t, planM_f, planM_s, planK, keepL_MS, keepA, MS_getD, MS_get, MS_set, getS, idxA, bxP, nckP, idxP, slsP, mkP]) (pwp_skip (pwp_seq (pwp_block (pwp_sn hmix (by simp [MS_length]) fun K hK => ?_)))))
    simp [runM_nil, runM_n, runM_t, runM_f, runM_s, runK, pev, ptake, putSt, arg, argT, takeAt, lend, lendL, thenP, inBlockP, binP, binBP, intP, unP, lenP, fadP, ldP, iadP, fldP, extP, extTake, sliP, optN, appP, emptyOr, cvSP, cvMP, cvIP, hget, hset, partP, cellsOf, callArgs, callTake, fillP, partsOf, elemParts, elemsOf, chunk, PV.isCell, mmP, eqSP, eqCells, planM_nil, planM_n, planM_t, planM_f, planM_s, planK, keepL_MS, keepA, MS_getD, MS_get, MS_set, getS, idxA, bxP, nckP, idxP, slsP, mkP, newK, mvcP, planS_nil, planS_n, planS_t, planS_f, planS_s, planSK, ldCells, apartC, frzL_append, frzL_MS, frzA, frzL, frz, frzH, appB, cpyB, clrB, capB, cellsY, repCells, hik, hkk, tkV]
    intro b5 h5
    obtain ⟨n35, h5⟩ := ite_none h5
    obtain ⟨n25, h5⟩ := ite_none h5
    refine hK _ _ (pwp_seq (pwp_sr fun K hK => ?_))
    simp [runM_nil, runM_n, runM_t, runM_f, runM_s, runK, pev, ptake, putSt, arg, argT, takeAt, lend, lendL, thenP, inBlockP, binP, binBP, intP, unP, lenP, fadP, ldP, iadP, fldP, extP, extTake, sliP, optN, appP, emptyOr, cvSP, cvMP, cvIP, hget, hset, partP, cellsOf, callArgs, callTake, fillP, partsOf, elemParts, elemsOf, chunk, PV.isCell, mmP, eqSP, eqCells, planM_nil, planM_n, planM_t, planM_f, planM_s, planK, keepL_MS, keepA, MS_getD, MS_get, MS_set, getS, idxA, bxP, nckP, idxP, slsP, mkP]
    refine hK _ _ (pwp_block ?_)
    clear hK
    refine pwp_loopV [1, 2, 3, 4, 5, 6] (fun m st H' => ∃ j, j ≤ k.tr.length ∧ m = k.tr.length - j ∧ H' = (b5, [.lst 3 ((k.tr.take j).map trV) true, .int .i64 k.dn, .int .i64 k.fl]) :: (b3, [.int .i64 t.cap, .int .i64 t.tm, .lst 3 acc true]) :: (b2, [.int .i64 0, .int .i64 0, .lst 0 [] true]) :: H ∧
        st = MS 72 [(1, .ip 3 [tbV t] 0 0), (2, .ptr (some (b2, 0))), (3, .ptr (some (b3, 0))), (4, .int .i64 i), (5, .ptr (some (b5, 0))), (6, .int .i64 j)]) (n := k.tr.length)
      ⟨_, _, _, keep_up (l' := [(1, .ip 3 [tbV t] 0 0), (2, .ptr (some (b2, 0))), (3, .ptr (some (b3, 0))), (4, .int .i64 i), (5, .ptr (some (b5, 0))), (6, .int .i64 0)]) (by simp [keepA, UpA, Up_refl, UpL_refl, Up_lst, Up_agg, Up_tup, UpL_cons, getS, tbV]), List.Sublist.refl _, ?_, 0, Nat.zero_le _, rfl, rfl, rfl⟩ ?_
    · simp [HUp, HUp_refl, keepA, UpA, Up_refl, UpL_refl, Up_lst, Up_agg, Up_tup, UpL_cons, getS]
    rintro m st H2 ⟨j, hj, rfl, rfl, rfl⟩
    refine pwp_rif fun K hK => ?_
    by_cases hjk : j < k.tr.length
    · have hw2 : IntKind.i64.wrap ((j : Int) + 1) = ((j + 1 : Nat) : Int) := by rw [w64 (by omega) (by omega)]; rfl
      have hgy : k.tr[j]? = some k.tr[j] := List.getElem?_eq_getElem hjk
      have hacc2 := map_take_succ trV k.tr j hjk
      generalize hxx : k.tr[j] = x at *
      generalize hacc2D : (k.tr.take j).map trV = acc2 at *
      have hal2 : acc2.length = j := by rw [← hacc2D]; simp; omega
      have hby : (acc2.length + 1) * 24 ≤ 140737488355328 := by omega
      simp [runM_nil, runM_n, runM_t, runM_f, runM_s, runK, pev, ptake, putSt, arg, argT, takeAt, lend, lendL, thenP, inBlockP, binP, binBP, intP, unP, lenP, fadP, ldP, iadP, fldP, extP, extTake, sliP, optN, appP, emptyOr, cvSP, cvMP, cvIP, hget, hset, partP, cellsOf, callArgs, callTake, fillP, partsOf, elemParts, elemsOf, chunk, PV.isCell, mmP, eqSP, eqCells, planM_nil, planM_n, planM_t, planM_f, planM_s, planK, keepL_MS, keepA, MS_getD, MS_get, MS_set, getS, idxA, bxP, nckP, idxP, slsP, mkP, tbV, hik, hkk, tkV, hjk]
      refine hK _ _ (ifT (by simp [runM_nil, runM_n, runM_t, runM_f, runM_s, runK, pev, ptake, putSt, arg, argT, takeAt, lend, lendL, thenP, inBlockP, binP, binBP, intP, unP, lenP, fadP, ldP, iadP, fldP, extP, extTake, sliP, optN, appP, emptyOr, cvSP, cvMP, cvIP, hget, hset, partP, cellsOf, callArgs, callTake, fillP, partsOf, elemParts, elemsOf, chunk, PV.isCell, mmP, eqSP, eqCells, planM_nil, planM_n, planM_t, planM_f, planM_s, planK, keepL_MS, keepA, MS_getD, MS_get, MS_set, getS, idxA, bxP, nckP, idxP, slsP, mkP]) (pwp_skip (pwp_seq (pwp_block (pwp_sr fun K hK => ?_)))))
      simp [runM_nil, runM_n, runM_t, runM_f, runM_s, runK, pev, ptake, putSt, arg, argT, takeAt, lend, lendL, thenP, inBlockP, binP, binBP, intP, unP, lenP, fadP, ldP, iadP, fldP, extP, extTake, sliP, optN, appP, emptyOr, cvSP, cvMP, cvIP, hget, hset, partP, cellsOf, callArgs, callTake, fillP, partsOf, elemParts, elemsOf, chunk, PV.isCell, mmP, eqSP, eqCells, planM_nil, planM_n, planM_t, planM_f, planM_s, planK, keepL_MS, keepA, MS_getD, MS_get, MS_set, getS, idxA, bxP, nckP, idxP, slsP, mkP, hik, hkk, tkV, hjk, hxx, trV]
      intro b7 h7
      obtain ⟨n57, h7⟩ := ite_none h7
      obtain ⟨n37, h7⟩ := ite_none h7
      obtain ⟨n27, h7⟩ := ite_none h7
      refine hK _ _ (pwp_regionM fun K hK => ?_)
      simp [runM_nil, runM_n, runM_t, runM_f, runM_s, runK, pev, ptake, putSt, arg, argT, takeAt, lend, lendL, thenP, inBlockP, binP, binBP, intP, unP, lenP, fadP, ldP, iadP, fldP, extP, extTake, sliP, optN, appP, emptyOr, cvSP, cvMP, cvIP, hget, hset, partP, cellsOf, callArgs, callTake, fillP, partsOf, elemParts, elemsOf, chunk, PV.isCell, mmP, eqSP, eqCells, planM_nil, planM_n, planM_t, planM_f, planM_s, planK, keepL_MS, keepA, MS_getD, MS_get, MS_set, getS, idxA, bxP, nckP, idxP, slsP, mkP, n57, Ne.symm n57, n37, Ne.symm n37, n27, Ne.symm n27, n35, Ne.symm n35, n25, Ne.symm n25, hby]
      refine hK _ _ (pwp_regionM fun K hK => ?_)
      simp [runM_nil, runM_n, runM_t, runM_f, runM_s, runK, pev, ptake, putSt, arg, argT, takeAt, lend, lendL, thenP, inBlockP, binP, binBP, intP, unP, lenP, fadP, ldP, iadP, fldP, extP, extTake, sliP, optN, appP, emptyOr, cvSP, cvMP, cvIP, hget, hset, partP, cellsOf, callArgs, callTake, fillP, partsOf, elemParts, elemsOf, chunk, PV.isCell, mmP, eqSP, eqCells, planM_nil, planM_n, planM_t, planM_f, planM_s, planK, keepL_MS, keepA, MS_getD, MS_get, MS_set, getS, idxA, bxP, nckP, idxP, slsP, mkP, hw2]
      refine hK _ _ ⟨k.tr.length - (j + 1), by omega, _, _, _, keep_up (l' := [(1, .ip 3 [tbV t] 0 0), (2, .ptr (some (b2, 0))), (3, .ptr (some (b3, 0))), (4, .int .i64 i), (5, .ptr (some (b5, 0))), (6, .int .i64 (j + 1 : Nat))]) (by simp [keepA, UpA, Up_refl, UpL_refl, Up_lst, Up_agg, Up_tup, UpL_cons, getS, tbV]), .cons _ (List.Sublist.refl _), HUp_refl _, j + 1, by omega, rfl, ?_, rfl⟩
      rw [hacc2]
      rfl
    · have hjl : j = k.tr.length := by omega
      simp [runM_nil, runM_n, runM_t, runM_f, runM_s, runK, pev, ptake, putSt, arg, argT, takeAt, lend, lendL, thenP, inBlockP, binP, binBP, intP, unP, lenP, fadP, ldP, iadP, fldP, extP, extTake, sliP, optN, appP, emptyOr, cvSP, cvMP, cvIP, hget, hset, partP, cellsOf, callArgs, callTake, fillP, partsOf, elemParts, elemsOf, chunk, PV.isCell, mmP, eqSP, eqCells, planM_nil, planM_n, planM_t, planM_f, planM_s, planK, keepL_MS, keepA, MS_getD, MS_get, MS_set, getS, idxA, bxP, nckP, idxP, slsP, mkP, tbV, hik, hkk, tkV, hjk]
      refine hK _ _ (ifF (by simp [runM_nil, runM_n, runM_t, runM_f, runM_s, runK, pev, ptake, putSt, arg, argT, takeAt, lend, lendL, thenP, inBlockP, binP, binBP, intP, unP, lenP, fadP, ldP, iadP, fldP, extP, extTake, sliP, optN, appP, emptyOr, cvSP, cvMP, cvIP, hget, hset, partP, cellsOf, callArgs, callTake, fillP, partsOf, elemParts, elemsOf, chunk, PV.isCell, mmP, eqSP, eqCells, planM_nil, planM_n, planM_t, planM_f, planM_s, planK, keepL_MS, keepA, MS_getD, MS_get, MS_set, getS, idxA, bxP, nckP, idxP, slsP, mkP]) (pwp_exit (pwp_regionM fun K hK => ?_)))
      have hby : (acc.length + 1) * 40 ≤ 140737488355328 := by omega
      have hfull : (k.tr.map trV).take j = k.tr.map trV := List.take_of_length_le (by rw [List.length_map]; omega)
      rw [hfull]
      simp [runM_nil, runM_n, runM_t, runM_f, runM_s, runK, pev, ptake, putSt, arg, argT, takeAt, lend, lendL, thenP, inBlockP, binP, binBP, intP, unP, lenP, fadP, ldP, iadP, fldP, extP, extTake, sliP, optN, appP, emptyOr, cvSP, cvMP, cvIP, hget, hset, partP, cellsOf, callArgs, callTake, fillP, partsOf, elemParts, elemsOf, chunk, PV.isCell, mmP, eqSP, eqCells, planM_nil, planM_n, planM_t, planM_f, planM_s, planK, keepL_MS, keepA, MS_getD, MS_get, MS_set, getS, idxA, bxP, nckP, idxP, slsP, mkP, n35, Ne.symm n35, n25, Ne.symm n25, n23, Ne.symm n23, hby]
      refine hK _ _ (pwp_regionM fun K hK => ?_)
      simp [runM_nil, runM_n, runM_t, runM_f, runM_s, runK, pev, ptake, putSt, arg, argT, takeAt, lend, lendL, thenP, inBlockP, binP, binBP, intP, unP, lenP, fadP, ldP, iadP, fldP, extP, extTake, sliP, optN, appP, emptyOr, cvSP, cvMP, cvIP, hget, hset, partP, cellsOf, callArgs, callTake, fillP, partsOf, elemParts, elemsOf, chunk, PV.isCell, mmP, eqSP, eqCells, planM_nil, planM_n, planM_t, planM_f, planM_s, planK, keepL_MS, keepA, MS_getD, MS_get, MS_set, getS, idxA, bxP, nckP, idxP, slsP, mkP, hw]
      refine hK _ _ ⟨t.l.length - (i + 1), by omega, _, _, _, keep_up (l' := [(1, .ip 3 [tbV t] 0 0), (2, .ptr (some (b2, 0))), (3, .ptr (some (b3, 0))), (4, .int .i64 (i + 1 : Nat))]) (by simp [keepA, UpA, Up_refl, UpL_refl, Up_lst, Up_agg, Up_tup, UpL_cons, getS, tbV]), .cons _ (List.Sublist.refl _), HUp_refl _, i + 1, by omega, rfl, ?_, rfl⟩
      rw [hacc]
      rfl
  · have hil : i = t.l.length := by omega
    have hfull : (t.l.map tkV).take i = t.l.map tkV := List.take_of_length_le (by rw [List.length_map]; omega)
    simp [runM_nil, runM_n, runM_t, runM_f, runM_s, runK, pev, ptake, putSt, arg, argT, takeAt, lend, lendL, thenP, inBlockP, binP, binBP, intP, unP, lenP, fadP, ldP, iadP, fldP, extP, extTake, sliP, optN, appP, emptyOr, cvSP, cvMP, cvIP, hget, hset, partP, cellsOf, callArgs, callTake, fillP, partsOf, elemParts, elemsOf, chunk, PV.isCell, mmP, eqSP, eqCells, planM_nil, planM_n, planM_t, planM_f, planM_s, planK, keepL_MS, keepA, MS_getD, MS_get, MS_set, getS, idxA, bxP, nckP, idxP, slsP, mkP, tbV, hik]
    refine hK _ _ (ifF (by simp [runM_nil, runM_n, runM_t, runM_f, runM_s, runK, pev, ptake, putSt, arg, argT, takeAt, lend, lendL, thenP, inBlockP, binP, binBP, intP, unP, lenP, fadP, ldP, iadP, fldP, extP, extTake, sliP, optN, appP, emptyOr, cvSP, cvMP, cvIP, hget, hset, partP, cellsOf, callArgs, callTake, fillP, partsOf, elemParts, elemsOf, chunk, PV.isCell, mmP, eqSP, eqCells, planM_nil, planM_n, planM_t, planM_f, planM_s, planK, keepL_MS, keepA, MS_getD, MS_get, MS_set, getS, idxA, bxP, nckP, idxP, slsP, mkP]) (pwp_exit (pwp_sr fun K hK => ?_)))
    simp [runM_nil, runM_n, runM_t, runM_f, runM_s, runK, pev, ptake, putSt, arg, argT, takeAt, lend, lendL, thenP, inBlockP, binP, binBP, intP, unP, lenP, fadP, ldP, iadP, fldP, extP, extTake, sliP, optN, appP, emptyOr, cvSP, cvMP, cvIP, hget, hset, partP, cellsOf, callArgs, callTake, fillP, partsOf, elemParts, elemsOf, chunk, PV.isCell, mmP, eqSP, eqCells, planM_nil, planM_n, planM_t, planM_f, planM_s, planK, keepL_MS, keepA, MS_getD, MS_get, MS_set, getS, idxA, bxP, nckP, idxP, slsP, mkP, n23, Ne.symm n23]
    refine hK _ _ (pwp_ret ⟨.inr rfl, _, _, (by simp [runM_nil, runM_n, runM_t, runM_f, runM_s, runK, pev, ptake, putSt, arg, argT, takeAt, lend, lendL, thenP, inBlockP, binP, binBP, intP, unP, lenP, fadP, ldP, iadP, fldP, extP, extTake, sliP, optN, appP, emptyOr, cvSP, cvMP, cvIP, hget, hset, partP, cellsOf, callArgs, callTake, fillP, partsOf, elemParts, elemsOf, chunk, PV.isCell, mmP, eqSP, eqCells, planM_nil, planM_n, planM_t, planM_f, planM_s, planK, keepL_MS, keepA, MS_getD, MS_get, MS_set, getS, idxA, bxP, nckP, idxP, slsP, mkP, resL, n23, Ne.symm n23]; rfl), .cons _ (.cons _ (.refl _)), ?_, rfl⟩)
    rw [hfull]
    simp [resV, tbV]
end Go.Proofs.Ytkjibelcaeanjaa.E
