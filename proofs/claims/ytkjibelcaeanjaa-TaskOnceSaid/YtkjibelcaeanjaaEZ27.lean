/- What is done to a task, on plain values. -/
import Derived.Test.YtkjibelcaeanjaaEY27
namespace Go.Proofs.Ytkjibelcaeanjaa.E
open Go Go.RowKit Go.Proofs
set_option linter.unusedVariables false
set_option linter.unusedSimpArgs false
theorem flat_midT (l1 l2 : List Tr) (x : Tr) (rest : List PV) : ((l1 ++ x :: l2).map trV).flatMap cellsOf ++ rest =
    (l1.map trV).flatMap cellsOf ++ .int .i64 x.w :: .int .i64 x.b :: .bool x.o :: ((l2.map trV).flatMap cellsOf ++ rest) := by
  simp [trV, cellsOf]
theorem flat_lenT (l : List Tr) : ((l.map trV).flatMap cellsOf).length = l.length * 3 := by rw [(flat_tr l).len, List.length_map]
theorem lose_chg (k : Tk) : ChgB 60 [] k ⟨k.tr, -1, k.fl⟩ := by
  intro bL H A B
  refine spec_of t60 (by simp [p60]) ?_
  simp only [p60]
  have hA : A.length = A.length := rfl
  refine pwp_regionM fun K hK => ?_
  have hla : A.length + 1 + 1 ≤ A.length + (B.length + 1 + 1 + 1) := by omega
  have hlb : A.length + 2 + 1 ≤ A.length + (B.length + 1 + 1 + 1) := by omega
  simp [runM_nil, runM_n, runM_t, runM_f, runM_s, runK, pev, ptake, putSt, arg, argT, takeAt, lend, lendL, thenP, inBlockP, binP, binBP, intP, unP, lenP, fadP, ldP, iadP, fldP, extP, extTake, sliP, optN, appP, emptyOr, cvSP, cvMP, cvIP, hget, hset, partP, cellsOf, callArgs, callTake, fillP, partsOf, elemParts, elemsOf, chunk, PV.isCell, mmP, eqSP, eqCells, planM_nil, planM_n, planM_t, planM_f, planM_s, planK, keepL_MS, keepA, MS_getD, MS_get, MS_set, getS, idxA, bxP, nckP, idxP, slsP, mkP, mid_set1 hA, hla]
  refine hK _ _ ⟨.inl rfl, _, _, (by simp [runM_nil, runM_n, runM_t, runM_f, runM_s, runK, pev, ptake, putSt, arg, argT, takeAt, lend, lendL, thenP, inBlockP, binP, binBP, intP, unP, lenP, fadP, ldP, iadP, fldP, extP, extTake, sliP, optN, appP, emptyOr, cvSP, cvMP, cvIP, hget, hset, partP, cellsOf, callArgs, callTake, fillP, partsOf, elemParts, elemsOf, chunk, PV.isCell, mmP, eqSP, eqCells, planM_nil, planM_n, planM_t, planM_f, planM_s, planK, keepL_MS, keepA, MS_getD, MS_get, MS_set, getS, idxA, bxP, nckP, idxP, slsP, mkP, resL]; rfl), .refl _, rfl⟩
theorem start_chg (k : Tk) (worker now : Int) (hk : k.tr.length ≤ 400000) : ChgB 37 [capI worker, capI now] k ⟨k.tr ++ [⟨worker, now, true⟩], k.dn, k.fl⟩ := by
  intro bL H A B
  refine spec_of t37t (by simp [p37t]) ?_
  simp only [p37t]
  have hA : A.length = A.length := rfl
  have hb : (k.tr.length + 1) * 24 ≤ 140737488355328 := by omega
  refine pwp_drawS hmix fun K hK => ?_
  simp [runM_nil, runM_n, runM_t, runM_f, runM_s, runK, pev, ptake, putSt, arg, argT, takeAt, lend, lendL, thenP, inBlockP, binP, binBP, intP, unP, lenP, fadP, ldP, iadP, fldP, extP, extTake, sliP, optN, appP, emptyOr, cvSP, cvMP, cvIP, hget, hset, partP, cellsOf, callArgs, callTake, fillP, partsOf, elemParts, elemsOf, chunk, PV.isCell, mmP, eqSP, eqCells, planM_nil, planM_n, planM_t, planM_f, planM_s, planK, keepL_MS, keepA, MS_getD, MS_get, MS_set, getS, idxA, bxP, nckP, idxP, slsP, mkP, newK, mvcP, planS_nil, planS_n, planS_t, planS_f, planS_s, planSK, ldCells, apartC, frzL_append, frzL_MS, frzA, frzL, frz, frzH, appB, cpyB, clrB, capB, cellsY, repCells, capI, mid_set hA, mid_get hA, hb]
  refine hK _ _ ⟨.inl rfl, _, _, (by simp [runM_nil, runM_n, runM_t, runM_f, runM_s, runK, pev, ptake, putSt, arg, argT, takeAt, lend, lendL, thenP, inBlockP, binP, binBP, intP, unP, lenP, fadP, ldP, iadP, fldP, extP, extTake, sliP, optN, appP, emptyOr, cvSP, cvMP, cvIP, hget, hset, partP, cellsOf, callArgs, callTake, fillP, partsOf, elemParts, elemsOf, chunk, PV.isCell, mmP, eqSP, eqCells, planM_nil, planM_n, planM_t, planM_f, planM_s, planK, keepL_MS, keepA, MS_getD, MS_get, MS_set, getS, idxA, bxP, nckP, idxP, slsP, mkP, resL]; rfl), .refl _, by simp [trV]⟩
theorem beat_chg (l1 l2 : List Tr) (x : Tr) (dn fl now : Int) (hl : (l1 ++ x :: l2).length ≤ 400000) : ChgA 59 [capI now, capI l1.length] ⟨l1 ++ x :: l2, dn, fl⟩ ⟨l1 ++ ⟨x.w, now, x.o⟩ :: l2, dn, fl⟩ := by
  refine ⟨by simp, fun bL bT H A B rT c hne => ?_⟩
  have hA : A.length = A.length := rfl
  have hT := flat_lenT l1
  have hlt : (l1.length : Int) < l1.length + (l2.length + 1) := by omega
  refine spec_of t59 (by simp [p59]) ?_
  simp only [p59, flat_midT]
  generalize (l1.map trV).flatMap cellsOf = A1 at *
  generalize (l2.map trV).flatMap cellsOf ++ rT = B1 at *
  refine pwp_drawS hmix fun K hK => ?_
  have hle : ∀ x y z : PV, l1.length * 3 + 1 + 1 ≤ A1.length + (B1.length + 1 + 1 + 1) := fun x y z => by omega
  have hle := hle .unit .unit .unit
  simp [runM_nil, runM_n, runM_t, runM_f, runM_s, runK, pev, ptake, putSt, arg, argT, takeAt, lend, lendL, thenP, inBlockP, binP, binBP, intP, unP, lenP, fadP, ldP, iadP, fldP, extP, extTake, sliP, optN, appP, emptyOr, cvSP, cvMP, cvIP, hget, hset, partP, cellsOf, callArgs, callTake, fillP, partsOf, elemParts, elemsOf, chunk, PV.isCell, mmP, eqSP, eqCells, planM_nil, planM_n, planM_t, planM_f, planM_s, planK, keepL_MS, keepA, MS_getD, MS_get, MS_set, getS, idxA, bxP, nckP, idxP, slsP, mkP, newK, mvcP, planS_nil, planS_n, planS_t, planS_f, planS_s, planSK, ldCells, apartC, frzL_append, frzL_MS, frzA, frzL, frz, frzH, appB, cpyB, clrB, capB, cellsY, repCells, capI, hne, Ne.symm hne, hlt, mid_set1 hT, mid_get hA, hle]
  refine hK _ _ ⟨.inl rfl, _, _, (by simp [runM_nil, runM_n, runM_t, runM_f, runM_s, runK, pev, ptake, putSt, arg, argT, takeAt, lend, lendL, thenP, inBlockP, binP, binBP, intP, unP, lenP, fadP, ldP, iadP, fldP, extP, extTake, sliP, optN, appP, emptyOr, cvSP, cvMP, cvIP, hget, hset, partP, cellsOf, callArgs, callTake, fillP, partsOf, elemParts, elemsOf, chunk, PV.isCell, mmP, eqSP, eqCells, planM_nil, planM_n, planM_t, planM_f, planM_s, planK, keepL_MS, keepA, MS_getD, MS_get, MS_set, getS, idxA, bxP, nckP, idxP, slsP, mkP, resL]; rfl), .refl _, ?_⟩
  have := mid_set1 (A := A1) (B := .bool x.o :: B1) (c0 := .int .i64 x.w) (c := .int .i64 x.b) (v := .int .i64 now) hT
  simp at this
  simp [this]
/-- An attempt is closed. -/
theorem close_chg (l1 l2 : List Tr) (x : Tr) (dn fl : Int) (hl : (l1 ++ x :: l2).length ≤ 400000) : ChgA 69 [capI l1.length] ⟨l1 ++ x :: l2, dn, fl⟩ ⟨l1 ++ ⟨x.w, x.b, false⟩ :: l2, dn, fl⟩ := by
  refine ⟨by simp, fun bL bT H A B rT c hne => ?_⟩
  have hA : A.length = A.length := rfl
  have hT := flat_lenT l1
  have hlt : (l1.length : Int) < l1.length + (l2.length + 1) := by omega
  refine spec_of t69 (by simp [p69]) ?_
  simp only [p69, flat_midT]
  generalize (l1.map trV).flatMap cellsOf = A1 at *
  generalize (l2.map trV).flatMap cellsOf ++ rT = B1 at *
  refine pwp_drawS hmix fun K hK => ?_
  have hle : l1.length * 3 + 2 + 1 ≤ A1.length + (B1.length + 1 + 1 + 1) := by omega
  simp [runM_nil, runM_n, runM_t, runM_f, runM_s, runK, pev, ptake, putSt, arg, argT, takeAt, lend, lendL, thenP, inBlockP, binP, binBP, intP, unP, lenP, fadP, ldP, iadP, fldP, extP, extTake, sliP, optN, appP, emptyOr, cvSP, cvMP, cvIP, hget, hset, partP, cellsOf, callArgs, callTake, fillP, partsOf, elemParts, elemsOf, chunk, PV.isCell, mmP, eqSP, eqCells, planM_nil, planM_n, planM_t, planM_f, planM_s, planK, keepL_MS, keepA, MS_getD, MS_get, MS_set, getS, idxA, bxP, nckP, idxP, slsP, mkP, newK, mvcP, planS_nil, planS_n, planS_t, planS_f, planS_s, planSK, ldCells, apartC, frzL_append, frzL_MS, frzA, frzL, frz, frzH, appB, cpyB, clrB, capB, cellsY, repCells, capI, hne, Ne.symm hne, hlt, mid_get hA, hle]
  refine hK _ _ ⟨.inl rfl, _, _, (by simp [runM_nil, runM_n, runM_t, runM_f, runM_s, runK, pev, ptake, putSt, arg, argT, takeAt, lend, lendL, thenP, inBlockP, binP, binBP, intP, unP, lenP, fadP, ldP, iadP, fldP, extP, extTake, sliP, optN, appP, emptyOr, cvSP, cvMP, cvIP, hget, hset, partP, cellsOf, callArgs, callTake, fillP, partsOf, elemParts, elemsOf, chunk, PV.isCell, mmP, eqSP, eqCells, planM_nil, planM_n, planM_t, planM_f, planM_s, planK, keepL_MS, keepA, MS_getD, MS_get, MS_set, getS, idxA, bxP, nckP, idxP, slsP, mkP, resL]; rfl), .refl _, ?_⟩
  have := mid_set2 (A := A1) (B := B1) (c0 := .int .i64 x.w) (c1 := .int .i64 x.b) (c := .bool x.o) (v := .bool false) hT
  simp at this
  simp [this]
theorem fail_chg (l1 l2 : List Tr) (x : Tr) (dn fl : Int) (hl : (l1 ++ x :: l2).length ≤ 400000) : ChgA 58 [capI l1.length] ⟨l1 ++ x :: l2, dn, fl⟩ ⟨l1 ++ ⟨x.w, x.b, false⟩ :: l2, dn, IntKind.i64.wrap (fl + 1)⟩ := by
  refine ⟨by simp, fun bL bT H A B rT c hne => ?_⟩
  have hA : A.length = A.length := rfl
  have hT := flat_lenT l1
  have hlt : (l1.length : Int) < l1.length + (l2.length + 1) := by omega
  refine spec_of t58 (by simp [p58]) ?_
  simp only [p58, flat_midT]
  generalize (l1.map trV).flatMap cellsOf = A1 at *
  generalize (l2.map trV).flatMap cellsOf ++ rT = B1 at *
  have hla : A.length + 1 + 1 ≤ A.length + (B.length + 1 + 1 + 1) := by omega
  have hlb : A.length + 2 + 1 ≤ A.length + (B.length + 1 + 1 + 1) := by omega
  refine pwp_ss hmix fun K hK => ?_
  have hle : l1.length * 3 + 2 + 1 ≤ A1.length + (B1.length + 1 + 1 + 1) := by omega
  have hm := mid_set2 (A := A1) (B := B1) (c0 := .int .i64 x.w) (c1 := .int .i64 x.b) (c := .bool x.o) (v := .bool false) hT
  simp at hm
  simp [runM_nil, runM_n, runM_t, runM_f, runM_s, runK, pev, ptake, putSt, arg, argT, takeAt, lend, lendL, thenP, inBlockP, binP, binBP, intP, unP, lenP, fadP, ldP, iadP, fldP, extP, extTake, sliP, optN, appP, emptyOr, cvSP, cvMP, cvIP, hget, hset, partP, cellsOf, callArgs, callTake, fillP, partsOf, elemParts, elemsOf, chunk, PV.isCell, mmP, eqSP, eqCells, planM_nil, planM_n, planM_t, planM_f, planM_s, planK, keepL_MS, keepA, MS_getD, MS_get, MS_set, getS, idxA, bxP, nckP, idxP, slsP, mkP, newK, mvcP, planS_nil, planS_n, planS_t, planS_f, planS_s, planSK, ldCells, apartC, frzL_append, frzL_MS, frzA, frzL, frz, frzH, appB, cpyB, clrB, capB, cellsY, repCells, capI, hne, Ne.symm hne, hlt, mid_get hA, hle, hm]
  refine hK _ _ (pwp_regionM fun K hK => ?_)
  simp [runM_nil, runM_n, runM_t, runM_f, runM_s, runK, pev, ptake, putSt, arg, argT, takeAt, lend, lendL, thenP, inBlockP, binP, binBP, intP, unP, lenP, fadP, ldP, iadP, fldP, extP, extTake, sliP, optN, appP, emptyOr, cvSP, cvMP, cvIP, hget, hset, partP, cellsOf, callArgs, callTake, fillP, partsOf, elemParts, elemsOf, chunk, PV.isCell, mmP, eqSP, eqCells, planM_nil, planM_n, planM_t, planM_f, planM_s, planK, keepL_MS, keepA, MS_getD, MS_get, MS_set, getS, idxA, bxP, nckP, idxP, slsP, mkP, hne, Ne.symm hne, hlb, mid_get2 hA]
  refine hK _ _ ⟨.inl rfl, _, _, (by simp [runM_nil, runM_n, runM_t, runM_f, runM_s, runK, pev, ptake, putSt, arg, argT, takeAt, lend, lendL, thenP, inBlockP, binP, binBP, intP, unP, lenP, fadP, ldP, iadP, fldP, extP, extTake, sliP, optN, appP, emptyOr, cvSP, cvMP, cvIP, hget, hset, partP, cellsOf, callArgs, callTake, fillP, partsOf, elemParts, elemsOf, chunk, PV.isCell, mmP, eqSP, eqCells, planM_nil, planM_n, planM_t, planM_f, planM_s, planK, keepL_MS, keepA, MS_getD, MS_get, MS_set, getS, idxA, bxP, nckP, idxP, slsP, mkP, resL]; rfl), .refl _, ?_⟩
  have := mid_set2 (A := A) (B := B) (c0 := .row bT 0 (l1 ++ x :: l2).length c) (c1 := .int .i64 dn) (c := .int .i64 fl) (v := .int .i64 (IntKind.i64.wrap (fl + 1))) hA
  simp at this
  simp [this]
theorem map_take_succ {α β : Type} (f : α → β) (l : List α) (i : Nat) (h : i < l.length) : (l.take (i + 1)).map f = (l.take i).map f ++ [f l[i]] := by
  rw [List.take_succ_eq_append_getElem h, List.map_append]
  rfl
def shut (x : Tr) : Tr := ⟨x.w, x.b, false⟩
theorem finish_chg (k : Tk) (n : Int) (hl : k.tr.length ≤ 400000) : ChgA 54 [capI n] k ⟨k.tr.map shut, n, k.fl⟩ := by
  refine ⟨by simp, fun bL bT H A B rT c hne => ?_⟩
  have hA : A.length = A.length := rfl
  refine spec_of t54 (by simp [p54]) ?_
  simp only [p54]
  refine pwp_sr fun K hK => ?_
  have hm := mid_set1 (A := A) (B := .int .i64 k.fl :: B) (c0 := .row bT 0 k.tr.length c) (c := .int .i64 k.dn) (v := .int .i64 n) hA
  simp at hm
  have hla : A.length + 1 + 1 ≤ A.length + (B.length + 1 + 1 + 1) := by omega
  have hlb : A.length + 2 + 1 ≤ A.length + (B.length + 1 + 1 + 1) := by omega
  simp [runM_nil, runM_n, runM_t, runM_f, runM_s, runK, pev, ptake, putSt, arg, argT, takeAt, lend, lendL, thenP, inBlockP, binP, binBP, intP, unP, lenP, fadP, ldP, iadP, fldP, extP, extTake, sliP, optN, appP, emptyOr, cvSP, cvMP, cvIP, hget, hset, partP, cellsOf, callArgs, callTake, fillP, partsOf, elemParts, elemsOf, chunk, PV.isCell, mmP, eqSP, eqCells, planM_nil, planM_n, planM_t, planM_f, planM_s, planK, keepL_MS, keepA, MS_getD, MS_get, MS_set, getS, idxA, bxP, nckP, idxP, slsP, mkP, capI, hne, Ne.symm hne, hm, hla]
  refine hK _ _ (pwp_sr fun K hK => ?_)
  simp [runM_nil, runM_n, runM_t, runM_f, runM_s, runK, pev, ptake, putSt, arg, argT, takeAt, lend, lendL, thenP, inBlockP, binP, binBP, intP, unP, lenP, fadP, ldP, iadP, fldP, extP, extTake, sliP, optN, appP, emptyOr, cvSP, cvMP, cvIP, hget, hset, partP, cellsOf, callArgs, callTake, fillP, partsOf, elemParts, elemsOf, chunk, PV.isCell, mmP, eqSP, eqCells, planM_nil, planM_n, planM_t, planM_f, planM_s, planK, keepL_MS, keepA, MS_getD, MS_get, MS_set, getS, idxA, bxP, nckP, idxP, slsP, mkP, hne, Ne.symm hne, mid_get hA]
  refine hK _ _ (pwp_block ?_)
  refine pwp_loopU [0, 12, 13] (fun m st H' => ∃ i, i ≤ k.tr.length ∧ m = k.tr.length - i ∧ H' = (bT, (((k.tr.take i).map shut ++ k.tr.drop i).map trV).flatMap cellsOf ++ rT) :: (bL, A ++ PV.row bT 0 k.tr.length c :: .int .i64 n :: .int .i64 k.fl :: B) :: H ∧
      st = MS 24 [(0, .ptr (some (bL, A.length))), (12, .int .i64 k.tr.length), (13, .int .i64 i)]) (n := k.tr.length)
    ⟨_, _, keep_up (l' := [(0, .ptr (some (bL, A.length))), (12, .int .i64 k.tr.length), (13, .int .i64 0)]) (by simp [keepA, UpA, Up_refl, UpL_refl, Up_lst, Up_agg, Up_tup, UpL_cons, getS]), List.Sublist.refl _, 0, Nat.zero_le _, rfl, by simp, rfl⟩ ?_
  rintro m st _ ⟨i, hi, rfl, rfl, rfl⟩
  generalize hG : (((k.tr.take i).map shut ++ k.tr.drop i).map trV).flatMap cellsOf ++ rT = G
  refine pwp_sr fun K hK => ?_
  by_cases hik : i < k.tr.length
  · have hw : IntKind.i64.wrap ((i : Int) + 1) = ((i + 1 : Nat) : Int) := by rw [w64 (by omega) (by omega)]; rfl
    simp [runM_nil, runM_n, runM_t, runM_f, runM_s, runK, pev, ptake, putSt, arg, argT, takeAt, lend, lendL, thenP, inBlockP, binP, binBP, intP, unP, lenP, fadP, ldP, iadP, fldP, extP, extTake, sliP, optN, appP, emptyOr, cvSP, cvMP, cvIP, hget, hset, partP, cellsOf, callArgs, callTake, fillP, partsOf, elemParts, elemsOf, chunk, PV.isCell, mmP, eqSP, eqCells, planM_nil, planM_n, planM_t, planM_f, planM_s, planK, keepL_MS, keepA, MS_getD, MS_get, MS_set, getS, idxA, bxP, nckP, idxP, slsP, mkP, hik]
    refine hK _ _ (pwp_sT (by simp [runM_nil, runM_n, runM_t, runM_f, runM_s, runK, pev, ptake, putSt, arg, argT, takeAt, lend, lendL, thenP, inBlockP, binP, binBP, intP, unP, lenP, fadP, ldP, iadP, fldP, extP, extTake, sliP, optN, appP, emptyOr, cvSP, cvMP, cvIP, hget, hset, partP, cellsOf, callArgs, callTake, fillP, partsOf, elemParts, elemsOf, chunk, PV.isCell, mmP, eqSP, eqCells, planM_nil, planM_n, planM_t, planM_f, planM_s, planK, keepL_MS, keepA, MS_getD, MS_get, MS_set, getS, idxA, bxP, nckP, idxP, slsP, mkP]) (pwp_seq (pwp_block (pwp_sr fun K hK => ?_))))
    simp [runM_nil, runM_n, runM_t, runM_f, runM_s, runK, pev, ptake, putSt, arg, argT, takeAt, lend, lendL, thenP, inBlockP, binP, binBP, intP, unP, lenP, fadP, ldP, iadP, fldP, extP, extTake, sliP, optN, appP, emptyOr, cvSP, cvMP, cvIP, hget, hset, partP, cellsOf, callArgs, callTake, fillP, partsOf, elemParts, elemsOf, chunk, PV.isCell, mmP, eqSP, eqCells, planM_nil, planM_n, planM_t, planM_f, planM_s, planK, keepL_MS, keepA, MS_getD, MS_get, MS_set, getS, idxA, bxP, nckP, idxP, slsP, mkP]
    have hdec : (k.tr.take i).map shut ++ k.tr.drop i = (k.tr.take i).map shut ++ k.tr[i] :: k.tr.drop (i + 1) := by rw [List.drop_eq_getElem_cons hik]
    have hnext : (k.tr.take (i + 1)).map shut ++ k.tr.drop (i + 1) = (k.tr.take i).map shut ++ shut k.tr[i] :: k.tr.drop (i + 1) := by rw [map_take_succ _ _ _ hik]; simp
    have hlen1 : ((k.tr.take i).map shut).length = i := by simp; omega
    rw [hdec, flat_midT] at hG
    rw [← hG]
    have hT := flat_lenT ((k.tr.take i).map shut)
    rw [hlen1] at hT
    generalize hx : k.tr[i] = x at *
    have hfin : (((k.tr.take (i + 1)).map shut ++ k.tr.drop (i + 1)).map trV).flatMap cellsOf ++ rT = (((k.tr.take i).map shut).map trV).flatMap cellsOf ++ .int .i64 x.w :: .int .i64 x.b :: .bool false :: (((k.tr.drop (i + 1)).map trV).flatMap cellsOf ++ rT) := by
      rw [hnext, flat_midT]
      rfl
    clear hG
    generalize (((k.tr.take i).map shut).map trV).flatMap cellsOf = A1 at *
    generalize ((k.tr.drop (i + 1)).map trV).flatMap cellsOf ++ rT = B1 at *
    have hm2 := mid_set2 (A := A1) (B := B1) (c0 := .int .i64 x.w) (c1 := .int .i64 x.b) (c := .bool x.o) (v := .bool false) hT
    simp at hm2
    have hle : i * 3 + 2 + 1 ≤ A1.length + (B1.length + 1 + 1 + 1) := by omega
    refine hK _ _ (pwp_regionM fun K hK => ?_)
    simp [runM_nil, runM_n, runM_t, runM_f, runM_s, runK, pev, ptake, putSt, arg, argT, takeAt, lend, lendL, thenP, inBlockP, binP, binBP, intP, unP, lenP, fadP, ldP, iadP, fldP, extP, extTake, sliP, optN, appP, emptyOr, cvSP, cvMP, cvIP, hget, hset, partP, cellsOf, callArgs, callTake, fillP, partsOf, elemParts, elemsOf, chunk, PV.isCell, mmP, eqSP, eqCells, planM_nil, planM_n, planM_t, planM_f, planM_s, planK, keepL_MS, keepA, MS_getD, MS_get, MS_set, getS, idxA, bxP, nckP, idxP, slsP, mkP, hne, Ne.symm hne, mid_get hA, hik, hm2, hle]
    refine hK _ _ (pwp_regionM fun K hK => ?_)
    simp [runM_nil, runM_n, runM_t, runM_f, runM_s, runK, pev, ptake, putSt, arg, argT, takeAt, lend, lendL, thenP, inBlockP, binP, binBP, intP, unP, lenP, fadP, ldP, iadP, fldP, extP, extTake, sliP, optN, appP, emptyOr, cvSP, cvMP, cvIP, hget, hset, partP, cellsOf, callArgs, callTake, fillP, partsOf, elemParts, elemsOf, chunk, PV.isCell, mmP, eqSP, eqCells, planM_nil, planM_n, planM_t, planM_f, planM_s, planK, keepL_MS, keepA, MS_getD, MS_get, MS_set, getS, idxA, bxP, nckP, idxP, slsP, mkP, hw]
    exact hK _ _ ⟨k.tr.length - (i + 1), by omega, _, _, keep_up (l' := [(0, .ptr (some (bL, A.length))), (12, .int .i64 k.tr.length), (13, .int .i64 (i + 1 : Nat))]) (by simp [keepA, UpA, Up_refl, UpL_refl, Up_lst, Up_agg, Up_tup, UpL_cons, getS]), List.Sublist.refl _, i + 1, by omega, rfl, by rw [hfin], rfl⟩
  · simp [runM_nil, runM_n, runM_t, runM_f, runM_s, runK, pev, ptake, putSt, arg, argT, takeAt, lend, lendL, thenP, inBlockP, binP, binBP, intP, unP, lenP, fadP, ldP, iadP, fldP, extP, extTake, sliP, optN, appP, emptyOr, cvSP, cvMP, cvIP, hget, hset, partP, cellsOf, callArgs, callTake, fillP, partsOf, elemParts, elemsOf, chunk, PV.isCell, mmP, eqSP, eqCells, planM_nil, planM_n, planM_t, planM_f, planM_s, planK, keepL_MS, keepA, MS_getD, MS_get, MS_set, getS, idxA, bxP, nckP, idxP, slsP, mkP, hik]
    have hii : i = k.tr.length := by omega
    subst hii
    refine hK _ _ (pwp_seq (pwp_cF (by simp [runM_nil, runM_n, runM_t, runM_f, runM_s, runK, pev, ptake, putSt, arg, argT, takeAt, lend, lendL, thenP, inBlockP, binP, binBP, intP, unP, lenP, fadP, ldP, iadP, fldP, extP, extTake, sliP, optN, appP, emptyOr, cvSP, cvMP, cvIP, hget, hset, partP, cellsOf, callArgs, callTake, fillP, partsOf, elemParts, elemsOf, chunk, PV.isCell, mmP, eqSP, eqCells, planM_nil, planM_n, planM_t, planM_f, planM_s, planK, keepL_MS, keepA, MS_getD, MS_get, MS_set, getS, idxA, bxP, nckP, idxP, slsP, mkP]) (pwp_exit ?_)))
    exact ⟨.inl rfl, _, _, (by simp [runM_nil, runM_n, runM_t, runM_f, runM_s, runK, pev, ptake, putSt, arg, argT, takeAt, lend, lendL, thenP, inBlockP, binP, binBP, intP, unP, lenP, fadP, ldP, iadP, fldP, extP, extTake, sliP, optN, appP, emptyOr, cvSP, cvMP, cvIP, hget, hset, partP, cellsOf, callArgs, callTake, fillP, partsOf, elemParts, elemsOf, chunk, PV.isCell, mmP, eqSP, eqCells, planM_nil, planM_n, planM_t, planM_f, planM_s, planK, keepL_MS, keepA, MS_getD, MS_get, MS_set, getS, idxA, bxP, nckP, idxP, slsP, mkP, resL]; rfl), .refl _, by rw [← hG, List.take_length, List.drop_length, List.append_nil]⟩
end Go.Proofs.Ytkjibelcaeanjaa.E
