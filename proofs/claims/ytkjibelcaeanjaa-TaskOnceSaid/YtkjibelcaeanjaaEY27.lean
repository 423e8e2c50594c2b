/- A table in which a task is changed, on plain values. -/
import Derived.Test.YtkjibelcaeanjaaEX27
namespace Go.Proofs.Ytkjibelcaeanjaa.E
open Go Go.RowKit Go.Proofs
set_option linter.unusedVariables false
set_option linter.unusedSimpArgs false
theorem flat_tk (l : List Tk) : Flat 3 (l.map tkV) := Flat.map (f := tkV) (fun k => ⟨by simp [tkV, lend, lendL], _, rfl, rfl⟩) l
theorem flat_tr (l : List Tr) : Flat 3 (l.map trV) := Flat.map (f := trV) (fun k => ⟨by simp [trV, lend, lendL], _, rfl, rfl⟩) l
/-- slices.Clone, for a row that is written. -/
theorem cloneTk (l : List Tk) (hl : l.length ≤ 400000) (hne : l ≠ []) (H : Heap) : SpecH Try.prog 62 H [.lst 3 (l.map tkV) false]
    (fun r H' => ∃ b cap rest, hget H b = none ∧ l.length ≤ cap ∧ cap ≤ maxLen ∧ r = .row b 0 l.length cap ∧ H' = (b, (l.map tkV).flatMap cellsOf ++ rest) :: H) := by
  have hne2 : l.map tkV ≠ [] := by simpa using hne
  have hpos : 0 < l.length := List.length_pos_iff.2 hne
  refine spec_of t62r (by simp [p62r]) ?_
  simp only [p62r]
  refine pwp_sr fun K hK => ?_
  simp [runM_nil, runM_n, runM_t, runM_f, runM_s, runK, pev, ptake, putSt, arg, argT, takeAt, lend, lendL, thenP, inBlockP, binP, binBP, intP, unP, lenP, fadP, ldP, iadP, fldP, extP, extTake, sliP, optN, appP, emptyOr, cvSP, cvMP, cvIP, hget, hset, partP, cellsOf, callArgs, callTake, fillP, partsOf, elemParts, elemsOf, chunk, PV.isCell, mmP, eqSP, eqCells, planM_nil, planM_n, planM_t, planM_f, planM_s, planK, keepL_MS, keepA, MS_getD, MS_get, MS_set, getS, idxA, bxP, nckP, idxP, slsP, mkP]
  refine hK _ _ (pwp_rif fun K hK => ?_)
  simp [runM_nil, runM_n, runM_t, runM_f, runM_s, runK, pev, ptake, putSt, arg, argT, takeAt, lend, lendL, thenP, inBlockP, binP, binBP, intP, unP, lenP, fadP, ldP, iadP, fldP, extP, extTake, sliP, optN, appP, emptyOr, cvSP, cvMP, cvIP, hget, hset, partP, cellsOf, callArgs, callTake, fillP, partsOf, elemParts, elemsOf, chunk, PV.isCell, mmP, eqSP, eqCells, planM_nil, planM_n, planM_t, planM_f, planM_s, planK, keepL_MS, keepA, MS_getD, MS_get, MS_set, getS, idxA, bxP, nckP, idxP, slsP, mkP, hne]
  refine hK _ _ (ifF (by simp [runM_nil, runM_n, runM_t, runM_f, runM_s, runK, pev, ptake, putSt, arg, argT, takeAt, lend, lendL, thenP, inBlockP, binP, binBP, intP, unP, lenP, fadP, ldP, iadP, fldP, extP, extTake, sliP, optN, appP, emptyOr, cvSP, cvMP, cvIP, hget, hset, partP, cellsOf, callArgs, callTake, fillP, partsOf, elemParts, elemsOf, chunk, PV.isCell, mmP, eqSP, eqCells, planM_nil, planM_n, planM_t, planM_f, planM_s, planK, keepL_MS, keepA, MS_getD, MS_get, MS_set, getS, idxA, bxP, nckP, idxP, slsP, mkP]) (pwp_skip (pwp_sr fun K hK => ?_)))
  simp [runM_nil, runM_n, runM_t, runM_f, runM_s, runK, pev, ptake, putSt, arg, argT, takeAt, lend, lendL, thenP, inBlockP, binP, binBP, intP, unP, lenP, fadP, ldP, iadP, fldP, extP, extTake, sliP, optN, appP, emptyOr, cvSP, cvMP, cvIP, hget, hset, partP, cellsOf, callArgs, callTake, fillP, partsOf, elemParts, elemsOf, chunk, PV.isCell, mmP, eqSP, eqCells, planM_nil, planM_n, planM_t, planM_f, planM_s, planK, keepL_MS, keepA, MS_getD, MS_get, MS_set, getS, idxA, bxP, nckP, idxP, slsP, mkP, newK, mvcP, planS_nil, planS_n, planS_t, planS_f, planS_s, planSK, ldCells, apartC, frzL_append, frzL_MS, frzA, frzL, frz, frzH, appB, cpyB, clrB, capB, cellsY, repCells, cellsY_flat (flat_tk l)]
  intro b hb
  refine ⟨by omega, fun h => absurd h hne, fun _ b' cap' hb' h1 h2 => ?_⟩
  rw [(flat_tk l).lend]
  have hbn : hget H b' = none := by
    split at hb'
    · cases hb'
    · exact hb'
  exact hK _ _ (pwp_ret ⟨.inr rfl, _, _, (by simp [runM_nil, runM_n, runM_t, runM_f, runM_s, runK, pev, ptake, putSt, arg, argT, takeAt, lend, lendL, thenP, inBlockP, binP, binBP, intP, unP, lenP, fadP, ldP, iadP, fldP, extP, extTake, sliP, optN, appP, emptyOr, cvSP, cvMP, cvIP, hget, hset, partP, cellsOf, callArgs, callTake, fillP, partsOf, elemParts, elemsOf, chunk, PV.isCell, mmP, eqSP, eqCells, planM_nil, planM_n, planM_t, planM_f, planM_s, planK, keepL_MS, keepA, MS_getD, MS_get, MS_set, getS, idxA, bxP, nckP, idxP, slsP, mkP, resL]; rfl), .cons_cons _ (.cons _ (.refl _)), b', cap', _, hbn, h1, h2, rfl, rfl⟩)
theorem cloneTr (l : List Tr) (hl : l.length ≤ 400000) (hne : l ≠ []) (H : Heap) : SpecH Try.prog 63 H [.lst 3 (l.map trV) false]
    (fun r H' => ∃ b cap rest, hget H b = none ∧ l.length ≤ cap ∧ cap ≤ maxLen ∧ r = .row b 0 l.length cap ∧ H' = (b, (l.map trV).flatMap cellsOf ++ rest) :: H) := by
  have hne2 : l.map trV ≠ [] := by simpa using hne
  have hpos : 0 < l.length := List.length_pos_iff.2 hne
  refine spec_of t63r (by simp [p63r]) ?_
  simp only [p63r]
  refine pwp_sr fun K hK => ?_
  simp [runM_nil, runM_n, runM_t, runM_f, runM_s, runK, pev, ptake, putSt, arg, argT, takeAt, lend, lendL, thenP, inBlockP, binP, binBP, intP, unP, lenP, fadP, ldP, iadP, fldP, extP, extTake, sliP, optN, appP, emptyOr, cvSP, cvMP, cvIP, hget, hset, partP, cellsOf, callArgs, callTake, fillP, partsOf, elemParts, elemsOf, chunk, PV.isCell, mmP, eqSP, eqCells, planM_nil, planM_n, planM_t, planM_f, planM_s, planK, keepL_MS, keepA, MS_getD, MS_get, MS_set, getS, idxA, bxP, nckP, idxP, slsP, mkP]
  refine hK _ _ (pwp_rif fun K hK => ?_)
  simp [runM_nil, runM_n, runM_t, runM_f, runM_s, runK, pev, ptake, putSt, arg, argT, takeAt, lend, lendL, thenP, inBlockP, binP, binBP, intP, unP, lenP, fadP, ldP, iadP, fldP, extP, extTake, sliP, optN, appP, emptyOr, cvSP, cvMP, cvIP, hget, hset, partP, cellsOf, callArgs, callTake, fillP, partsOf, elemParts, elemsOf, chunk, PV.isCell, mmP, eqSP, eqCells, planM_nil, planM_n, planM_t, planM_f, planM_s, planK, keepL_MS, keepA, MS_getD, MS_get, MS_set, getS, idxA, bxP, nckP, idxP, slsP, mkP, hne]
  refine hK _ _ (ifF (by simp [runM_nil, runM_n, runM_t, runM_f, runM_s, runK, pev, ptake, putSt, arg, argT, takeAt, lend, lendL, thenP, inBlockP, binP, binBP, intP, unP, lenP, fadP, ldP, iadP, fldP, extP, extTake, sliP, optN, appP, emptyOr, cvSP, cvMP, cvIP, hget, hset, partP, cellsOf, callArgs, callTake, fillP, partsOf, elemParts, elemsOf, chunk, PV.isCell, mmP, eqSP, eqCells, planM_nil, planM_n, planM_t, planM_f, planM_s, planK, keepL_MS, keepA, MS_getD, MS_get, MS_set, getS, idxA, bxP, nckP, idxP, slsP, mkP]) (pwp_skip (pwp_sr fun K hK => ?_)))
  simp [runM_nil, runM_n, runM_t, runM_f, runM_s, runK, pev, ptake, putSt, arg, argT, takeAt, lend, lendL, thenP, inBlockP, binP, binBP, intP, unP, lenP, fadP, ldP, iadP, fldP, extP, extTake, sliP, optN, appP, emptyOr, cvSP, cvMP, cvIP, hget, hset, partP, cellsOf, callArgs, callTake, fillP, partsOf, elemParts, elemsOf, chunk, PV.isCell, mmP, eqSP, eqCells, planM_nil, planM_n, planM_t, planM_f, planM_s, planK, keepL_MS, keepA, MS_getD, MS_get, MS_set, getS, idxA, bxP, nckP, idxP, slsP, mkP, newK, mvcP, planS_nil, planS_n, planS_t, planS_f, planS_s, planSK, ldCells, apartC, frzL_append, frzL_MS, frzA, frzL, frz, frzH, appB, cpyB, clrB, capB, cellsY, repCells, cellsY_flat (flat_tr l)]
  intro b hb
  refine ⟨by omega, fun h => absurd h hne, fun _ b' cap' hb' h1 h2 => ?_⟩
  rw [(flat_tr l).lend]
  have hbn : hget H b' = none := by
    split at hb'
    · cases hb'
    · exact hb'
  exact hK _ _ (pwp_ret ⟨.inr rfl, _, _, (by simp [runM_nil, runM_n, runM_t, runM_f, runM_s, runK, pev, ptake, putSt, arg, argT, takeAt, lend, lendL, thenP, inBlockP, binP, binBP, intP, unP, lenP, fadP, ldP, iadP, fldP, extP, extTake, sliP, optN, appP, emptyOr, cvSP, cvMP, cvIP, hget, hset, partP, cellsOf, callArgs, callTake, fillP, partsOf, elemParts, elemsOf, chunk, PV.isCell, mmP, eqSP, eqCells, planM_nil, planM_n, planM_t, planM_f, planM_s, planK, keepL_MS, keepA, MS_getD, MS_get, MS_set, getS, idxA, bxP, nckP, idxP, slsP, mkP, resL]; rfl), .cons_cons _ (.cons _ (.refl _)), b', cap', _, hbn, h1, h2, rfl, rfl⟩)
/-- .. for one that is appended to, or read. -/
theorem cloneTr0 (l : List Tr) (hl : l.length ≤ 400000) : PSpec Try.prog 63 [.lst 3 (l.map trV) false] (.lst 3 (l.map trV) true) := by
  intro H
  refine spec_ofU t63 (by simp [p63]) ?_
  simp only [p63]
  refine pwp_sr fun K hK => ?_
  simp [runM_nil, runM_n, runM_t, runM_f, runM_s, runK, pev, ptake, putSt, arg, argT, takeAt, lend, lendL, thenP, inBlockP, binP, binBP, intP, unP, lenP, fadP, ldP, iadP, fldP, extP, extTake, sliP, optN, appP, emptyOr, cvSP, cvMP, cvIP, hget, hset, partP, cellsOf, callArgs, callTake, fillP, partsOf, elemParts, elemsOf, chunk, PV.isCell, mmP, eqSP, eqCells, planM_nil, planM_n, planM_t, planM_f, planM_s, planK, keepL_MS, keepA, MS_getD, MS_get, MS_set, getS, idxA, bxP, nckP, idxP, slsP, mkP]
  refine hK _ _ (pwp_rif fun K hK => ?_)
  have key : ∀ st' H', H' = H → argT st' (.t 4) = .bool false → keepL [0] 0 st' = MS 8 [(0, .lst 3 (l.map trV) false)] → K st' H' := by
    rintro st' _ rfl e1 e2
    refine hK _ _ (ifF e1 (pwp_skip (pwp_keep [0] ?_)))
    rw [e2]
    refine pwp_sr fun K hK => ?_
    have hb : l.length * 24 ≤ 140737488355328 := by omega
    simp [runM_nil, runM_n, runM_t, runM_f, runM_s, runK, pev, ptake, putSt, arg, argT, takeAt, lend, lendL, thenP, inBlockP, binP, binBP, intP, unP, lenP, fadP, ldP, iadP, fldP, extP, extTake, sliP, optN, appP, emptyOr, cvSP, cvMP, cvIP, hget, hset, partP, cellsOf, callArgs, callTake, fillP, partsOf, elemParts, elemsOf, chunk, PV.isCell, mmP, eqSP, eqCells, planM_nil, planM_n, planM_t, planM_f, planM_s, planK, keepL_MS, keepA, MS_getD, MS_get, MS_set, getS, idxA, bxP, nckP, idxP, slsP, mkP, hb]
    exact hK _ _ (pwp_ret ⟨.inr rfl, _, _, _, (by simp [runM_nil, runM_n, runM_t, runM_f, runM_s, runK, pev, ptake, putSt, arg, argT, takeAt, lend, lendL, thenP, inBlockP, binP, binBP, intP, unP, lenP, fadP, ldP, iadP, fldP, extP, extTake, sliP, optN, appP, emptyOr, cvSP, cvMP, cvIP, hget, hset, partP, cellsOf, callArgs, callTake, fillP, partsOf, elemParts, elemsOf, chunk, PV.isCell, mmP, eqSP, eqCells, planM_nil, planM_n, planM_t, planM_f, planM_s, planK, keepL_MS, keepA, MS_getD, MS_get, MS_set, getS, idxA, bxP, nckP, idxP, slsP, mkP, resL]; rfl), .refl _, Up_refl _ _, rfl, rfl⟩)
  simp [runM_nil, runM_n, runM_t, runM_f, runM_s, runK, pev, ptake, putSt, arg, argT, takeAt, lend, lendL, thenP, inBlockP, binP, binBP, intP, unP, lenP, fadP, ldP, iadP, fldP, extP, extTake, sliP, optN, appP, emptyOr, cvSP, cvMP, cvIP, hget, hset, partP, cellsOf, callArgs, callTake, fillP, partsOf, elemParts, elemsOf, chunk, PV.isCell, mmP, eqSP, eqCells, planM_nil, planM_n, planM_t, planM_f, planM_s, planK, keepL_MS, keepA, MS_getD, MS_get, MS_set, getS, idxA, bxP, nckP, idxP, slsP, mkP]
  refine ⟨fun h => key _ _ rfl (by simp [runM_nil, runM_n, runM_t, runM_f, runM_s, runK, pev, ptake, putSt, arg, argT, takeAt, lend, lendL, thenP, inBlockP, binP, binBP, intP, unP, lenP, fadP, ldP, iadP, fldP, extP, extTake, sliP, optN, appP, emptyOr, cvSP, cvMP, cvIP, hget, hset, partP, cellsOf, callArgs, callTake, fillP, partsOf, elemParts, elemsOf, chunk, PV.isCell, mmP, eqSP, eqCells, planM_nil, planM_n, planM_t, planM_f, planM_s, planK, keepL_MS, keepA, MS_getD, MS_get, MS_set, getS, idxA, bxP, nckP, idxP, slsP, mkP]) (by simp [keepL_MS, keepA, getS]), fun h => ⟨?_, ?_⟩⟩
  · exact key _ _ rfl (by simp [runM_nil, runM_n, runM_t, runM_f, runM_s, runK, pev, ptake, putSt, arg, argT, takeAt, lend, lendL, thenP, inBlockP, binP, binBP, intP, unP, lenP, fadP, ldP, iadP, fldP, extP, extTake, sliP, optN, appP, emptyOr, cvSP, cvMP, cvIP, hget, hset, partP, cellsOf, callArgs, callTake, fillP, partsOf, elemParts, elemsOf, chunk, PV.isCell, mmP, eqSP, eqCells, planM_nil, planM_n, planM_t, planM_f, planM_s, planK, keepL_MS, keepA, MS_getD, MS_get, MS_set, getS, idxA, bxP, nckP, idxP, slsP, mkP]) (by simp [keepL_MS, keepA, getS])
  · refine hK _ _ (ifT (by simp [runM_nil, runM_n, runM_t, runM_f, runM_s, runK, pev, ptake, putSt, arg, argT, takeAt, lend, lendL, thenP, inBlockP, binP, binBP, intP, unP, lenP, fadP, ldP, iadP, fldP, extP, extTake, sliP, optN, appP, emptyOr, cvSP, cvMP, cvIP, hget, hset, partP, cellsOf, callArgs, callTake, fillP, partsOf, elemParts, elemsOf, chunk, PV.isCell, mmP, eqSP, eqCells, planM_nil, planM_n, planM_t, planM_f, planM_s, planK, keepL_MS, keepA, MS_getD, MS_get, MS_set, getS, idxA, bxP, nckP, idxP, slsP, mkP]) (pwp_sr fun K hK => ?_))
    simp [runM_nil, runM_n, runM_t, runM_f, runM_s, runK, pev, ptake, putSt, arg, argT, takeAt, lend, lendL, thenP, inBlockP, binP, binBP, intP, unP, lenP, fadP, ldP, iadP, fldP, extP, extTake, sliP, optN, appP, emptyOr, cvSP, cvMP, cvIP, hget, hset, partP, cellsOf, callArgs, callTake, fillP, partsOf, elemParts, elemsOf, chunk, PV.isCell, mmP, eqSP, eqCells, planM_nil, planM_n, planM_t, planM_f, planM_s, planK, keepL_MS, keepA, MS_getD, MS_get, MS_set, getS, idxA, bxP, nckP, idxP, slsP, mkP]
    refine hK _ _ (pwp_ret ⟨.inr rfl, _, _, _, (by simp [runM_nil, runM_n, runM_t, runM_f, runM_s, runK, pev, ptake, putSt, arg, argT, takeAt, lend, lendL, thenP, inBlockP, binP, binBP, intP, unP, lenP, fadP, ldP, iadP, fldP, extP, extTake, sliP, optN, appP, emptyOr, cvSP, cvMP, cvIP, hget, hset, partP, cellsOf, callArgs, callTake, fillP, partsOf, elemParts, elemsOf, chunk, PV.isCell, mmP, eqSP, eqCells, planM_nil, planM_n, planM_t, planM_f, planM_s, planK, keepL_MS, keepA, MS_getD, MS_get, MS_set, getS, idxA, bxP, nckP, idxP, slsP, mkP, resL]; rfl), .refl _, ?_, rfl, rfl⟩)
    simp [keepA, UpA, Up_refl, UpL_refl, Up_lst, Up_agg, Up_tup, UpL_cons, getS, resV, h]
theorem flat_mid (l1 l2 : List Tk) (k : Tk) (rest : List PV) : ((l1 ++ k :: l2).map tkV).flatMap cellsOf ++ rest =
    (l1.map tkV).flatMap cellsOf ++ .lst 3 (k.tr.map trV) false :: .int .i64 k.dn :: .int .i64 k.fl :: ((l2.map tkV).flatMap cellsOf ++ rest) := by
  simp [tkV, cellsOf]
theorem flat_mid2 (l1 l2 : List Tk) (k : Tk) (rest : List PV) : (l1.map tkV ++ tkV k :: l2.map tkV).flatMap cellsOf ++ rest =
    (l1.map tkV).flatMap cellsOf ++ .lst 3 (k.tr.map trV) false :: .int .i64 k.dn :: .int .i64 k.fl :: ((l2.map tkV).flatMap cellsOf ++ rest) := by
  rw [← flat_mid]
  simp
theorem frz_flat (b : Nat) (f : Nat → Nat → Option PV) (q : Nat → Option PV) : ∀ l : List Tk, frzL b f q ((l.map tkV).flatMap cellsOf) = (l.map tkV).flatMap cellsOf
  | [] => rfl
  | k :: l => by
    have := frz_flat b f q l
    simp only [List.map_cons, List.flatMap_cons, frzL_append, this]
    simp [tkV, cellsOf, frzL, frz]
theorem flat_len (l : List Tk) : ((l.map tkV).flatMap cellsOf).length = l.length * 3 := by rw [(flat_tk l).len, List.length_map]
/-- What a change of a task, whose attempts are a row, does. -/
def ChgA (F : Nat) (cp : List PV) (k k' : Tk) : Prop := k'.tr.length = k.tr.length ∧ ∀ (bL bT : Nat) (H : Heap) (A B rT : List PV) (c : Nat), bT ≠ bL →
  SpecH Try.prog F ((bT, (k.tr.map trV).flatMap cellsOf ++ rT) :: (bL, A ++ .row bT 0 k.tr.length c :: .int .i64 k.dn :: .int .i64 k.fl :: B) :: H) (.ptr (some (bL, A.length)) :: cp)
    (fun _ H' => H' = (bT, (k'.tr.map trV).flatMap cellsOf ++ rT) :: (bL, A ++ .row bT 0 k.tr.length c :: .int .i64 k'.dn :: .int .i64 k'.fl :: B) :: H)
set_option maxRecDepth 4000 in
theorem withA (cap tm : Int) (l1 l2 : List Tk) (k k' : Tk) (F : Nat) (cp : List PV) (hl : (l1 ++ k :: l2).length ≤ 400000) (hk : k.tr.length ≤ 400000) (hne : k.tr ≠ []) (hcp : lendL cp = cp) (hC : ChgA F cp k k') :
    PSpec Try.prog 36 [tbV ⟨cap, tm, l1 ++ k :: l2⟩, .int .i64 l1.length, .fn (.func F) [] cp] (tbV ⟨cap, tm, l1 ++ k' :: l2⟩) := by
  intro H
  refine spec_of t36 (by simp [p36]) ?_
  simp only [p36]
  refine pwp_sr fun K hK => ?_
  simp [runM_nil, runM_n, runM_t, runM_f, runM_s, runK, pev, ptake, putSt, arg, argT, takeAt, lend, lendL, thenP, inBlockP, binP, binBP, intP, unP, lenP, fadP, ldP, iadP, fldP, extP, extTake, sliP, optN, appP, emptyOr, cvSP, cvMP, cvIP, hget, hset, partP, cellsOf, callArgs, callTake, fillP, partsOf, elemParts, elemsOf, chunk, PV.isCell, mmP, eqSP, eqCells, planM_nil, planM_n, planM_t, planM_f, planM_s, planK, keepL_MS, keepA, MS_getD, MS_get, MS_set, getS, idxA, bxP, nckP, idxP, slsP, mkP, tbV]
  intro b3 h3 b6 h6
  obtain ⟨n36, h6⟩ := hget_cons_none.1 h6
  refine hK _ _ (pwp_sr fun K hK => ?_)
  have hcl := cloneTk (l1 ++ k :: l2) hl (by simp)
  simp only [List.map_append, List.map_cons] at hcl
  simp [runM_nil, runM_n, runM_t, runM_f, runM_s, runK, pev, ptake, putSt, arg, argT, takeAt, lend, lendL, thenP, inBlockP, binP, binBP, intP, unP, lenP, fadP, ldP, iadP, fldP, extP, extTake, sliP, optN, appP, emptyOr, cvSP, cvMP, cvIP, hget, hset, partP, cellsOf, callArgs, callTake, fillP, partsOf, elemParts, elemsOf, chunk, PV.isCell, mmP, eqSP, eqCells, planM_nil, planM_n, planM_t, planM_f, planM_s, planK, keepL_MS, keepA, MS_getD, MS_get, MS_set, getS, idxA, bxP, nckP, idxP, slsP, mkP, Ne.symm n36]
  refine useH (hcl _) ?_
  rintro r H' ⟨bL, cL, rest, hL, hc1, hc2, rfl, rfl⟩
  obtain ⟨n6L, hL⟩ := hget_cons_none.1 hL
  obtain ⟨n3L, hL⟩ := hget_cons_none.1 hL
  have hfm := fun k => flat_mid2 l1 l2 k rest
  have hA := flat_len l1
  simp only [hfm]
  generalize hAA : (l1.map tkV).flatMap cellsOf = A at *
  generalize hBB : (l2.map tkV).flatMap cellsOf ++ rest = B at *
  have hn : l1.length < (l1 ++ k :: l2).length := by simp
  generalize hN : (l1 ++ k :: l2).length = n at *
  have hlen : ∀ x y z : PV, l1.length * 3 + 1 ≤ (A ++ x :: y :: z :: B).length := fun x y z => by simp [hA]
  simp [runM_nil, runM_n, runM_t, runM_f, runM_s, runK, pev, ptake, putSt, arg, argT, takeAt, lend, lendL, thenP, inBlockP, binP, binBP, intP, unP, lenP, fadP, ldP, iadP, fldP, extP, extTake, sliP, optN, appP, emptyOr, cvSP, cvMP, cvIP, hget, hset, partP, cellsOf, callArgs, callTake, fillP, partsOf, elemParts, elemsOf, chunk, PV.isCell, mmP, eqSP, eqCells, planM_nil, planM_n, planM_t, planM_f, planM_s, planK, keepL_MS, keepA, MS_getD, MS_get, MS_set, getS, idxA, bxP, nckP, idxP, slsP, mkP, n36, Ne.symm n36, n6L, Ne.symm n6L, n3L, Ne.symm n3L]
  refine hK _ _ (pwp_sr fun K hK => ?_)
  simp [runM_nil, runM_n, runM_t, runM_f, runM_s, runK, pev, ptake, putSt, arg, argT, takeAt, lend, lendL, thenP, inBlockP, binP, binBP, intP, unP, lenP, fadP, ldP, iadP, fldP, extP, extTake, sliP, optN, appP, emptyOr, cvSP, cvMP, cvIP, hget, hset, partP, cellsOf, callArgs, callTake, fillP, partsOf, elemParts, elemsOf, chunk, PV.isCell, mmP, eqSP, eqCells, planM_nil, planM_n, planM_t, planM_f, planM_s, planK, keepL_MS, keepA, MS_getD, MS_get, MS_set, getS, idxA, bxP, nckP, idxP, slsP, mkP, n36, Ne.symm n36, n6L, Ne.symm n6L, n3L, Ne.symm n3L, hn]
  refine hK _ _ (pwp_sr fun K hK => ?_)
  simp [runM_nil, runM_n, runM_t, runM_f, runM_s, runK, pev, ptake, putSt, arg, argT, takeAt, lend, lendL, thenP, inBlockP, binP, binBP, intP, unP, lenP, fadP, ldP, iadP, fldP, extP, extTake, sliP, optN, appP, emptyOr, cvSP, cvMP, cvIP, hget, hset, partP, cellsOf, callArgs, callTake, fillP, partsOf, elemParts, elemsOf, chunk, PV.isCell, mmP, eqSP, eqCells, planM_nil, planM_n, planM_t, planM_f, planM_s, planK, keepL_MS, keepA, MS_getD, MS_get, MS_set, getS, idxA, bxP, nckP, idxP, slsP, mkP, n36, Ne.symm n36, n6L, Ne.symm n6L, n3L, Ne.symm n3L, mid_get hA, hA]
  refine useH (cloneTr k.tr hk hne _) ?_
  rintro r H' ⟨bT, cT, rT, hT, hc3, hc4, rfl, rfl⟩
  obtain ⟨nLT, hT1⟩ := hget_cons_none.1 hT
  obtain ⟨n6T, hT2⟩ := hget_cons_none.1 hT1
  obtain ⟨n3T, hT3⟩ := hget_cons_none.1 hT2
  clear hT hT1 hT2
  simp [runM_nil, runM_n, runM_t, runM_f, runM_s, runK, pev, ptake, putSt, arg, argT, takeAt, lend, lendL, thenP, inBlockP, binP, binBP, intP, unP, lenP, fadP, ldP, iadP, fldP, extP, extTake, sliP, optN, appP, emptyOr, cvSP, cvMP, cvIP, hget, hset, partP, cellsOf, callArgs, callTake, fillP, partsOf, elemParts, elemsOf, chunk, PV.isCell, mmP, eqSP, eqCells, planM_nil, planM_n, planM_t, planM_f, planM_s, planK, keepL_MS, keepA, MS_getD, MS_get, MS_set, getS, idxA, bxP, nckP, idxP, slsP, mkP, n36, Ne.symm n36, n6L, Ne.symm n6L, n3L, Ne.symm n3L, nLT, Ne.symm nLT, mid_set hA, mid_drop hA, hA]
  refine hK _ _ (pwp_sr fun K hK => ?_)
  simp [runM_nil, runM_n, runM_t, runM_f, runM_s, runK, pev, ptake, putSt, arg, argT, takeAt, lend, lendL, thenP, inBlockP, binP, binBP, intP, unP, lenP, fadP, ldP, iadP, fldP, extP, extTake, sliP, optN, appP, emptyOr, cvSP, cvMP, cvIP, hget, hset, partP, cellsOf, callArgs, callTake, fillP, partsOf, elemParts, elemsOf, chunk, PV.isCell, mmP, eqSP, eqCells, planM_nil, planM_n, planM_t, planM_f, planM_s, planK, keepL_MS, keepA, MS_getD, MS_get, MS_set, getS, idxA, bxP, nckP, idxP, slsP, mkP]
  have hCC := hC.2 bL bT ((b6, [PV.int .i64 0, .int .i64 0, .lst 0 [] true]) :: (b3, [.int .i64 cap, .int .i64 tm, .row bL 0 n cL]) :: H) A B rT cT (Ne.symm nLT)
  rw [hA] at hCC
  rw [hcp]
  refine useH hCC ?_
  rintro r H' rfl
  simp [runM_nil, runM_n, runM_t, runM_f, runM_s, runK, pev, ptake, putSt, arg, argT, takeAt, lend, lendL, thenP, inBlockP, binP, binBP, intP, unP, lenP, fadP, ldP, iadP, fldP, extP, extTake, sliP, optN, appP, emptyOr, cvSP, cvMP, cvIP, hget, hset, partP, cellsOf, callArgs, callTake, fillP, partsOf, elemParts, elemsOf, chunk, PV.isCell, mmP, eqSP, eqCells, planM_nil, planM_n, planM_t, planM_f, planM_s, planK, keepL_MS, keepA, MS_getD, MS_get, MS_set, getS, idxA, bxP, nckP, idxP, slsP, mkP]
  refine hK _ _ (pwp_sr fun K hK => ?_)
  simp [runM_nil, runM_n, runM_t, runM_f, runM_s, runK, pev, ptake, putSt, arg, argT, takeAt, lend, lendL, thenP, inBlockP, binP, binBP, intP, unP, lenP, fadP, ldP, iadP, fldP, extP, extTake, sliP, optN, appP, emptyOr, cvSP, cvMP, cvIP, hget, hset, partP, cellsOf, callArgs, callTake, fillP, partsOf, elemParts, elemsOf, chunk, PV.isCell, mmP, eqSP, eqCells, planM_nil, planM_n, planM_t, planM_f, planM_s, planK, keepL_MS, keepA, MS_getD, MS_get, MS_set, getS, idxA, bxP, nckP, idxP, slsP, mkP, n36, Ne.symm n36, n6L, Ne.symm n6L, n3L, Ne.symm n3L, nLT, Ne.symm nLT, n6T, Ne.symm n6T, n3T, Ne.symm n3T]
  refine hK _ _ (pwp_keep [6] ?_)
  simp only [keepL_MS, keepA, List.map_cons, List.map_nil, getS, if_neg, if_pos]
  refine pwp_freeze (b := bT) 3 true [bL] (by simp [hget]; rfl) ?_
  have hrow := rowL_flat (flat_tr k'.tr) rT (cap := cT) (by rw [List.length_map, hC.1]; exact hc3) hc4
  rw [List.length_map, hC.1] at hrow
  subst hAA hBB
  simp [newK, mvcP, planS_nil, planS_n, planS_t, planS_f, planS_s, planSK, ldCells, apartC, frzL_append, frzL_MS, frzA, frzL, frz, frzH, appB, cpyB, clrB, capB, cellsY, repCells, nLT, Ne.symm nLT, n6T, Ne.symm n6T, n3T, Ne.symm n3T, hrow, frz_flat, frzH_id hT3 (L := [bL]) (by simpa using hL)]
  rw [← flat_mid]
  have hrow2 := rowL_flat (flat_tk (l1 ++ k' :: l2)) (frzL bT (rowL 3 true (List.flatMap cellsOf (List.map trV k'.tr) ++ rT)) (ptrL (List.flatMap cellsOf (List.map trV k'.tr) ++ rT)) rest) (cap := cL) (by simp at hN ⊢; omega) hc2
  have hN2 : ((l1 ++ k' :: l2).map tkV).length = n := by rw [← hN]; simp
  rw [hN2] at hrow2
  generalize ((l1 ++ k' :: l2).map tkV).flatMap cellsOf ++ _ = cs at hrow2 ⊢
  refine pwp_freeze (b := bL) 3 true [b6] (by simp [hget]; rfl) ?_
  simp [newK, mvcP, planS_nil, planS_n, planS_t, planS_f, planS_s, planSK, ldCells, apartC, frzL_append, frzL_MS, frzA, frzL, frz, frzH, appB, cpyB, clrB, capB, cellsY, repCells, n6L, Ne.symm n6L, n3L, Ne.symm n3L, n36, Ne.symm n36, hrow2, frzH_id hL (L := [b6]) (by simpa using h6)]
  exact pwp_ret ⟨.inr rfl, _, (by simp [runM_nil, runM_n, runM_t, runM_f, runM_s, runK, pev, ptake, putSt, arg, argT, takeAt, lend, lendL, thenP, inBlockP, binP, binBP, intP, unP, lenP, fadP, ldP, iadP, fldP, extP, extTake, sliP, optN, appP, emptyOr, cvSP, cvMP, cvIP, hget, hset, partP, cellsOf, callArgs, callTake, fillP, partsOf, elemParts, elemsOf, chunk, PV.isCell, mmP, eqSP, eqCells, planM_nil, planM_n, planM_t, planM_f, planM_s, planK, keepL_MS, keepA, MS_getD, MS_get, MS_set, getS, idxA, bxP, nckP, idxP, slsP, mkP, resL]; rfl), .cons _ (.cons _ (.refl _)), by simp [resV, tbV]⟩
/-- .. whose attempts are a list. -/
def ChgB (F : Nat) (cp : List PV) (k k' : Tk) : Prop := ∀ (bL : Nat) (H : Heap) (A B : List PV),
  SpecH Try.prog F ((bL, A ++ .lst 3 (k.tr.map trV) true :: .int .i64 k.dn :: .int .i64 k.fl :: B) :: H) (.ptr (some (bL, A.length)) :: cp)
    (fun _ H' => H' = (bL, A ++ .lst 3 (k'.tr.map trV) true :: .int .i64 k'.dn :: .int .i64 k'.fl :: B) :: H)
set_option maxRecDepth 4000 in
theorem withB (cap tm : Int) (l1 l2 : List Tk) (k k' : Tk) (F : Nat) (cp : List PV) (hl : (l1 ++ k :: l2).length ≤ 400000) (hk : k.tr.length ≤ 400000) (hcp : lendL cp = cp) (hC : ChgB F cp k k') :
    PSpec Try.prog 36 [tbV ⟨cap, tm, l1 ++ k :: l2⟩, .int .i64 l1.length, .fn (.func F) [] cp] (tbV ⟨cap, tm, l1 ++ k' :: l2⟩) := by
  intro H
  refine spec_of t36 (by simp [p36]) ?_
  simp only [p36]
  refine pwp_sr fun K hK => ?_
  simp [runM_nil, runM_n, runM_t, runM_f, runM_s, runK, pev, ptake, putSt, arg, argT, takeAt, lend, lendL, thenP, inBlockP, binP, binBP, intP, unP, lenP, fadP, ldP, iadP, fldP, extP, extTake, sliP, optN, appP, emptyOr, cvSP, cvMP, cvIP, hget, hset, partP, cellsOf, callArgs, callTake, fillP, partsOf, elemParts, elemsOf, chunk, PV.isCell, mmP, eqSP, eqCells, planM_nil, planM_n, planM_t, planM_f, planM_s, planK, keepL_MS, keepA, MS_getD, MS_get, MS_set, getS, idxA, bxP, nckP, idxP, slsP, mkP, tbV]
  intro b3 h3 b6 h6
  obtain ⟨n36, h6⟩ := hget_cons_none.1 h6
  refine hK _ _ (pwp_sr fun K hK => ?_)
  have hcl := cloneTk (l1 ++ k :: l2) hl (by simp)
  simp only [List.map_append, List.map_cons] at hcl
  simp [runM_nil, runM_n, runM_t, runM_f, runM_s, runK, pev, ptake, putSt, arg, argT, takeAt, lend, lendL, thenP, inBlockP, binP, binBP, intP, unP, lenP, fadP, ldP, iadP, fldP, extP, extTake, sliP, optN, appP, emptyOr, cvSP, cvMP, cvIP, hget, hset, partP, cellsOf, callArgs, callTake, fillP, partsOf, elemParts, elemsOf, chunk, PV.isCell, mmP, eqSP, eqCells, planM_nil, planM_n, planM_t, planM_f, planM_s, planK, keepL_MS, keepA, MS_getD, MS_get, MS_set, getS, idxA, bxP, nckP, idxP, slsP, mkP, Ne.symm n36]
  refine useH (hcl _) ?_
  rintro r H' ⟨bL, cL, rest, hL, hc1, hc2, rfl, rfl⟩
  obtain ⟨n6L, hL⟩ := hget_cons_none.1 hL
  obtain ⟨n3L, hL⟩ := hget_cons_none.1 hL
  have hfm := fun k => flat_mid2 l1 l2 k rest
  have hA := flat_len l1
  simp only [hfm]
  generalize hAA : (l1.map tkV).flatMap cellsOf = A at *
  generalize hBB : (l2.map tkV).flatMap cellsOf ++ rest = B at *
  have hn : l1.length < (l1 ++ k :: l2).length := by simp
  generalize hN : (l1 ++ k :: l2).length = n at *
  have hlen : ∀ x y z : PV, l1.length * 3 + 1 ≤ (A ++ x :: y :: z :: B).length := fun x y z => by simp [hA]
  simp [runM_nil, runM_n, runM_t, runM_f, runM_s, runK, pev, ptake, putSt, arg, argT, takeAt, lend, lendL, thenP, inBlockP, binP, binBP, intP, unP, lenP, fadP, ldP, iadP, fldP, extP, extTake, sliP, optN, appP, emptyOr, cvSP, cvMP, cvIP, hget, hset, partP, cellsOf, callArgs, callTake, fillP, partsOf, elemParts, elemsOf, chunk, PV.isCell, mmP, eqSP, eqCells, planM_nil, planM_n, planM_t, planM_f, planM_s, planK, keepL_MS, keepA, MS_getD, MS_get, MS_set, getS, idxA, bxP, nckP, idxP, slsP, mkP, n36, Ne.symm n36, n6L, Ne.symm n6L, n3L, Ne.symm n3L]
  refine hK _ _ (pwp_sr fun K hK => ?_)
  simp [runM_nil, runM_n, runM_t, runM_f, runM_s, runK, pev, ptake, putSt, arg, argT, takeAt, lend, lendL, thenP, inBlockP, binP, binBP, intP, unP, lenP, fadP, ldP, iadP, fldP, extP, extTake, sliP, optN, appP, emptyOr, cvSP, cvMP, cvIP, hget, hset, partP, cellsOf, callArgs, callTake, fillP, partsOf, elemParts, elemsOf, chunk, PV.isCell, mmP, eqSP, eqCells, planM_nil, planM_n, planM_t, planM_f, planM_s, planK, keepL_MS, keepA, MS_getD, MS_get, MS_set, getS, idxA, bxP, nckP, idxP, slsP, mkP, n36, Ne.symm n36, n6L, Ne.symm n6L, n3L, Ne.symm n3L, hn]
  refine hK _ _ (pwp_sr fun K hK => ?_)
  simp [runM_nil, runM_n, runM_t, runM_f, runM_s, runK, pev, ptake, putSt, arg, argT, takeAt, lend, lendL, thenP, inBlockP, binP, binBP, intP, unP, lenP, fadP, ldP, iadP, fldP, extP, extTake, sliP, optN, appP, emptyOr, cvSP, cvMP, cvIP, hget, hset, partP, cellsOf, callArgs, callTake, fillP, partsOf, elemParts, elemsOf, chunk, PV.isCell, mmP, eqSP, eqCells, planM_nil, planM_n, planM_t, planM_f, planM_s, planK, keepL_MS, keepA, MS_getD, MS_get, MS_set, getS, idxA, bxP, nckP, idxP, slsP, mkP, n36, Ne.symm n36, n6L, Ne.symm n6L, n3L, Ne.symm n3L, mid_get hA, hA]
  refine useP (cloneTr0 k.tr hk) ?_
  simp [runM_nil, runM_n, runM_t, runM_f, runM_s, runK, pev, ptake, putSt, arg, argT, takeAt, lend, lendL, thenP, inBlockP, binP, binBP, intP, unP, lenP, fadP, ldP, iadP, fldP, extP, extTake, sliP, optN, appP, emptyOr, cvSP, cvMP, cvIP, hget, hset, partP, cellsOf, callArgs, callTake, fillP, partsOf, elemParts, elemsOf, chunk, PV.isCell, mmP, eqSP, eqCells, planM_nil, planM_n, planM_t, planM_f, planM_s, planK, keepL_MS, keepA, MS_getD, MS_get, MS_set, getS, idxA, bxP, nckP, idxP, slsP, mkP, n36, Ne.symm n36, n6L, Ne.symm n6L, n3L, Ne.symm n3L, mid_set hA, mid_drop hA, hA]
  refine hK _ _ (pwp_sr fun K hK => ?_)
  simp [runM_nil, runM_n, runM_t, runM_f, runM_s, runK, pev, ptake, putSt, arg, argT, takeAt, lend, lendL, thenP, inBlockP, binP, binBP, intP, unP, lenP, fadP, ldP, iadP, fldP, extP, extTake, sliP, optN, appP, emptyOr, cvSP, cvMP, cvIP, hget, hset, partP, cellsOf, callArgs, callTake, fillP, partsOf, elemParts, elemsOf, chunk, PV.isCell, mmP, eqSP, eqCells, planM_nil, planM_n, planM_t, planM_f, planM_s, planK, keepL_MS, keepA, MS_getD, MS_get, MS_set, getS, idxA, bxP, nckP, idxP, slsP, mkP]
  have hCC := hC bL ((b6, [PV.int .i64 0, .int .i64 0, .lst 0 [] true]) :: (b3, [.int .i64 cap, .int .i64 tm, .row bL 0 n cL]) :: H) A B
  rw [hA] at hCC
  rw [hcp]
  refine useH hCC ?_
  rintro r H' rfl
  simp [runM_nil, runM_n, runM_t, runM_f, runM_s, runK, pev, ptake, putSt, arg, argT, takeAt, lend, lendL, thenP, inBlockP, binP, binBP, intP, unP, lenP, fadP, ldP, iadP, fldP, extP, extTake, sliP, optN, appP, emptyOr, cvSP, cvMP, cvIP, hget, hset, partP, cellsOf, callArgs, callTake, fillP, partsOf, elemParts, elemsOf, chunk, PV.isCell, mmP, eqSP, eqCells, planM_nil, planM_n, planM_t, planM_f, planM_s, planK, keepL_MS, keepA, MS_getD, MS_get, MS_set, getS, idxA, bxP, nckP, idxP, slsP, mkP]
  refine hK _ _ (pwp_sr fun K hK => ?_)
  simp [runM_nil, runM_n, runM_t, runM_f, runM_s, runK, pev, ptake, putSt, arg, argT, takeAt, lend, lendL, thenP, inBlockP, binP, binBP, intP, unP, lenP, fadP, ldP, iadP, fldP, extP, extTake, sliP, optN, appP, emptyOr, cvSP, cvMP, cvIP, hget, hset, partP, cellsOf, callArgs, callTake, fillP, partsOf, elemParts, elemsOf, chunk, PV.isCell, mmP, eqSP, eqCells, planM_nil, planM_n, planM_t, planM_f, planM_s, planK, keepL_MS, keepA, MS_getD, MS_get, MS_set, getS, idxA, bxP, nckP, idxP, slsP, mkP, n36, Ne.symm n36, n6L, Ne.symm n6L, n3L, Ne.symm n3L]
  refine hK _ _ (pwp_keep [6] ?_)
  simp only [keepL_MS, keepA, List.map_cons, List.map_nil, getS, if_neg, if_pos]
  have hN2 : (l1 ++ k' :: l2).length = n := by rw [← hN]; simp
  have hrow2 : rowL 3 true (A ++ PV.lst 3 (k'.tr.map trV) true :: .int .i64 k'.dn :: .int .i64 k'.fl :: B) n cL = some (.lst 3 ((l1 ++ k' :: l2).map tkV) false) := by
    have e1 : A ++ PV.lst 3 (k'.tr.map trV) true :: .int .i64 k'.dn :: .int .i64 k'.fl :: B = (A ++ PV.lst 3 (k'.tr.map trV) true :: .int .i64 k'.dn :: .int .i64 k'.fl :: (l2.map tkV).flatMap cellsOf) ++ rest := by rw [← hBB]; simp
    have e2 : (A ++ PV.lst 3 (k'.tr.map trV) true :: .int .i64 k'.dn :: .int .i64 k'.fl :: (l2.map tkV).flatMap cellsOf).length = n * 3 := by
      rw [← hN2]
      simp only [List.length_append, List.length_cons, hA, flat_len]
      omega
    refine rowL_of (flat_tk _) (by rw [List.length_map]; exact hN2) (by omega) hc2 (by rw [e1, List.length_append, e2]; omega) ?_
    rw [e1, List.take_left' e2, ← hAA, lendL_append, (flat_tk l1).lend]
    simp only [lendL, lend, (flat_tk l2).lend]
    simp [tkV, cellsOf]
  generalize A ++ _ = cs at hrow2 ⊢
  refine pwp_freeze (b := bL) 3 true [b6] (by simp [hget]; rfl) ?_
  simp [newK, mvcP, planS_nil, planS_n, planS_t, planS_f, planS_s, planSK, ldCells, apartC, frzL_append, frzL_MS, frzA, frzL, frz, frzH, appB, cpyB, clrB, capB, cellsY, repCells, n6L, Ne.symm n6L, n3L, Ne.symm n3L, n36, Ne.symm n36, hrow2, frzH_id hL (L := [b6]) (by simpa using h6)]
  exact pwp_ret ⟨.inr rfl, _, (by simp [runM_nil, runM_n, runM_t, runM_f, runM_s, runK, pev, ptake, putSt, arg, argT, takeAt, lend, lendL, thenP, inBlockP, binP, binBP, intP, unP, lenP, fadP, ldP, iadP, fldP, extP, extTake, sliP, optN, appP, emptyOr, cvSP, cvMP, cvIP, hget, hset, partP, cellsOf, callArgs, callTake, fillP, partsOf, elemParts, elemsOf, chunk, PV.isCell, mmP, eqSP, eqCells, planM_nil, planM_n, planM_t, planM_f, planM_s, planK, keepL_MS, keepA, MS_getD, MS_get, MS_set, getS, idxA, bxP, nckP, idxP, slsP, mkP, resL]; rfl), .cons _ (.cons _ (.refl _)), by simp [resV, tbV]⟩
end Go.Proofs.Ytkjibelcaeanjaa.E
