/- Tables of tasks, on plain values. -/
import Derived.Test.YtkjibelcaeanjaaE35
import Derived.Test.YtkjibelcaeanjaaEP27
namespace Go.Proofs.Ytkjibelcaeanjaa.E
open Go Go.RowKit Go.Proofs
set_option linter.unusedVariables false
set_option linter.unusedSimpArgs false
structure Tr where
  w : Int
  b : Int
  o : Bool
  deriving DecidableEq
structure Tk where
  tr : List Tr
  dn : Int
  fl : Int
structure Tb where
  cap : Int
  tm : Int
  l : List Tk
def trV (t : Tr) : PV := .agg [.int .i64 t.w, .int .i64 t.b, .bool t.o]
def tkV (k : Tk) : PV := .agg [.lst 3 (k.tr.map trV) false, .int .i64 k.dn, .int .i64 k.fl]
def tbV (t : Tb) : PV := .agg [.int .i64 t.cap, .int .i64 t.tm, .lst 3 (t.l.map tkV) false]
def opn (k : Tk) : List Tr := k.tr.filter (·.o)
def inB (n lo hi : Int) : Bool := decide (lo ≤ n ∧ n ≤ hi)
theorem isIn (n lo hi : Int) : PSpec Try.prog 40 [.int .i64 n, .int .i64 lo, .int .i64 hi] (.bool (inB n lo hi)) := by
  intro H
  refine spec_of t40 (by simp [p40]) ?_
  simp only [p40]
  refine pwp_sr fun K hK => ?_
  simp [runM_nil, runM_n, runM_t, runM_f, runM_s, runK, pev, ptake, putSt, arg, argT, takeAt, lend, lendL, thenP, inBlockP, binP, binBP, intP, unP, lenP, fadP, ldP, iadP, fldP, extP, extTake, sliP, optN, appP, emptyOr, cvSP, cvMP, cvIP, hget, hset, partP, cellsOf, callArgs, callTake, fillP, partsOf, elemParts, elemsOf, chunk, PV.isCell, mmP, eqSP, eqCells, planM_nil, planM_n, planM_t, planM_f, planM_s, planK, keepL_MS, keepA, MS_getD, MS_get, MS_set, getS, idxA, bxP, nckP, idxP, slsP, mkP]
  refine hK _ _ (pwp_sr fun K hK => ?_)
  by_cases h : lo ≤ n
  all_goals
    simp [runM_nil, runM_n, runM_t, runM_f, runM_s, runK, pev, ptake, putSt, arg, argT, takeAt, lend, lendL, thenP, inBlockP, binP, binBP, intP, unP, lenP, fadP, ldP, iadP, fldP, extP, extTake, sliP, optN, appP, emptyOr, cvSP, cvMP, cvIP, hget, hset, partP, cellsOf, callArgs, callTake, fillP, partsOf, elemParts, elemsOf, chunk, PV.isCell, mmP, eqSP, eqCells, planM_nil, planM_n, planM_t, planM_f, planM_s, planK, keepL_MS, keepA, MS_getD, MS_get, MS_set, getS, idxA, bxP, nckP, idxP, slsP, mkP, h]
    refine hK _ _ (pwp_ret ?_)
    simp [runM_nil, runM_n, runM_t, runM_f, runM_s, runK, pev, ptake, putSt, arg, argT, takeAt, lend, lendL, thenP, inBlockP, binP, binBP, intP, unP, lenP, fadP, ldP, iadP, fldP, extP, extTake, sliP, optN, appP, emptyOr, cvSP, cvMP, cvIP, hget, hset, partP, cellsOf, callArgs, callTake, fillP, partsOf, elemParts, elemsOf, chunk, PV.isCell, mmP, eqSP, eqCells, planM_nil, planM_n, planM_t, planM_f, planM_s, planK, keepL_MS, keepA, MS_getD, MS_get, MS_set, getS, idxA, bxP, nckP, idxP, slsP, mkP, resL, resV, h, inB]
theorem take_filter_succ {α : Type} (p : α → Bool) (l : List α) (i : Nat) (h : i < l.length) : (l.take (i + 1)).filter p = (l.take i).filter p ++ (if p l[i] then [l[i]] else []) := by
  rw [List.take_succ_eq_append_getElem h, List.filter_append]
  simp [List.filter_cons]
theorem open_ok (k : Tk) (hl : k.tr.length ≤ 4000000000000) : PSpec Try.prog 30 [tkV k] (.lst 3 ((opn k).map trV) true) := by
  intro H
  refine spec_ofU t30 (by simp [p30]) ?_
  simp only [p30]
  refine pwp_sr fun K hK => ?_
  simp [runM_nil, runM_n, runM_t, runM_f, runM_s, runK, pev, ptake, putSt, arg, argT, takeAt, lend, lendL, thenP, inBlockP, binP, binBP, intP, unP, lenP, fadP, ldP, iadP, fldP, extP, extTake, sliP, optN, appP, emptyOr, cvSP, cvMP, cvIP, hget, hset, partP, cellsOf, callArgs, callTake, fillP, partsOf, elemParts, elemsOf, chunk, PV.isCell, mmP, eqSP, eqCells, planM_nil, planM_n, planM_t, planM_f, planM_s, planK, keepL_MS, keepA, MS_getD, MS_get, MS_set, getS, idxA, bxP, nckP, idxP, slsP, mkP, tkV]
  refine hK _ _ (pwp_sr fun K hK => ?_)
  simp [runM_nil, runM_n, runM_t, runM_f, runM_s, runK, pev, ptake, putSt, arg, argT, takeAt, lend, lendL, thenP, inBlockP, binP, binBP, intP, unP, lenP, fadP, ldP, iadP, fldP, extP, extTake, sliP, optN, appP, emptyOr, cvSP, cvMP, cvIP, hget, hset, partP, cellsOf, callArgs, callTake, fillP, partsOf, elemParts, elemsOf, chunk, PV.isCell, mmP, eqSP, eqCells, planM_nil, planM_n, planM_t, planM_f, planM_s, planK, keepL_MS, keepA, MS_getD, MS_get, MS_set, getS, idxA, bxP, nckP, idxP, slsP, mkP]
  refine hK _ _ (pwp_seq (pwp_sr fun K hK => ?_))
  simp [runM_nil, runM_n, runM_t, runM_f, runM_s, runK, pev, ptake, putSt, arg, argT, takeAt, lend, lendL, thenP, inBlockP, binP, binBP, intP, unP, lenP, fadP, ldP, iadP, fldP, extP, extTake, sliP, optN, appP, emptyOr, cvSP, cvMP, cvIP, hget, hset, partP, cellsOf, callArgs, callTake, fillP, partsOf, elemParts, elemsOf, chunk, PV.isCell, mmP, eqSP, eqCells, planM_nil, planM_n, planM_t, planM_f, planM_s, planK, keepL_MS, keepA, MS_getD, MS_get, MS_set, getS, idxA, bxP, nckP, idxP, slsP, mkP]
  refine hK _ _ (pwp_block ?_)
  refine pwp_loopU [3, 7, 8, 9] (fun m st H' => ∃ i, i ≤ k.tr.length ∧ m = k.tr.length - i ∧ H' = H ∧ st = MS 21 [(3, .lst 3 (((k.tr.take i).filter (·.o)).map trV) true), (7, .lst 3 (k.tr.map trV) false), (8, .int .i64 k.tr.length), (9, .int .i64 i)]) (n := k.tr.length)
    ⟨_, H, keep_up (l' := [(3, .lst 3 [] true), (7, .lst 3 (k.tr.map trV) false), (8, .int .i64 k.tr.length), (9, .int .i64 0)]) ?_, List.Sublist.refl _, 0, Nat.zero_le _, rfl, rfl, ?_⟩ ?_
  · simp [keepA, UpA, Up_refl, UpL_refl, Up_lst, Up_agg, Up_tup, UpL_cons, getS]
  · simp
  rintro m st _ ⟨i, hi, rfl, rfl, rfl⟩
  have hacc := take_filter_succ (·.o) k.tr i
  have hfl : ((k.tr.take i).filter (·.o)).length ≤ i := Nat.le_trans (List.length_filter_le _ _) (by rw [List.length_take]; omega)
  generalize hacc0 : ((k.tr.take i).filter (·.o)) = acc at *
  refine pwp_sr fun K hK => ?_
  by_cases hik : i < k.tr.length
  · have hacc := hacc hik
    have hw : IntKind.i64.wrap ((i : Int) + 1) = ((i + 1 : Nat) : Int) := by rw [w64 (by omega) (by omega)]; rfl
    have hgx : (k.tr.map trV)[i]? = some (trV k.tr[i]) := by simp [hik]
    generalize hx : k.tr[i] = x at *
    simp [runM_nil, runM_n, runM_t, runM_f, runM_s, runK, pev, ptake, putSt, arg, argT, takeAt, lend, lendL, thenP, inBlockP, binP, binBP, intP, unP, lenP, fadP, ldP, iadP, fldP, extP, extTake, sliP, optN, appP, emptyOr, cvSP, cvMP, cvIP, hget, hset, partP, cellsOf, callArgs, callTake, fillP, partsOf, elemParts, elemsOf, chunk, PV.isCell, mmP, eqSP, eqCells, planM_nil, planM_n, planM_t, planM_f, planM_s, planK, keepL_MS, keepA, MS_getD, MS_get, MS_set, getS, idxA, bxP, nckP, idxP, slsP, mkP, hik]
    refine hK _ _ (pwp_sT (by simp [runM_nil, runM_n, runM_t, runM_f, runM_s, runK, pev, ptake, putSt, arg, argT, takeAt, lend, lendL, thenP, inBlockP, binP, binBP, intP, unP, lenP, fadP, ldP, iadP, fldP, extP, extTake, sliP, optN, appP, emptyOr, cvSP, cvMP, cvIP, hget, hset, partP, cellsOf, callArgs, callTake, fillP, partsOf, elemParts, elemsOf, chunk, PV.isCell, mmP, eqSP, eqCells, planM_nil, planM_n, planM_t, planM_f, planM_s, planK, keepL_MS, keepA, MS_getD, MS_get, MS_set, getS, idxA, bxP, nckP, idxP, slsP, mkP]) (pwp_seq (pwp_block (pwp_sr fun K hK => ?_))))
    simp [runM_nil, runM_n, runM_t, runM_f, runM_s, runK, pev, ptake, putSt, arg, argT, takeAt, lend, lendL, thenP, inBlockP, binP, binBP, intP, unP, lenP, fadP, ldP, iadP, fldP, extP, extTake, sliP, optN, appP, emptyOr, cvSP, cvMP, cvIP, hget, hset, partP, cellsOf, callArgs, callTake, fillP, partsOf, elemParts, elemsOf, chunk, PV.isCell, mmP, eqSP, eqCells, planM_nil, planM_n, planM_t, planM_f, planM_s, planK, keepL_MS, keepA, MS_getD, MS_get, MS_set, getS, idxA, bxP, nckP, idxP, slsP, mkP, hik, hx, trV]
    intro b hb
    refine hK _ _ (pwp_rifE fun K hK => ?_)
    simp [runM_nil, runM_n, runM_t, runM_f, runM_s, runK, pev, ptake, putSt, arg, argT, takeAt, lend, lendL, thenP, inBlockP, binP, binBP, intP, unP, lenP, fadP, ldP, iadP, fldP, extP, extTake, sliP, optN, appP, emptyOr, cvSP, cvMP, cvIP, hget, hset, partP, cellsOf, callArgs, callTake, fillP, partsOf, elemParts, elemsOf, chunk, PV.isCell, mmP, eqSP, eqCells, planM_nil, planM_n, planM_t, planM_f, planM_s, planK, keepL_MS, keepA, MS_getD, MS_get, MS_set, getS, idxA, bxP, nckP, idxP, slsP, mkP]
    have hb3 : (acc.length + 1) * 24 ≤ 140737488355328 := by omega
    cases ho : x.o with
    | true =>
      refine hK _ _ (ifT (by simp [runM_nil, runM_n, runM_t, runM_f, runM_s, runK, pev, ptake, putSt, arg, argT, takeAt, lend, lendL, thenP, inBlockP, binP, binBP, intP, unP, lenP, fadP, ldP, iadP, fldP, extP, extTake, sliP, optN, appP, emptyOr, cvSP, cvMP, cvIP, hget, hset, partP, cellsOf, callArgs, callTake, fillP, partsOf, elemParts, elemsOf, chunk, PV.isCell, mmP, eqSP, eqCells, planM_nil, planM_n, planM_t, planM_f, planM_s, planK, keepL_MS, keepA, MS_getD, MS_get, MS_set, getS, idxA, bxP, nckP, idxP, slsP, mkP, ho]) (pwp_regionM fun K hK => ?_))
      simp [runM_nil, runM_n, runM_t, runM_f, runM_s, runK, pev, ptake, putSt, arg, argT, takeAt, lend, lendL, thenP, inBlockP, binP, binBP, intP, unP, lenP, fadP, ldP, iadP, fldP, extP, extTake, sliP, optN, appP, emptyOr, cvSP, cvMP, cvIP, hget, hset, partP, cellsOf, callArgs, callTake, fillP, partsOf, elemParts, elemsOf, chunk, PV.isCell, mmP, eqSP, eqCells, planM_nil, planM_n, planM_t, planM_f, planM_s, planK, keepL_MS, keepA, MS_getD, MS_get, MS_set, getS, idxA, bxP, nckP, idxP, slsP, mkP, hb3]
      refine hK _ _ (pwp_regionM fun K hK => ?_)
      simp [runM_nil, runM_n, runM_t, runM_f, runM_s, runK, pev, ptake, putSt, arg, argT, takeAt, lend, lendL, thenP, inBlockP, binP, binBP, intP, unP, lenP, fadP, ldP, iadP, fldP, extP, extTake, sliP, optN, appP, emptyOr, cvSP, cvMP, cvIP, hget, hset, partP, cellsOf, callArgs, callTake, fillP, partsOf, elemParts, elemsOf, chunk, PV.isCell, mmP, eqSP, eqCells, planM_nil, planM_n, planM_t, planM_f, planM_s, planK, keepL_MS, keepA, MS_getD, MS_get, MS_set, getS, idxA, bxP, nckP, idxP, slsP, mkP, hw]
      refine hK _ _ ⟨k.tr.length - (i + 1), by omega, _, _, keep_up (l' := [(3, .lst 3 (((k.tr.take (i + 1)).filter (·.o)).map trV) true), (7, .lst 3 (k.tr.map trV) false), (8, .int .i64 k.tr.length), (9, .int .i64 (i + 1 : Nat))]) ?_, ?_, i + 1, by omega, rfl, rfl, rfl⟩
      · rw [hacc]
        simp [keepA, UpA, Up_refl, UpL_refl, Up_lst, Up_agg, Up_tup, UpL_cons, getS, ho, trV]
      · exact .cons _ (List.Sublist.refl _)
    | false =>
      refine hK _ _ (ifF (by simp [runM_nil, runM_n, runM_t, runM_f, runM_s, runK, pev, ptake, putSt, arg, argT, takeAt, lend, lendL, thenP, inBlockP, binP, binBP, intP, unP, lenP, fadP, ldP, iadP, fldP, extP, extTake, sliP, optN, appP, emptyOr, cvSP, cvMP, cvIP, hget, hset, partP, cellsOf, callArgs, callTake, fillP, partsOf, elemParts, elemsOf, chunk, PV.isCell, mmP, eqSP, eqCells, planM_nil, planM_n, planM_t, planM_f, planM_s, planK, keepL_MS, keepA, MS_getD, MS_get, MS_set, getS, idxA, bxP, nckP, idxP, slsP, mkP, ho]) (pwp_skip (pwp_regionM fun K hK => ?_)))
      simp [runM_nil, runM_n, runM_t, runM_f, runM_s, runK, pev, ptake, putSt, arg, argT, takeAt, lend, lendL, thenP, inBlockP, binP, binBP, intP, unP, lenP, fadP, ldP, iadP, fldP, extP, extTake, sliP, optN, appP, emptyOr, cvSP, cvMP, cvIP, hget, hset, partP, cellsOf, callArgs, callTake, fillP, partsOf, elemParts, elemsOf, chunk, PV.isCell, mmP, eqSP, eqCells, planM_nil, planM_n, planM_t, planM_f, planM_s, planK, keepL_MS, keepA, MS_getD, MS_get, MS_set, getS, idxA, bxP, nckP, idxP, slsP, mkP, hw]
      refine hK _ _ ⟨k.tr.length - (i + 1), by omega, _, _, keep_up (l' := [(3, .lst 3 (((k.tr.take (i + 1)).filter (·.o)).map trV) true), (7, .lst 3 (k.tr.map trV) false), (8, .int .i64 k.tr.length), (9, .int .i64 (i + 1 : Nat))]) ?_, ?_, i + 1, by omega, rfl, rfl, rfl⟩
      · rw [hacc]
        simp [keepA, UpA, Up_refl, UpL_refl, Up_lst, Up_agg, Up_tup, UpL_cons, getS, ho]
      · exact .cons _ (List.Sublist.refl _)
  · simp [runM_nil, runM_n, runM_t, runM_f, runM_s, runK, pev, ptake, putSt, arg, argT, takeAt, lend, lendL, thenP, inBlockP, binP, binBP, intP, unP, lenP, fadP, ldP, iadP, fldP, extP, extTake, sliP, optN, appP, emptyOr, cvSP, cvMP, cvIP, hget, hset, partP, cellsOf, callArgs, callTake, fillP, partsOf, elemParts, elemsOf, chunk, PV.isCell, mmP, eqSP, eqCells, planM_nil, planM_n, planM_t, planM_f, planM_s, planK, keepL_MS, keepA, MS_getD, MS_get, MS_set, getS, idxA, bxP, nckP, idxP, slsP, mkP, hik]
    refine hK _ _ (pwp_seq (pwp_cF (by simp [runM_nil, runM_n, runM_t, runM_f, runM_s, runK, pev, ptake, putSt, arg, argT, takeAt, lend, lendL, thenP, inBlockP, binP, binBP, intP, unP, lenP, fadP, ldP, iadP, fldP, extP, extTake, sliP, optN, appP, emptyOr, cvSP, cvMP, cvIP, hget, hset, partP, cellsOf, callArgs, callTake, fillP, partsOf, elemParts, elemsOf, chunk, PV.isCell, mmP, eqSP, eqCells, planM_nil, planM_n, planM_t, planM_f, planM_s, planK, keepL_MS, keepA, MS_getD, MS_get, MS_set, getS, idxA, bxP, nckP, idxP, slsP, mkP]) (pwp_exit (pwp_sr fun K hK => ?_))))
    simp [runM_nil, runM_n, runM_t, runM_f, runM_s, runK, pev, ptake, putSt, arg, argT, takeAt, lend, lendL, thenP, inBlockP, binP, binBP, intP, unP, lenP, fadP, ldP, iadP, fldP, extP, extTake, sliP, optN, appP, emptyOr, cvSP, cvMP, cvIP, hget, hset, partP, cellsOf, callArgs, callTake, fillP, partsOf, elemParts, elemsOf, chunk, PV.isCell, mmP, eqSP, eqCells, planM_nil, planM_n, planM_t, planM_f, planM_s, planK, keepL_MS, keepA, MS_getD, MS_get, MS_set, getS, idxA, bxP, nckP, idxP, slsP, mkP]
    refine hK _ _ (pwp_ret ?_)
    have hii : i = k.tr.length := by omega
    subst hii
    exact ⟨.inr rfl, _, _, _, (by simp [runM_nil, runM_n, runM_t, runM_f, runM_s, runK, pev, ptake, putSt, arg, argT, takeAt, lend, lendL, thenP, inBlockP, binP, binBP, intP, unP, lenP, fadP, ldP, iadP, fldP, extP, extTake, sliP, optN, appP, emptyOr, cvSP, cvMP, cvIP, hget, hset, partP, cellsOf, callArgs, callTake, fillP, partsOf, elemParts, elemsOf, chunk, PV.isCell, mmP, eqSP, eqCells, planM_nil, planM_n, planM_t, planM_f, planM_s, planK, keepL_MS, keepA, MS_getD, MS_get, MS_set, getS, idxA, bxP, nckP, idxP, slsP, mkP, resL]; rfl), List.Sublist.refl _, Up_refl _ _, by simp [resV, opn, ← hacc0], rfl⟩
def idxOf {α : Type} (p : α → Bool) (l : List α) : Int :=
  match l.findIdx? p with
  | some i => i
  | none => -1
theorem idxOf_none {α : Type} {p : α → Bool} {l : List α} (h : ∀ x ∈ l, p x = false) : idxOf p l = -1 := by
  unfold idxOf
  rw [List.findIdx?_eq_none_iff.2 h]
theorem idxOf_some {α : Type} {p : α → Bool} {l : List α} {i : Nat} (hi : i < l.length) (h : ∀ j, (hj : j < i) → p (l[j]'(Nat.lt_trans hj hi)) = false) (hp : p l[i] = true) : idxOf p l = i := by
  unfold idxOf
  rw [List.findIdx?_eq_some_iff_getElem.2 ⟨hi, hp, fun j hj => by rw [h j hj]; simp⟩]
theorem idxOf_ge {α : Type} (p : α → Bool) (l : List α) : decide (0 ≤ idxOf p l) = l.any p := by
  unfold idxOf
  cases h : l.findIdx? p with
  | none =>
    have := List.findIdx?_eq_none_iff.1 h
    show decide ((0 : Int) ≤ -1) = _
    rw [decide_eq_false (by omega)]
    symm
    rw [List.any_eq_false]
    intro x hx
    rw [this x hx]
    simp
  | some i =>
    obtain ⟨hi, hp, _⟩ := List.findIdx?_eq_some_iff_getElem.1 h
    simp only
    rw [decide_eq_true (by omega)]
    symm
    rw [List.any_eq_true]
    exact ⟨_, List.getElem_mem hi, hp⟩
/-- slices.IndexFunc over tasks. -/
theorem indexTk (l : List Tk) (F : Nat) (cp : List PV) (p : Tk → Bool) (hl : l.length ≤ 4000000000000) (hf : ∀ k ∈ l, PSpec Try.prog F (tkV k :: lendL cp) (.bool (p k))) :
    PSpec Try.prog 32 [.lst 3 (l.map tkV) false, .fn (.func F) [] cp] (.int .i64 (idxOf p l)) := by
  intro H
  refine spec_of t32 (by simp [p32]) ?_
  simp only [p32]
  refine pwp_sr fun K hK => ?_
  simp [runM_nil, runM_n, runM_t, runM_f, runM_s, runK, pev, ptake, putSt, arg, argT, takeAt, lend, lendL, thenP, inBlockP, binP, binBP, intP, unP, lenP, fadP, ldP, iadP, fldP, extP, extTake, sliP, optN, appP, emptyOr, cvSP, cvMP, cvIP, hget, hset, partP, cellsOf, callArgs, callTake, fillP, partsOf, elemParts, elemsOf, chunk, PV.isCell, mmP, eqSP, eqCells, planM_nil, planM_n, planM_t, planM_f, planM_s, planK, keepL_MS, keepA, MS_getD, MS_get, MS_set, getS, idxA, bxP, nckP, idxP, slsP, mkP]
  refine hK _ _ (pwp_seq (pwp_sr fun K hK => ?_))
  simp [runM_nil, runM_n, runM_t, runM_f, runM_s, runK, pev, ptake, putSt, arg, argT, takeAt, lend, lendL, thenP, inBlockP, binP, binBP, intP, unP, lenP, fadP, ldP, iadP, fldP, extP, extTake, sliP, optN, appP, emptyOr, cvSP, cvMP, cvIP, hget, hset, partP, cellsOf, callArgs, callTake, fillP, partsOf, elemParts, elemsOf, chunk, PV.isCell, mmP, eqSP, eqCells, planM_nil, planM_n, planM_t, planM_f, planM_s, planK, keepL_MS, keepA, MS_getD, MS_get, MS_set, getS, idxA, bxP, nckP, idxP, slsP, mkP]
  refine hK _ _ (pwp_block ?_)
  refine pwp_loopU [0, 1, 7, 8] (fun m st H' => ∃ i, i ≤ l.length ∧ m = l.length - i ∧ H' = H ∧ (∀ j, (hj : j < i) → (hj2 : j < l.length) → p l[j] = false) ∧ st = MS 19 [(0, .lst 3 (l.map tkV) false), (1, .fn (.func F) [] cp), (7, .int .i64 l.length), (8, .int .i64 i)]) (n := l.length)
    ⟨_, H, keep_up (l' := [(0, .lst 3 (l.map tkV) false), (1, .fn (.func F) [] cp), (7, .int .i64 l.length), (8, .int .i64 0)]) (by simp [keepA, UpA, Up_refl, UpL_refl, Up_lst, Up_agg, Up_tup, UpL_cons, getS]), List.Sublist.refl _, 0, Nat.zero_le _, rfl, rfl, fun j hj => absurd hj (Nat.not_lt_zero _), rfl⟩ ?_
  rintro m st _ ⟨i, hi, rfl, rfl, hno, rfl⟩
  refine pwp_sr fun K hK => ?_
  by_cases hik : i < l.length
  · have hw : IntKind.i64.wrap ((i : Int) + 1) = ((i + 1 : Nat) : Int) := by rw [w64 (by omega) (by omega)]; rfl
    have hgx : (l.map tkV)[i]? = some (tkV l[i]) := by simp [hik]
    have hfx := hf l[i] (List.getElem_mem hik)
    simp only [tkV] at hfx hgx
    simp [runM_nil, runM_n, runM_t, runM_f, runM_s, runK, pev, ptake, putSt, arg, argT, takeAt, lend, lendL, thenP, inBlockP, binP, binBP, intP, unP, lenP, fadP, ldP, iadP, fldP, extP, extTake, sliP, optN, appP, emptyOr, cvSP, cvMP, cvIP, hget, hset, partP, cellsOf, callArgs, callTake, fillP, partsOf, elemParts, elemsOf, chunk, PV.isCell, mmP, eqSP, eqCells, planM_nil, planM_n, planM_t, planM_f, planM_s, planK, keepL_MS, keepA, MS_getD, MS_get, MS_set, getS, idxA, bxP, nckP, idxP, slsP, mkP, hik]
    refine hK _ _ (pwp_sT (by simp [runM_nil, runM_n, runM_t, runM_f, runM_s, runK, pev, ptake, putSt, arg, argT, takeAt, lend, lendL, thenP, inBlockP, binP, binBP, intP, unP, lenP, fadP, ldP, iadP, fldP, extP, extTake, sliP, optN, appP, emptyOr, cvSP, cvMP, cvIP, hget, hset, partP, cellsOf, callArgs, callTake, fillP, partsOf, elemParts, elemsOf, chunk, PV.isCell, mmP, eqSP, eqCells, planM_nil, planM_n, planM_t, planM_f, planM_s, planK, keepL_MS, keepA, MS_getD, MS_get, MS_set, getS, idxA, bxP, nckP, idxP, slsP, mkP]) (pwp_seq (pwp_block (pwp_sr fun K hK => ?_))))
    simp [runM_nil, runM_n, runM_t, runM_f, runM_s, runK, pev, ptake, putSt, arg, argT, takeAt, lend, lendL, thenP, inBlockP, binP, binBP, intP, unP, lenP, fadP, ldP, iadP, fldP, extP, extTake, sliP, optN, appP, emptyOr, cvSP, cvMP, cvIP, hget, hset, partP, cellsOf, callArgs, callTake, fillP, partsOf, elemParts, elemsOf, chunk, PV.isCell, mmP, eqSP, eqCells, planM_nil, planM_n, planM_t, planM_f, planM_s, planK, keepL_MS, keepA, MS_getD, MS_get, MS_set, getS, idxA, bxP, nckP, idxP, slsP, mkP]
    refine hK _ _ (pwp_rifE fun K hK => ?_)
    simp [runM_nil, runM_n, runM_t, runM_f, runM_s, runK, pev, ptake, putSt, arg, argT, takeAt, lend, lendL, thenP, inBlockP, binP, binBP, intP, unP, lenP, fadP, ldP, iadP, fldP, extP, extTake, sliP, optN, appP, emptyOr, cvSP, cvMP, cvIP, hget, hset, partP, cellsOf, callArgs, callTake, fillP, partsOf, elemParts, elemsOf, chunk, PV.isCell, mmP, eqSP, eqCells, planM_nil, planM_n, planM_t, planM_f, planM_s, planK, keepL_MS, keepA, MS_getD, MS_get, MS_set, getS, idxA, bxP, nckP, idxP, slsP, mkP, hik, tkV]
    refine useP hfx ?_
    simp [runM_nil, runM_n, runM_t, runM_f, runM_s, runK, pev, ptake, putSt, arg, argT, takeAt, lend, lendL, thenP, inBlockP, binP, binBP, intP, unP, lenP, fadP, ldP, iadP, fldP, extP, extTake, sliP, optN, appP, emptyOr, cvSP, cvMP, cvIP, hget, hset, partP, cellsOf, callArgs, callTake, fillP, partsOf, elemParts, elemsOf, chunk, PV.isCell, mmP, eqSP, eqCells, planM_nil, planM_n, planM_t, planM_f, planM_s, planK, keepL_MS, keepA, MS_getD, MS_get, MS_set, getS, idxA, bxP, nckP, idxP, slsP, mkP]
    cases hp : p l[i] with
    | true =>
      refine hK _ _ (ifT (by simp [runM_nil, runM_n, runM_t, runM_f, runM_s, runK, pev, ptake, putSt, arg, argT, takeAt, lend, lendL, thenP, inBlockP, binP, binBP, intP, unP, lenP, fadP, ldP, iadP, fldP, extP, extTake, sliP, optN, appP, emptyOr, cvSP, cvMP, cvIP, hget, hset, partP, cellsOf, callArgs, callTake, fillP, partsOf, elemParts, elemsOf, chunk, PV.isCell, mmP, eqSP, eqCells, planM_nil, planM_n, planM_t, planM_f, planM_s, planK, keepL_MS, keepA, MS_getD, MS_get, MS_set, getS, idxA, bxP, nckP, idxP, slsP, mkP, hp]) (pwp_sr fun K hK => ?_))
      simp [runM_nil, runM_n, runM_t, runM_f, runM_s, runK, pev, ptake, putSt, arg, argT, takeAt, lend, lendL, thenP, inBlockP, binP, binBP, intP, unP, lenP, fadP, ldP, iadP, fldP, extP, extTake, sliP, optN, appP, emptyOr, cvSP, cvMP, cvIP, hget, hset, partP, cellsOf, callArgs, callTake, fillP, partsOf, elemParts, elemsOf, chunk, PV.isCell, mmP, eqSP, eqCells, planM_nil, planM_n, planM_t, planM_f, planM_s, planK, keepL_MS, keepA, MS_getD, MS_get, MS_set, getS, idxA, bxP, nckP, idxP, slsP, mkP]
      refine hK _ _ (pwp_ret ?_)
      simp [runM_nil, runM_n, runM_t, runM_f, runM_s, runK, pev, ptake, putSt, arg, argT, takeAt, lend, lendL, thenP, inBlockP, binP, binBP, intP, unP, lenP, fadP, ldP, iadP, fldP, extP, extTake, sliP, optN, appP, emptyOr, cvSP, cvMP, cvIP, hget, hset, partP, cellsOf, callArgs, callTake, fillP, partsOf, elemParts, elemsOf, chunk, PV.isCell, mmP, eqSP, eqCells, planM_nil, planM_n, planM_t, planM_f, planM_s, planK, keepL_MS, keepA, MS_getD, MS_get, MS_set, getS, idxA, bxP, nckP, idxP, slsP, mkP, resL, resV]
      rw [idxOf_some hik (fun j hj => hno j hj (by omega)) hp]
    | false =>
      refine hK _ _ (ifF (by simp [runM_nil, runM_n, runM_t, runM_f, runM_s, runK, pev, ptake, putSt, arg, argT, takeAt, lend, lendL, thenP, inBlockP, binP, binBP, intP, unP, lenP, fadP, ldP, iadP, fldP, extP, extTake, sliP, optN, appP, emptyOr, cvSP, cvMP, cvIP, hget, hset, partP, cellsOf, callArgs, callTake, fillP, partsOf, elemParts, elemsOf, chunk, PV.isCell, mmP, eqSP, eqCells, planM_nil, planM_n, planM_t, planM_f, planM_s, planK, keepL_MS, keepA, MS_getD, MS_get, MS_set, getS, idxA, bxP, nckP, idxP, slsP, mkP, hp]) (pwp_skip (pwp_regionM fun K hK => ?_)))
      simp [runM_nil, runM_n, runM_t, runM_f, runM_s, runK, pev, ptake, putSt, arg, argT, takeAt, lend, lendL, thenP, inBlockP, binP, binBP, intP, unP, lenP, fadP, ldP, iadP, fldP, extP, extTake, sliP, optN, appP, emptyOr, cvSP, cvMP, cvIP, hget, hset, partP, cellsOf, callArgs, callTake, fillP, partsOf, elemParts, elemsOf, chunk, PV.isCell, mmP, eqSP, eqCells, planM_nil, planM_n, planM_t, planM_f, planM_s, planK, keepL_MS, keepA, MS_getD, MS_get, MS_set, getS, idxA, bxP, nckP, idxP, slsP, mkP, hw]
      refine hK _ _ ⟨l.length - (i + 1), by omega, _, _, keep_up (l' := [(0, .lst 3 (l.map tkV) false), (1, .fn (.func F) [] cp), (7, .int .i64 l.length), (8, .int .i64 (i + 1 : Nat))]) (by simp [keepA, UpA, Up_refl, UpL_refl, Up_lst, Up_agg, Up_tup, UpL_cons, getS]), List.Sublist.refl _, i + 1, by omega, rfl, rfl, ?_, rfl⟩
      intro j hj hj2
      rcases Nat.lt_or_ge j i with h | h
      · exact hno j h hj2
      · obtain rfl : j = i := by omega
        exact hp
  · simp [runM_nil, runM_n, runM_t, runM_f, runM_s, runK, pev, ptake, putSt, arg, argT, takeAt, lend, lendL, thenP, inBlockP, binP, binBP, intP, unP, lenP, fadP, ldP, iadP, fldP, extP, extTake, sliP, optN, appP, emptyOr, cvSP, cvMP, cvIP, hget, hset, partP, cellsOf, callArgs, callTake, fillP, partsOf, elemParts, elemsOf, chunk, PV.isCell, mmP, eqSP, eqCells, planM_nil, planM_n, planM_t, planM_f, planM_s, planK, keepL_MS, keepA, MS_getD, MS_get, MS_set, getS, idxA, bxP, nckP, idxP, slsP, mkP, hik]
    refine hK _ _ (pwp_seq (pwp_cF (by simp [runM_nil, runM_n, runM_t, runM_f, runM_s, runK, pev, ptake, putSt, arg, argT, takeAt, lend, lendL, thenP, inBlockP, binP, binBP, intP, unP, lenP, fadP, ldP, iadP, fldP, extP, extTake, sliP, optN, appP, emptyOr, cvSP, cvMP, cvIP, hget, hset, partP, cellsOf, callArgs, callTake, fillP, partsOf, elemParts, elemsOf, chunk, PV.isCell, mmP, eqSP, eqCells, planM_nil, planM_n, planM_t, planM_f, planM_s, planK, keepL_MS, keepA, MS_getD, MS_get, MS_set, getS, idxA, bxP, nckP, idxP, slsP, mkP]) (pwp_exit (pwp_sr fun K hK => ?_))))
    simp [runM_nil, runM_n, runM_t, runM_f, runM_s, runK, pev, ptake, putSt, arg, argT, takeAt, lend, lendL, thenP, inBlockP, binP, binBP, intP, unP, lenP, fadP, ldP, iadP, fldP, extP, extTake, sliP, optN, appP, emptyOr, cvSP, cvMP, cvIP, hget, hset, partP, cellsOf, callArgs, callTake, fillP, partsOf, elemParts, elemsOf, chunk, PV.isCell, mmP, eqSP, eqCells, planM_nil, planM_n, planM_t, planM_f, planM_s, planK, keepL_MS, keepA, MS_getD, MS_get, MS_set, getS, idxA, bxP, nckP, idxP, slsP, mkP]
    refine hK _ _ (pwp_ret ?_)
    simp [runM_nil, runM_n, runM_t, runM_f, runM_s, runK, pev, ptake, putSt, arg, argT, takeAt, lend, lendL, thenP, inBlockP, binP, binBP, intP, unP, lenP, fadP, ldP, iadP, fldP, extP, extTake, sliP, optN, appP, emptyOr, cvSP, cvMP, cvIP, hget, hset, partP, cellsOf, callArgs, callTake, fillP, partsOf, elemParts, elemsOf, chunk, PV.isCell, mmP, eqSP, eqCells, planM_nil, planM_n, planM_t, planM_f, planM_s, planK, keepL_MS, keepA, MS_getD, MS_get, MS_set, getS, idxA, bxP, nckP, idxP, slsP, mkP, resL, resV]
    rw [idxOf_none fun x hx => ?_]
    obtain ⟨j, hj, rfl⟩ := List.getElem_of_mem hx
    exact hno j (by omega) hj
/-- slices.IndexFunc over attempts. -/
theorem indexTr (l : List Tr) (F : Nat) (cp : List PV) (p : Tr → Bool) (hl : l.length ≤ 4000000000000) (hf : ∀ k ∈ l, PSpec Try.prog F (trV k :: lendL cp) (.bool (p k))) :
    PSpec Try.prog 61 [.lst 3 (l.map trV) false, .fn (.func F) [] cp] (.int .i64 (idxOf p l)) := by
  intro H
  refine spec_of t61 (by simp [p61]) ?_
  simp only [p61]
  refine pwp_sr fun K hK => ?_
  simp [runM_nil, runM_n, runM_t, runM_f, runM_s, runK, pev, ptake, putSt, arg, argT, takeAt, lend, lendL, thenP, inBlockP, binP, binBP, intP, unP, lenP, fadP, ldP, iadP, fldP, extP, extTake, sliP, optN, appP, emptyOr, cvSP, cvMP, cvIP, hget, hset, partP, cellsOf, callArgs, callTake, fillP, partsOf, elemParts, elemsOf, chunk, PV.isCell, mmP, eqSP, eqCells, planM_nil, planM_n, planM_t, planM_f, planM_s, planK, keepL_MS, keepA, MS_getD, MS_get, MS_set, getS, idxA, bxP, nckP, idxP, slsP, mkP]
  refine hK _ _ (pwp_seq (pwp_sr fun K hK => ?_))
  simp [runM_nil, runM_n, runM_t, runM_f, runM_s, runK, pev, ptake, putSt, arg, argT, takeAt, lend, lendL, thenP, inBlockP, binP, binBP, intP, unP, lenP, fadP, ldP, iadP, fldP, extP, extTake, sliP, optN, appP, emptyOr, cvSP, cvMP, cvIP, hget, hset, partP, cellsOf, callArgs, callTake, fillP, partsOf, elemParts, elemsOf, chunk, PV.isCell, mmP, eqSP, eqCells, planM_nil, planM_n, planM_t, planM_f, planM_s, planK, keepL_MS, keepA, MS_getD, MS_get, MS_set, getS, idxA, bxP, nckP, idxP, slsP, mkP]
  refine hK _ _ (pwp_block ?_)
  refine pwp_loopU [0, 1, 7, 8] (fun m st H' => ∃ i, i ≤ l.length ∧ m = l.length - i ∧ H' = H ∧ (∀ j, (hj : j < i) → (hj2 : j < l.length) → p l[j] = false) ∧ st = MS 19 [(0, .lst 3 (l.map trV) false), (1, .fn (.func F) [] cp), (7, .int .i64 l.length), (8, .int .i64 i)]) (n := l.length)
    ⟨_, H, keep_up (l' := [(0, .lst 3 (l.map trV) false), (1, .fn (.func F) [] cp), (7, .int .i64 l.length), (8, .int .i64 0)]) (by simp [keepA, UpA, Up_refl, UpL_refl, Up_lst, Up_agg, Up_tup, UpL_cons, getS]), List.Sublist.refl _, 0, Nat.zero_le _, rfl, rfl, fun j hj => absurd hj (Nat.not_lt_zero _), rfl⟩ ?_
  rintro m st _ ⟨i, hi, rfl, rfl, hno, rfl⟩
  refine pwp_sr fun K hK => ?_
  by_cases hik : i < l.length
  · have hw : IntKind.i64.wrap ((i : Int) + 1) = ((i + 1 : Nat) : Int) := by rw [w64 (by omega) (by omega)]; rfl
    have hgx : (l.map trV)[i]? = some (trV l[i]) := by simp [hik]
    have hfx := hf l[i] (List.getElem_mem hik)
    simp only [trV] at hfx hgx
    simp [runM_nil, runM_n, runM_t, runM_f, runM_s, runK, pev, ptake, putSt, arg, argT, takeAt, lend, lendL, thenP, inBlockP, binP, binBP, intP, unP, lenP, fadP, ldP, iadP, fldP, extP, extTake, sliP, optN, appP, emptyOr, cvSP, cvMP, cvIP, hget, hset, partP, cellsOf, callArgs, callTake, fillP, partsOf, elemParts, elemsOf, chunk, PV.isCell, mmP, eqSP, eqCells, planM_nil, planM_n, planM_t, planM_f, planM_s, planK, keepL_MS, keepA, MS_getD, MS_get, MS_set, getS, idxA, bxP, nckP, idxP, slsP, mkP, hik]
    refine hK _ _ (pwp_sT (by simp [runM_nil, runM_n, runM_t, runM_f, runM_s, runK, pev, ptake, putSt, arg, argT, takeAt, lend, lendL, thenP, inBlockP, binP, binBP, intP, unP, lenP, fadP, ldP, iadP, fldP, extP, extTake, sliP, optN, appP, emptyOr, cvSP, cvMP, cvIP, hget, hset, partP, cellsOf, callArgs, callTake, fillP, partsOf, elemParts, elemsOf, chunk, PV.isCell, mmP, eqSP, eqCells, planM_nil, planM_n, planM_t, planM_f, planM_s, planK, keepL_MS, keepA, MS_getD, MS_get, MS_set, getS, idxA, bxP, nckP, idxP, slsP, mkP]) (pwp_seq (pwp_block (pwp_sr fun K hK => ?_))))
    simp [runM_nil, runM_n, runM_t, runM_f, runM_s, runK, pev, ptake, putSt, arg, argT, takeAt, lend, lendL, thenP, inBlockP, binP, binBP, intP, unP, lenP, fadP, ldP, iadP, fldP, extP, extTake, sliP, optN, appP, emptyOr, cvSP, cvMP, cvIP, hget, hset, partP, cellsOf, callArgs, callTake, fillP, partsOf, elemParts, elemsOf, chunk, PV.isCell, mmP, eqSP, eqCells, planM_nil, planM_n, planM_t, planM_f, planM_s, planK, keepL_MS, keepA, MS_getD, MS_get, MS_set, getS, idxA, bxP, nckP, idxP, slsP, mkP]
    refine hK _ _ (pwp_rifE fun K hK => ?_)
    simp [runM_nil, runM_n, runM_t, runM_f, runM_s, runK, pev, ptake, putSt, arg, argT, takeAt, lend, lendL, thenP, inBlockP, binP, binBP, intP, unP, lenP, fadP, ldP, iadP, fldP, extP, extTake, sliP, optN, appP, emptyOr, cvSP, cvMP, cvIP, hget, hset, partP, cellsOf, callArgs, callTake, fillP, partsOf, elemParts, elemsOf, chunk, PV.isCell, mmP, eqSP, eqCells, planM_nil, planM_n, planM_t, planM_f, planM_s, planK, keepL_MS, keepA, MS_getD, MS_get, MS_set, getS, idxA, bxP, nckP, idxP, slsP, mkP, hik, trV]
    refine useP hfx ?_
    simp [runM_nil, runM_n, runM_t, runM_f, runM_s, runK, pev, ptake, putSt, arg, argT, takeAt, lend, lendL, thenP, inBlockP, binP, binBP, intP, unP, lenP, fadP, ldP, iadP, fldP, extP, extTake, sliP, optN, appP, emptyOr, cvSP, cvMP, cvIP, hget, hset, partP, cellsOf, callArgs, callTake, fillP, partsOf, elemParts, elemsOf, chunk, PV.isCell, mmP, eqSP, eqCells, planM_nil, planM_n, planM_t, planM_f, planM_s, planK, keepL_MS, keepA, MS_getD, MS_get, MS_set, getS, idxA, bxP, nckP, idxP, slsP, mkP]
    cases hp : p l[i] with
    | true =>
      refine hK _ _ (ifT (by simp [runM_nil, runM_n, runM_t, runM_f, runM_s, runK, pev, ptake, putSt, arg, argT, takeAt, lend, lendL, thenP, inBlockP, binP, binBP, intP, unP, lenP, fadP, ldP, iadP, fldP, extP, extTake, sliP, optN, appP, emptyOr, cvSP, cvMP, cvIP, hget, hset, partP, cellsOf, callArgs, callTake, fillP, partsOf, elemParts, elemsOf, chunk, PV.isCell, mmP, eqSP, eqCells, planM_nil, planM_n, planM_t, planM_f, planM_s, planK, keepL_MS, keepA, MS_getD, MS_get, MS_set, getS, idxA, bxP, nckP, idxP, slsP, mkP, hp]) (pwp_sr fun K hK => ?_))
      simp [runM_nil, runM_n, runM_t, runM_f, runM_s, runK, pev, ptake, putSt, arg, argT, takeAt, lend, lendL, thenP, inBlockP, binP, binBP, intP, unP, lenP, fadP, ldP, iadP, fldP, extP, extTake, sliP, optN, appP, emptyOr, cvSP, cvMP, cvIP, hget, hset, partP, cellsOf, callArgs, callTake, fillP, partsOf, elemParts, elemsOf, chunk, PV.isCell, mmP, eqSP, eqCells, planM_nil, planM_n, planM_t, planM_f, planM_s, planK, keepL_MS, keepA, MS_getD, MS_get, MS_set, getS, idxA, bxP, nckP, idxP, slsP, mkP]
      refine hK _ _ (pwp_ret ?_)
      simp [runM_nil, runM_n, runM_t, runM_f, runM_s, runK, pev, ptake, putSt, arg, argT, takeAt, lend, lendL, thenP, inBlockP, binP, binBP, intP, unP, lenP, fadP, ldP, iadP, fldP, extP, extTake, sliP, optN, appP, emptyOr, cvSP, cvMP, cvIP, hget, hset, partP, cellsOf, callArgs, callTake, fillP, partsOf, elemParts, elemsOf, chunk, PV.isCell, mmP, eqSP, eqCells, planM_nil, planM_n, planM_t, planM_f, planM_s, planK, keepL_MS, keepA, MS_getD, MS_get, MS_set, getS, idxA, bxP, nckP, idxP, slsP, mkP, resL, resV]
      rw [idxOf_some hik (fun j hj => hno j hj (by omega)) hp]
    | false =>
      refine hK _ _ (ifF (by simp [runM_nil, runM_n, runM_t, runM_f, runM_s, runK, pev, ptake, putSt, arg, argT, takeAt, lend, lendL, thenP, inBlockP, binP, binBP, intP, unP, lenP, fadP, ldP, iadP, fldP, extP, extTake, sliP, optN, appP, emptyOr, cvSP, cvMP, cvIP, hget, hset, partP, cellsOf, callArgs, callTake, fillP, partsOf, elemParts, elemsOf, chunk, PV.isCell, mmP, eqSP, eqCells, planM_nil, planM_n, planM_t, planM_f, planM_s, planK, keepL_MS, keepA, MS_getD, MS_get, MS_set, getS, idxA, bxP, nckP, idxP, slsP, mkP, hp]) (pwp_skip (pwp_regionM fun K hK => ?_)))
      simp [runM_nil, runM_n, runM_t, runM_f, runM_s, runK, pev, ptake, putSt, arg, argT, takeAt, lend, lendL, thenP, inBlockP, binP, binBP, intP, unP, lenP, fadP, ldP, iadP, fldP, extP, extTake, sliP, optN, appP, emptyOr, cvSP, cvMP, cvIP, hget, hset, partP, cellsOf, callArgs, callTake, fillP, partsOf, elemParts, elemsOf, chunk, PV.isCell, mmP, eqSP, eqCells, planM_nil, planM_n, planM_t, planM_f, planM_s, planK, keepL_MS, keepA, MS_getD, MS_get, MS_set, getS, idxA, bxP, nckP, idxP, slsP, mkP, hw]
      refine hK _ _ ⟨l.length - (i + 1), by omega, _, _, keep_up (l' := [(0, .lst 3 (l.map trV) false), (1, .fn (.func F) [] cp), (7, .int .i64 l.length), (8, .int .i64 (i + 1 : Nat))]) (by simp [keepA, UpA, Up_refl, UpL_refl, Up_lst, Up_agg, Up_tup, UpL_cons, getS]), List.Sublist.refl _, i + 1, by omega, rfl, rfl, ?_, rfl⟩
      intro j hj hj2
      rcases Nat.lt_or_ge j i with h | h
      · exact hno j h hj2
      · obtain rfl : j = i := by omega
        exact hp
  · simp [runM_nil, runM_n, runM_t, runM_f, runM_s, runK, pev, ptake, putSt, arg, argT, takeAt, lend, lendL, thenP, inBlockP, binP, binBP, intP, unP, lenP, fadP, ldP, iadP, fldP, extP, extTake, sliP, optN, appP, emptyOr, cvSP, cvMP, cvIP, hget, hset, partP, cellsOf, callArgs, callTake, fillP, partsOf, elemParts, elemsOf, chunk, PV.isCell, mmP, eqSP, eqCells, planM_nil, planM_n, planM_t, planM_f, planM_s, planK, keepL_MS, keepA, MS_getD, MS_get, MS_set, getS, idxA, bxP, nckP, idxP, slsP, mkP, hik]
    refine hK _ _ (pwp_seq (pwp_cF (by simp [runM_nil, runM_n, runM_t, runM_f, runM_s, runK, pev, ptake, putSt, arg, argT, takeAt, lend, lendL, thenP, inBlockP, binP, binBP, intP, unP, lenP, fadP, ldP, iadP, fldP, extP, extTake, sliP, optN, appP, emptyOr, cvSP, cvMP, cvIP, hget, hset, partP, cellsOf, callArgs, callTake, fillP, partsOf, elemParts, elemsOf, chunk, PV.isCell, mmP, eqSP, eqCells, planM_nil, planM_n, planM_t, planM_f, planM_s, planK, keepL_MS, keepA, MS_getD, MS_get, MS_set, getS, idxA, bxP, nckP, idxP, slsP, mkP]) (pwp_exit (pwp_sr fun K hK => ?_))))
    simp [runM_nil, runM_n, runM_t, runM_f, runM_s, runK, pev, ptake, putSt, arg, argT, takeAt, lend, lendL, thenP, inBlockP, binP, binBP, intP, unP, lenP, fadP, ldP, iadP, fldP, extP, extTake, sliP, optN, appP, emptyOr, cvSP, cvMP, cvIP, hget, hset, partP, cellsOf, callArgs, callTake, fillP, partsOf, elemParts, elemsOf, chunk, PV.isCell, mmP, eqSP, eqCells, planM_nil, planM_n, planM_t, planM_f, planM_s, planK, keepL_MS, keepA, MS_getD, MS_get, MS_set, getS, idxA, bxP, nckP, idxP, slsP, mkP]
    refine hK _ _ (pwp_ret ?_)
    simp [runM_nil, runM_n, runM_t, runM_f, runM_s, runK, pev, ptake, putSt, arg, argT, takeAt, lend, lendL, thenP, inBlockP, binP, binBP, intP, unP, lenP, fadP, ldP, iadP, fldP, extP, extTake, sliP, optN, appP, emptyOr, cvSP, cvMP, cvIP, hget, hset, partP, cellsOf, callArgs, callTake, fillP, partsOf, elemParts, elemsOf, chunk, PV.isCell, mmP, eqSP, eqCells, planM_nil, planM_n, planM_t, planM_f, planM_s, planK, keepL_MS, keepA, MS_getD, MS_get, MS_set, getS, idxA, bxP, nckP, idxP, slsP, mkP, resL, resV]
    rw [idxOf_none fun x hx => ?_]
    obtain ⟨j, hj, rfl⟩ := List.getElem_of_mem hx
    exact hno j (by omega) hj
/-- slices.ContainsFunc. -/
theorem hasTk (l : List Tk) (F : Nat) (cp : List PV) (p : Tk → Bool) (hl : l.length ≤ 4000000000000) (hf : ∀ k ∈ l, PSpec Try.prog F (tkV k :: lendL cp) (.bool (p k))) (hc : lendL cp = cp) :
    PSpec Try.prog 41 [.lst 3 (l.map tkV) false, .fn (.func F) [] cp] (.bool (l.any p)) := by
  intro H
  have hi := indexTk l F cp p hl hf
  refine spec_of t41 (by simp [p41]) ?_
  simp only [p41]
  refine pwp_sr fun K hK => ?_
  simp [runM_nil, runM_n, runM_t, runM_f, runM_s, runK, pev, ptake, putSt, arg, argT, takeAt, lend, lendL, thenP, inBlockP, binP, binBP, intP, unP, lenP, fadP, ldP, iadP, fldP, extP, extTake, sliP, optN, appP, emptyOr, cvSP, cvMP, cvIP, hget, hset, partP, cellsOf, callArgs, callTake, fillP, partsOf, elemParts, elemsOf, chunk, PV.isCell, mmP, eqSP, eqCells, planM_nil, planM_n, planM_t, planM_f, planM_s, planK, keepL_MS, keepA, MS_getD, MS_get, MS_set, getS, idxA, bxP, nckP, idxP, slsP, mkP]
  refine hK _ _ (pwp_sr fun K hK => ?_)
  simp [runM_nil, runM_n, runM_t, runM_f, runM_s, runK, pev, ptake, putSt, arg, argT, takeAt, lend, lendL, thenP, inBlockP, binP, binBP, intP, unP, lenP, fadP, ldP, iadP, fldP, extP, extTake, sliP, optN, appP, emptyOr, cvSP, cvMP, cvIP, hget, hset, partP, cellsOf, callArgs, callTake, fillP, partsOf, elemParts, elemsOf, chunk, PV.isCell, mmP, eqSP, eqCells, planM_nil, planM_n, planM_t, planM_f, planM_s, planK, keepL_MS, keepA, MS_getD, MS_get, MS_set, getS, idxA, bxP, nckP, idxP, slsP, mkP]
  refine useP hi ?_
  simp [runM_nil, runM_n, runM_t, runM_f, runM_s, runK, pev, ptake, putSt, arg, argT, takeAt, lend, lendL, thenP, inBlockP, binP, binBP, intP, unP, lenP, fadP, ldP, iadP, fldP, extP, extTake, sliP, optN, appP, emptyOr, cvSP, cvMP, cvIP, hget, hset, partP, cellsOf, callArgs, callTake, fillP, partsOf, elemParts, elemsOf, chunk, PV.isCell, mmP, eqSP, eqCells, planM_nil, planM_n, planM_t, planM_f, planM_s, planK, keepL_MS, keepA, MS_getD, MS_get, MS_set, getS, idxA, bxP, nckP, idxP, slsP, mkP]
  refine hK _ _ (pwp_ret ?_)
  simp [runM_nil, runM_n, runM_t, runM_f, runM_s, runK, pev, ptake, putSt, arg, argT, takeAt, lend, lendL, thenP, inBlockP, binP, binBP, intP, unP, lenP, fadP, ldP, iadP, fldP, extP, extTake, sliP, optN, appP, emptyOr, cvSP, cvMP, cvIP, hget, hset, partP, cellsOf, callArgs, callTake, fillP, partsOf, elemParts, elemsOf, chunk, PV.isCell, mmP, eqSP, eqCells, planM_nil, planM_n, planM_t, planM_f, planM_s, planK, keepL_MS, keepA, MS_getD, MS_get, MS_set, getS, idxA, bxP, nckP, idxP, slsP, mkP, resL, resV, idxOf_ge]
/-- slices.ContainsFunc. -/
theorem hasTr (l : List Tr) (F : Nat) (cp : List PV) (p : Tr → Bool) (hl : l.length ≤ 4000000000000) (hf : ∀ k ∈ l, PSpec Try.prog F (trV k :: lendL cp) (.bool (p k))) (hc : lendL cp = cp) :
    PSpec Try.prog 34 [.lst 3 (l.map trV) false, .fn (.func F) [] cp] (.bool (l.any p)) := by
  intro H
  have hi := indexTr l F cp p hl hf
  refine spec_of t34 (by simp [p34]) ?_
  simp only [p34]
  refine pwp_sr fun K hK => ?_
  simp [runM_nil, runM_n, runM_t, runM_f, runM_s, runK, pev, ptake, putSt, arg, argT, takeAt, lend, lendL, thenP, inBlockP, binP, binBP, intP, unP, lenP, fadP, ldP, iadP, fldP, extP, extTake, sliP, optN, appP, emptyOr, cvSP, cvMP, cvIP, hget, hset, partP, cellsOf, callArgs, callTake, fillP, partsOf, elemParts, elemsOf, chunk, PV.isCell, mmP, eqSP, eqCells, planM_nil, planM_n, planM_t, planM_f, planM_s, planK, keepL_MS, keepA, MS_getD, MS_get, MS_set, getS, idxA, bxP, nckP, idxP, slsP, mkP]
  refine hK _ _ (pwp_sr fun K hK => ?_)
  simp [runM_nil, runM_n, runM_t, runM_f, runM_s, runK, pev, ptake, putSt, arg, argT, takeAt, lend, lendL, thenP, inBlockP, binP, binBP, intP, unP, lenP, fadP, ldP, iadP, fldP, extP, extTake, sliP, optN, appP, emptyOr, cvSP, cvMP, cvIP, hget, hset, partP, cellsOf, callArgs, callTake, fillP, partsOf, elemParts, elemsOf, chunk, PV.isCell, mmP, eqSP, eqCells, planM_nil, planM_n, planM_t, planM_f, planM_s, planK, keepL_MS, keepA, MS_getD, MS_get, MS_set, getS, idxA, bxP, nckP, idxP, slsP, mkP]
  refine useP hi ?_
  simp [runM_nil, runM_n, runM_t, runM_f, runM_s, runK, pev, ptake, putSt, arg, argT, takeAt, lend, lendL, thenP, inBlockP, binP, binBP, intP, unP, lenP, fadP, ldP, iadP, fldP, extP, extTake, sliP, optN, appP, emptyOr, cvSP, cvMP, cvIP, hget, hset, partP, cellsOf, callArgs, callTake, fillP, partsOf, elemParts, elemsOf, chunk, PV.isCell, mmP, eqSP, eqCells, planM_nil, planM_n, planM_t, planM_f, planM_s, planK, keepL_MS, keepA, MS_getD, MS_get, MS_set, getS, idxA, bxP, nckP, idxP, slsP, mkP]
  refine hK _ _ (pwp_ret ?_)
  simp [runM_nil, runM_n, runM_t, runM_f, runM_s, runK, pev, ptake, putSt, arg, argT, takeAt, lend, lendL, thenP, inBlockP, binP, binBP, intP, unP, lenP, fadP, ldP, iadP, fldP, extP, extTake, sliP, optN, appP, emptyOr, cvSP, cvMP, cvIP, hget, hset, partP, cellsOf, callArgs, callTake, fillP, partsOf, elemParts, elemsOf, chunk, PV.isCell, mmP, eqSP, eqCells, planM_nil, planM_n, planM_t, planM_f, planM_s, planK, keepL_MS, keepA, MS_getD, MS_get, MS_set, getS, idxA, bxP, nckP, idxP, slsP, mkP, resL, resV, idxOf_ge]
def twice : List Tr → Bool
  | [a, b] => decide (a.w = b.w)
  | _ => false
def mayK (k : Tk) : Bool := decide ((k.tr.length : Int) ≤ 500) && (inB k.dn (-1) (k.tr.length - 1) && (decide (0 ≤ k.fl) && (decide (((opn k).length : Int) ≤ 2) && (!twice (opn k) && (decide (opn k = []) || decide (k.dn = -1))))))
def mayT (t : Tb) : Bool := inB t.cap 1 10 && (inB t.tm 1 1000 && (decide ((t.l.length : Int) ≤ 200) && t.l.all mayK))
theorem may_ok (k : Tk) (hl : k.tr.length ≤ 4000000000000) : PSpec Try.prog 39 [tkV k] (.bool (mayK k)) := by
  intro H
  have ho := open_ok k hl
  simp only [tkV] at ho
  have hw : IntKind.i64.wrap ((k.tr.length : Int) - 1) = (k.tr.length : Int) - 1 := w64 (by omega) (by omega)
  refine spec_of t39 (by simp [p39]) ?_
  simp only [p39]
  refine pwp_sr fun K hK => ?_
  simp [runM_nil, runM_n, runM_t, runM_f, runM_s, runK, pev, ptake, putSt, arg, argT, takeAt, lend, lendL, thenP, inBlockP, binP, binBP, intP, unP, lenP, fadP, ldP, iadP, fldP, extP, extTake, sliP, optN, appP, emptyOr, cvSP, cvMP, cvIP, hget, hset, partP, cellsOf, callArgs, callTake, fillP, partsOf, elemParts, elemsOf, chunk, PV.isCell, mmP, eqSP, eqCells, planM_nil, planM_n, planM_t, planM_f, planM_s, planK, keepL_MS, keepA, MS_getD, MS_get, MS_set, getS, idxA, bxP, nckP, idxP, slsP, mkP, tkV]
  refine hK _ _ (pwp_sr fun K hK => ?_)
  simp [runM_nil, runM_n, runM_t, runM_f, runM_s, runK, pev, ptake, putSt, arg, argT, takeAt, lend, lendL, thenP, inBlockP, binP, binBP, intP, unP, lenP, fadP, ldP, iadP, fldP, extP, extTake, sliP, optN, appP, emptyOr, cvSP, cvMP, cvIP, hget, hset, partP, cellsOf, callArgs, callTake, fillP, partsOf, elemParts, elemsOf, chunk, PV.isCell, mmP, eqSP, eqCells, planM_nil, planM_n, planM_t, planM_f, planM_s, planK, keepL_MS, keepA, MS_getD, MS_get, MS_set, getS, idxA, bxP, nckP, idxP, slsP, mkP]
  refine useP ho ?_
  simp [runM_nil, runM_n, runM_t, runM_f, runM_s, runK, pev, ptake, putSt, arg, argT, takeAt, lend, lendL, thenP, inBlockP, binP, binBP, intP, unP, lenP, fadP, ldP, iadP, fldP, extP, extTake, sliP, optN, appP, emptyOr, cvSP, cvMP, cvIP, hget, hset, partP, cellsOf, callArgs, callTake, fillP, partsOf, elemParts, elemsOf, chunk, PV.isCell, mmP, eqSP, eqCells, planM_nil, planM_n, planM_t, planM_f, planM_s, planK, keepL_MS, keepA, MS_getD, MS_get, MS_set, getS, idxA, bxP, nckP, idxP, slsP, mkP]
  refine hK _ _ (pwp_sd hmix fun K hK => ?_)
  have key : ∀ st', keepL [1, 3, 4] 0 st' = MS 58 [(1, .ip 3 [.agg [.lst 3 (k.tr.map trV) false, .int .i64 k.dn, .int .i64 k.fl]] 0 0), (3, .lst 3 ((opn k).map trV) true), (4, .bool (twice (opn k)))] → K st' H := by
    intro st' e
    refine hK _ _ (pwp_keep [1, 3, 4] ?_)
    rw [e]
    refine pwp_sr fun K hK => ?_
    simp [runM_nil, runM_n, runM_t, runM_f, runM_s, runK, pev, ptake, putSt, arg, argT, takeAt, lend, lendL, thenP, inBlockP, binP, binBP, intP, unP, lenP, fadP, ldP, iadP, fldP, extP, extTake, sliP, optN, appP, emptyOr, cvSP, cvMP, cvIP, hget, hset, partP, cellsOf, callArgs, callTake, fillP, partsOf, elemParts, elemsOf, chunk, PV.isCell, mmP, eqSP, eqCells, planM_nil, planM_n, planM_t, planM_f, planM_s, planK, keepL_MS, keepA, MS_getD, MS_get, MS_set, getS, idxA, bxP, nckP, idxP, slsP, mkP]
    by_cases h1 : (k.tr.length : Int) ≤ 500
    rotate_left
    · simp [runM_nil, runM_n, runM_t, runM_f, runM_s, runK, pev, ptake, putSt, arg, argT, takeAt, lend, lendL, thenP, inBlockP, binP, binBP, intP, unP, lenP, fadP, ldP, iadP, fldP, extP, extTake, sliP, optN, appP, emptyOr, cvSP, cvMP, cvIP, hget, hset, partP, cellsOf, callArgs, callTake, fillP, partsOf, elemParts, elemsOf, chunk, PV.isCell, mmP, eqSP, eqCells, planM_nil, planM_n, planM_t, planM_f, planM_s, planK, keepL_MS, keepA, MS_getD, MS_get, MS_set, getS, idxA, bxP, nckP, idxP, slsP, mkP, h1]
      refine hK _ _ (pwp_ret ?_)
      simp [runM_nil, runM_n, runM_t, runM_f, runM_s, runK, pev, ptake, putSt, arg, argT, takeAt, lend, lendL, thenP, inBlockP, binP, binBP, intP, unP, lenP, fadP, ldP, iadP, fldP, extP, extTake, sliP, optN, appP, emptyOr, cvSP, cvMP, cvIP, hget, hset, partP, cellsOf, callArgs, callTake, fillP, partsOf, elemParts, elemsOf, chunk, PV.isCell, mmP, eqSP, eqCells, planM_nil, planM_n, planM_t, planM_f, planM_s, planK, keepL_MS, keepA, MS_getD, MS_get, MS_set, getS, idxA, bxP, nckP, idxP, slsP, mkP, resL, resV, mayK, h1]
    simp [runM_nil, runM_n, runM_t, runM_f, runM_s, runK, pev, ptake, putSt, arg, argT, takeAt, lend, lendL, thenP, inBlockP, binP, binBP, intP, unP, lenP, fadP, ldP, iadP, fldP, extP, extTake, sliP, optN, appP, emptyOr, cvSP, cvMP, cvIP, hget, hset, partP, cellsOf, callArgs, callTake, fillP, partsOf, elemParts, elemsOf, chunk, PV.isCell, mmP, eqSP, eqCells, planM_nil, planM_n, planM_t, planM_f, planM_s, planK, keepL_MS, keepA, MS_getD, MS_get, MS_set, getS, idxA, bxP, nckP, idxP, slsP, mkP, h1, hw]
    refine useP (isIn _ _ _) ?_
    simp [runM_nil, runM_n, runM_t, runM_f, runM_s, runK, pev, ptake, putSt, arg, argT, takeAt, lend, lendL, thenP, inBlockP, binP, binBP, intP, unP, lenP, fadP, ldP, iadP, fldP, extP, extTake, sliP, optN, appP, emptyOr, cvSP, cvMP, cvIP, hget, hset, partP, cellsOf, callArgs, callTake, fillP, partsOf, elemParts, elemsOf, chunk, PV.isCell, mmP, eqSP, eqCells, planM_nil, planM_n, planM_t, planM_f, planM_s, planK, keepL_MS, keepA, MS_getD, MS_get, MS_set, getS, idxA, bxP, nckP, idxP, slsP, mkP]
    cases h2 : inB k.dn (-1) (k.tr.length - 1)
    · simp [runM_nil, runM_n, runM_t, runM_f, runM_s, runK, pev, ptake, putSt, arg, argT, takeAt, lend, lendL, thenP, inBlockP, binP, binBP, intP, unP, lenP, fadP, ldP, iadP, fldP, extP, extTake, sliP, optN, appP, emptyOr, cvSP, cvMP, cvIP, hget, hset, partP, cellsOf, callArgs, callTake, fillP, partsOf, elemParts, elemsOf, chunk, PV.isCell, mmP, eqSP, eqCells, planM_nil, planM_n, planM_t, planM_f, planM_s, planK, keepL_MS, keepA, MS_getD, MS_get, MS_set, getS, idxA, bxP, nckP, idxP, slsP, mkP, h2]
      refine hK _ _ (pwp_ret ?_)
      simp [runM_nil, runM_n, runM_t, runM_f, runM_s, runK, pev, ptake, putSt, arg, argT, takeAt, lend, lendL, thenP, inBlockP, binP, binBP, intP, unP, lenP, fadP, ldP, iadP, fldP, extP, extTake, sliP, optN, appP, emptyOr, cvSP, cvMP, cvIP, hget, hset, partP, cellsOf, callArgs, callTake, fillP, partsOf, elemParts, elemsOf, chunk, PV.isCell, mmP, eqSP, eqCells, planM_nil, planM_n, planM_t, planM_f, planM_s, planK, keepL_MS, keepA, MS_getD, MS_get, MS_set, getS, idxA, bxP, nckP, idxP, slsP, mkP, resL, resV, mayK, h2]
    simp [runM_nil, runM_n, runM_t, runM_f, runM_s, runK, pev, ptake, putSt, arg, argT, takeAt, lend, lendL, thenP, inBlockP, binP, binBP, intP, unP, lenP, fadP, ldP, iadP, fldP, extP, extTake, sliP, optN, appP, emptyOr, cvSP, cvMP, cvIP, hget, hset, partP, cellsOf, callArgs, callTake, fillP, partsOf, elemParts, elemsOf, chunk, PV.isCell, mmP, eqSP, eqCells, planM_nil, planM_n, planM_t, planM_f, planM_s, planK, keepL_MS, keepA, MS_getD, MS_get, MS_set, getS, idxA, bxP, nckP, idxP, slsP, mkP, h2]
    by_cases h3 : 0 ≤ k.fl
    rotate_left
    · simp [runM_nil, runM_n, runM_t, runM_f, runM_s, runK, pev, ptake, putSt, arg, argT, takeAt, lend, lendL, thenP, inBlockP, binP, binBP, intP, unP, lenP, fadP, ldP, iadP, fldP, extP, extTake, sliP, optN, appP, emptyOr, cvSP, cvMP, cvIP, hget, hset, partP, cellsOf, callArgs, callTake, fillP, partsOf, elemParts, elemsOf, chunk, PV.isCell, mmP, eqSP, eqCells, planM_nil, planM_n, planM_t, planM_f, planM_s, planK, keepL_MS, keepA, MS_getD, MS_get, MS_set, getS, idxA, bxP, nckP, idxP, slsP, mkP, h3]
      refine hK _ _ (pwp_ret ?_)
      simp [runM_nil, runM_n, runM_t, runM_f, runM_s, runK, pev, ptake, putSt, arg, argT, takeAt, lend, lendL, thenP, inBlockP, binP, binBP, intP, unP, lenP, fadP, ldP, iadP, fldP, extP, extTake, sliP, optN, appP, emptyOr, cvSP, cvMP, cvIP, hget, hset, partP, cellsOf, callArgs, callTake, fillP, partsOf, elemParts, elemsOf, chunk, PV.isCell, mmP, eqSP, eqCells, planM_nil, planM_n, planM_t, planM_f, planM_s, planK, keepL_MS, keepA, MS_getD, MS_get, MS_set, getS, idxA, bxP, nckP, idxP, slsP, mkP, resL, resV, mayK, h3]
    simp [runM_nil, runM_n, runM_t, runM_f, runM_s, runK, pev, ptake, putSt, arg, argT, takeAt, lend, lendL, thenP, inBlockP, binP, binBP, intP, unP, lenP, fadP, ldP, iadP, fldP, extP, extTake, sliP, optN, appP, emptyOr, cvSP, cvMP, cvIP, hget, hset, partP, cellsOf, callArgs, callTake, fillP, partsOf, elemParts, elemsOf, chunk, PV.isCell, mmP, eqSP, eqCells, planM_nil, planM_n, planM_t, planM_f, planM_s, planK, keepL_MS, keepA, MS_getD, MS_get, MS_set, getS, idxA, bxP, nckP, idxP, slsP, mkP, h3]
    by_cases h4 : ((opn k).length : Int) ≤ 2
    rotate_left
    · simp [runM_nil, runM_n, runM_t, runM_f, runM_s, runK, pev, ptake, putSt, arg, argT, takeAt, lend, lendL, thenP, inBlockP, binP, binBP, intP, unP, lenP, fadP, ldP, iadP, fldP, extP, extTake, sliP, optN, appP, emptyOr, cvSP, cvMP, cvIP, hget, hset, partP, cellsOf, callArgs, callTake, fillP, partsOf, elemParts, elemsOf, chunk, PV.isCell, mmP, eqSP, eqCells, planM_nil, planM_n, planM_t, planM_f, planM_s, planK, keepL_MS, keepA, MS_getD, MS_get, MS_set, getS, idxA, bxP, nckP, idxP, slsP, mkP, h4]
      refine hK _ _ (pwp_ret ?_)
      simp [runM_nil, runM_n, runM_t, runM_f, runM_s, runK, pev, ptake, putSt, arg, argT, takeAt, lend, lendL, thenP, inBlockP, binP, binBP, intP, unP, lenP, fadP, ldP, iadP, fldP, extP, extTake, sliP, optN, appP, emptyOr, cvSP, cvMP, cvIP, hget, hset, partP, cellsOf, callArgs, callTake, fillP, partsOf, elemParts, elemsOf, chunk, PV.isCell, mmP, eqSP, eqCells, planM_nil, planM_n, planM_t, planM_f, planM_s, planK, keepL_MS, keepA, MS_getD, MS_get, MS_set, getS, idxA, bxP, nckP, idxP, slsP, mkP, resL, resV, mayK, h4]
    simp [runM_nil, runM_n, runM_t, runM_f, runM_s, runK, pev, ptake, putSt, arg, argT, takeAt, lend, lendL, thenP, inBlockP, binP, binBP, intP, unP, lenP, fadP, ldP, iadP, fldP, extP, extTake, sliP, optN, appP, emptyOr, cvSP, cvMP, cvIP, hget, hset, partP, cellsOf, callArgs, callTake, fillP, partsOf, elemParts, elemsOf, chunk, PV.isCell, mmP, eqSP, eqCells, planM_nil, planM_n, planM_t, planM_f, planM_s, planK, keepL_MS, keepA, MS_getD, MS_get, MS_set, getS, idxA, bxP, nckP, idxP, slsP, mkP, h4]
    cases h5 : twice (opn k) with
    | true =>
      simp [runM_nil, runM_n, runM_t, runM_f, runM_s, runK, pev, ptake, putSt, arg, argT, takeAt, lend, lendL, thenP, inBlockP, binP, binBP, intP, unP, lenP, fadP, ldP, iadP, fldP, extP, extTake, sliP, optN, appP, emptyOr, cvSP, cvMP, cvIP, hget, hset, partP, cellsOf, callArgs, callTake, fillP, partsOf, elemParts, elemsOf, chunk, PV.isCell, mmP, eqSP, eqCells, planM_nil, planM_n, planM_t, planM_f, planM_s, planK, keepL_MS, keepA, MS_getD, MS_get, MS_set, getS, idxA, bxP, nckP, idxP, slsP, mkP, h5]
      refine hK _ _ (pwp_ret ?_)
      simp [runM_nil, runM_n, runM_t, runM_f, runM_s, runK, pev, ptake, putSt, arg, argT, takeAt, lend, lendL, thenP, inBlockP, binP, binBP, intP, unP, lenP, fadP, ldP, iadP, fldP, extP, extTake, sliP, optN, appP, emptyOr, cvSP, cvMP, cvIP, hget, hset, partP, cellsOf, callArgs, callTake, fillP, partsOf, elemParts, elemsOf, chunk, PV.isCell, mmP, eqSP, eqCells, planM_nil, planM_n, planM_t, planM_f, planM_s, planK, keepL_MS, keepA, MS_getD, MS_get, MS_set, getS, idxA, bxP, nckP, idxP, slsP, mkP, resL, resV, mayK, h5]
    | false =>
      simp [runM_nil, runM_n, runM_t, runM_f, runM_s, runK, pev, ptake, putSt, arg, argT, takeAt, lend, lendL, thenP, inBlockP, binP, binBP, intP, unP, lenP, fadP, ldP, iadP, fldP, extP, extTake, sliP, optN, appP, emptyOr, cvSP, cvMP, cvIP, hget, hset, partP, cellsOf, callArgs, callTake, fillP, partsOf, elemParts, elemsOf, chunk, PV.isCell, mmP, eqSP, eqCells, planM_nil, planM_n, planM_t, planM_f, planM_s, planK, keepL_MS, keepA, MS_getD, MS_get, MS_set, getS, idxA, bxP, nckP, idxP, slsP, mkP, h5]
      by_cases h6 : opn k = []
      · simp [runM_nil, runM_n, runM_t, runM_f, runM_s, runK, pev, ptake, putSt, arg, argT, takeAt, lend, lendL, thenP, inBlockP, binP, binBP, intP, unP, lenP, fadP, ldP, iadP, fldP, extP, extTake, sliP, optN, appP, emptyOr, cvSP, cvMP, cvIP, hget, hset, partP, cellsOf, callArgs, callTake, fillP, partsOf, elemParts, elemsOf, chunk, PV.isCell, mmP, eqSP, eqCells, planM_nil, planM_n, planM_t, planM_f, planM_s, planK, keepL_MS, keepA, MS_getD, MS_get, MS_set, getS, idxA, bxP, nckP, idxP, slsP, mkP, h6]
        refine hK _ _ (pwp_ret ?_)
        simp [runM_nil, runM_n, runM_t, runM_f, runM_s, runK, pev, ptake, putSt, arg, argT, takeAt, lend, lendL, thenP, inBlockP, binP, binBP, intP, unP, lenP, fadP, ldP, iadP, fldP, extP, extTake, sliP, optN, appP, emptyOr, cvSP, cvMP, cvIP, hget, hset, partP, cellsOf, callArgs, callTake, fillP, partsOf, elemParts, elemsOf, chunk, PV.isCell, mmP, eqSP, eqCells, planM_nil, planM_n, planM_t, planM_f, planM_s, planK, keepL_MS, keepA, MS_getD, MS_get, MS_set, getS, idxA, bxP, nckP, idxP, slsP, mkP, resL, resV, mayK, h1, h2, h3, h4, h5, h6, twice]
      · simp [runM_nil, runM_n, runM_t, runM_f, runM_s, runK, pev, ptake, putSt, arg, argT, takeAt, lend, lendL, thenP, inBlockP, binP, binBP, intP, unP, lenP, fadP, ldP, iadP, fldP, extP, extTake, sliP, optN, appP, emptyOr, cvSP, cvMP, cvIP, hget, hset, partP, cellsOf, callArgs, callTake, fillP, partsOf, elemParts, elemsOf, chunk, PV.isCell, mmP, eqSP, eqCells, planM_nil, planM_n, planM_t, planM_f, planM_s, planK, keepL_MS, keepA, MS_getD, MS_get, MS_set, getS, idxA, bxP, nckP, idxP, slsP, mkP, h6]
        refine hK _ _ (pwp_ret ?_)
        simp [runM_nil, runM_n, runM_t, runM_f, runM_s, runK, pev, ptake, putSt, arg, argT, takeAt, lend, lendL, thenP, inBlockP, binP, binBP, intP, unP, lenP, fadP, ldP, iadP, fldP, extP, extTake, sliP, optN, appP, emptyOr, cvSP, cvMP, cvIP, hget, hset, partP, cellsOf, callArgs, callTake, fillP, partsOf, elemParts, elemsOf, chunk, PV.isCell, mmP, eqSP, eqCells, planM_nil, planM_n, planM_t, planM_f, planM_s, planK, keepL_MS, keepA, MS_getD, MS_get, MS_set, getS, idxA, bxP, nckP, idxP, slsP, mkP, resL, resV, mayK, h1, h2, h3, h4, h5, h6]
  clear hK
  generalize opn k = o at *
  rcases o with _ | ⟨a, _ | ⟨b, _ | ⟨c, o⟩⟩⟩
  · simp [runM_nil, runM_n, runM_t, runM_f, runM_s, runK, pev, ptake, putSt, arg, argT, takeAt, lend, lendL, thenP, inBlockP, binP, binBP, intP, unP, lenP, fadP, ldP, iadP, fldP, extP, extTake, sliP, optN, appP, emptyOr, cvSP, cvMP, cvIP, hget, hset, partP, cellsOf, callArgs, callTake, fillP, partsOf, elemParts, elemsOf, chunk, PV.isCell, mmP, eqSP, eqCells, planM_nil, planM_n, planM_t, planM_f, planM_s, planK, keepL_MS, keepA, MS_getD, MS_get, MS_set, getS, idxA, bxP, nckP, idxP, slsP, mkP]
    exact key _ (by simp [keepL_MS, keepA, getS, twice])
  · simp [runM_nil, runM_n, runM_t, runM_f, runM_s, runK, pev, ptake, putSt, arg, argT, takeAt, lend, lendL, thenP, inBlockP, binP, binBP, intP, unP, lenP, fadP, ldP, iadP, fldP, extP, extTake, sliP, optN, appP, emptyOr, cvSP, cvMP, cvIP, hget, hset, partP, cellsOf, callArgs, callTake, fillP, partsOf, elemParts, elemsOf, chunk, PV.isCell, mmP, eqSP, eqCells, planM_nil, planM_n, planM_t, planM_f, planM_s, planK, keepL_MS, keepA, MS_getD, MS_get, MS_set, getS, idxA, bxP, nckP, idxP, slsP, mkP]
    exact key _ (by simp [keepL_MS, keepA, getS, twice])
  · simp [runM_nil, runM_n, runM_t, runM_f, runM_s, runK, pev, ptake, putSt, arg, argT, takeAt, lend, lendL, thenP, inBlockP, binP, binBP, intP, unP, lenP, fadP, ldP, iadP, fldP, extP, extTake, sliP, optN, appP, emptyOr, cvSP, cvMP, cvIP, hget, hset, partP, cellsOf, callArgs, callTake, fillP, partsOf, elemParts, elemsOf, chunk, PV.isCell, mmP, eqSP, eqCells, planM_nil, planM_n, planM_t, planM_f, planM_s, planK, keepL_MS, keepA, MS_getD, MS_get, MS_set, getS, idxA, bxP, nckP, idxP, slsP, mkP, trV]
    exact key _ (by simp [keepL_MS, keepA, getS, twice, trV])
  · have hne : ¬ ((o.length : Int) + 1 + 1 + 1 = 2) := by omega
    simp [runM_nil, runM_n, runM_t, runM_f, runM_s, runK, pev, ptake, putSt, arg, argT, takeAt, lend, lendL, thenP, inBlockP, binP, binBP, intP, unP, lenP, fadP, ldP, iadP, fldP, extP, extTake, sliP, optN, appP, emptyOr, cvSP, cvMP, cvIP, hget, hset, partP, cellsOf, callArgs, callTake, fillP, partsOf, elemParts, elemsOf, chunk, PV.isCell, mmP, eqSP, eqCells, planM_nil, planM_n, planM_t, planM_f, planM_s, planK, keepL_MS, keepA, MS_getD, MS_get, MS_set, getS, idxA, bxP, nckP, idxP, slsP, mkP, hne]
    exact key _ (by simp [keepL_MS, keepA, getS, twice])
theorem notMay (k : Tk) (hl : k.tr.length ≤ 4000000000000) : PSpec Try.prog 38 [tkV k] (.bool (!mayK k)) := by
  intro H
  have ho := may_ok k hl
  simp only [tkV] at ho
  refine spec_of t38 (by simp [p38]) ?_
  simp only [p38]
  refine pwp_sr fun K hK => ?_
  simp [runM_nil, runM_n, runM_t, runM_f, runM_s, runK, pev, ptake, putSt, arg, argT, takeAt, lend, lendL, thenP, inBlockP, binP, binBP, intP, unP, lenP, fadP, ldP, iadP, fldP, extP, extTake, sliP, optN, appP, emptyOr, cvSP, cvMP, cvIP, hget, hset, partP, cellsOf, callArgs, callTake, fillP, partsOf, elemParts, elemsOf, chunk, PV.isCell, mmP, eqSP, eqCells, planM_nil, planM_n, planM_t, planM_f, planM_s, planK, keepL_MS, keepA, MS_getD, MS_get, MS_set, getS, idxA, bxP, nckP, idxP, slsP, mkP, tkV]
  refine hK _ _ (pwp_sr fun K hK => ?_)
  simp [runM_nil, runM_n, runM_t, runM_f, runM_s, runK, pev, ptake, putSt, arg, argT, takeAt, lend, lendL, thenP, inBlockP, binP, binBP, intP, unP, lenP, fadP, ldP, iadP, fldP, extP, extTake, sliP, optN, appP, emptyOr, cvSP, cvMP, cvIP, hget, hset, partP, cellsOf, callArgs, callTake, fillP, partsOf, elemParts, elemsOf, chunk, PV.isCell, mmP, eqSP, eqCells, planM_nil, planM_n, planM_t, planM_f, planM_s, planK, keepL_MS, keepA, MS_getD, MS_get, MS_set, getS, idxA, bxP, nckP, idxP, slsP, mkP]
  refine useP ho ?_
  simp [runM_nil, runM_n, runM_t, runM_f, runM_s, runK, pev, ptake, putSt, arg, argT, takeAt, lend, lendL, thenP, inBlockP, binP, binBP, intP, unP, lenP, fadP, ldP, iadP, fldP, extP, extTake, sliP, optN, appP, emptyOr, cvSP, cvMP, cvIP, hget, hset, partP, cellsOf, callArgs, callTake, fillP, partsOf, elemParts, elemsOf, chunk, PV.isCell, mmP, eqSP, eqCells, planM_nil, planM_n, planM_t, planM_f, planM_s, planK, keepL_MS, keepA, MS_getD, MS_get, MS_set, getS, idxA, bxP, nckP, idxP, slsP, mkP]
  refine hK _ _ (pwp_ret ?_)
  simp [runM_nil, runM_n, runM_t, runM_f, runM_s, runK, pev, ptake, putSt, arg, argT, takeAt, lend, lendL, thenP, inBlockP, binP, binBP, intP, unP, lenP, fadP, ldP, iadP, fldP, extP, extTake, sliP, optN, appP, emptyOr, cvSP, cvMP, cvIP, hget, hset, partP, cellsOf, callArgs, callTake, fillP, partsOf, elemParts, elemsOf, chunk, PV.isCell, mmP, eqSP, eqCells, planM_nil, planM_n, planM_t, planM_f, planM_s, planK, keepL_MS, keepA, MS_getD, MS_get, MS_set, getS, idxA, bxP, nckP, idxP, slsP, mkP, resL, resV]
/-- Few enough for all that is done. -/
structure Small (t : Tb) : Prop where
  l : t.l.length ≤ 400000
  tr : ∀ k ∈ t.l, k.tr.length ≤ 400000
theorem May_ok (t : Tb) (hs : Small t) : PSpec Try.prog 14 [tbV t] (.bool (mayT t)) := by
  intro H
  have hh := hasTk t.l 38 [] (fun k => !mayK k) (by have := hs.l; omega) (fun k hk => notMay k (by have := hs.tr k hk; omega)) rfl
  have hall : t.l.any (fun k => !mayK k) = !t.l.all mayK := by
    rw [← List.not_all_eq_any_not]
  rw [hall] at hh
  refine spec_of t14 (by simp [p14]) ?_
  simp only [p14]
  refine pwp_sr fun K hK => ?_
  simp [runM_nil, runM_n, runM_t, runM_f, runM_s, runK, pev, ptake, putSt, arg, argT, takeAt, lend, lendL, thenP, inBlockP, binP, binBP, intP, unP, lenP, fadP, ldP, iadP, fldP, extP, extTake, sliP, optN, appP, emptyOr, cvSP, cvMP, cvIP, hget, hset, partP, cellsOf, callArgs, callTake, fillP, partsOf, elemParts, elemsOf, chunk, PV.isCell, mmP, eqSP, eqCells, planM_nil, planM_n, planM_t, planM_f, planM_s, planK, keepL_MS, keepA, MS_getD, MS_get, MS_set, getS, idxA, bxP, nckP, idxP, slsP, mkP, tbV]
  refine hK _ _ (pwp_sr fun K hK => ?_)
  simp [runM_nil, runM_n, runM_t, runM_f, runM_s, runK, pev, ptake, putSt, arg, argT, takeAt, lend, lendL, thenP, inBlockP, binP, binBP, intP, unP, lenP, fadP, ldP, iadP, fldP, extP, extTake, sliP, optN, appP, emptyOr, cvSP, cvMP, cvIP, hget, hset, partP, cellsOf, callArgs, callTake, fillP, partsOf, elemParts, elemsOf, chunk, PV.isCell, mmP, eqSP, eqCells, planM_nil, planM_n, planM_t, planM_f, planM_s, planK, keepL_MS, keepA, MS_getD, MS_get, MS_set, getS, idxA, bxP, nckP, idxP, slsP, mkP]
  refine hK _ _ (pwp_sr fun K hK => ?_)
  simp [runM_nil, runM_n, runM_t, runM_f, runM_s, runK, pev, ptake, putSt, arg, argT, takeAt, lend, lendL, thenP, inBlockP, binP, binBP, intP, unP, lenP, fadP, ldP, iadP, fldP, extP, extTake, sliP, optN, appP, emptyOr, cvSP, cvMP, cvIP, hget, hset, partP, cellsOf, callArgs, callTake, fillP, partsOf, elemParts, elemsOf, chunk, PV.isCell, mmP, eqSP, eqCells, planM_nil, planM_n, planM_t, planM_f, planM_s, planK, keepL_MS, keepA, MS_getD, MS_get, MS_set, getS, idxA, bxP, nckP, idxP, slsP, mkP]
  refine useP (isIn _ _ _) ?_
  simp [runM_nil, runM_n, runM_t, runM_f, runM_s, runK, pev, ptake, putSt, arg, argT, takeAt, lend, lendL, thenP, inBlockP, binP, binBP, intP, unP, lenP, fadP, ldP, iadP, fldP, extP, extTake, sliP, optN, appP, emptyOr, cvSP, cvMP, cvIP, hget, hset, partP, cellsOf, callArgs, callTake, fillP, partsOf, elemParts, elemsOf, chunk, PV.isCell, mmP, eqSP, eqCells, planM_nil, planM_n, planM_t, planM_f, planM_s, planK, keepL_MS, keepA, MS_getD, MS_get, MS_set, getS, idxA, bxP, nckP, idxP, slsP, mkP]
  cases h1 : inB t.cap 1 10
  · simp [runM_nil, runM_n, runM_t, runM_f, runM_s, runK, pev, ptake, putSt, arg, argT, takeAt, lend, lendL, thenP, inBlockP, binP, binBP, intP, unP, lenP, fadP, ldP, iadP, fldP, extP, extTake, sliP, optN, appP, emptyOr, cvSP, cvMP, cvIP, hget, hset, partP, cellsOf, callArgs, callTake, fillP, partsOf, elemParts, elemsOf, chunk, PV.isCell, mmP, eqSP, eqCells, planM_nil, planM_n, planM_t, planM_f, planM_s, planK, keepL_MS, keepA, MS_getD, MS_get, MS_set, getS, idxA, bxP, nckP, idxP, slsP, mkP, h1]
    refine hK _ _ (pwp_ret ?_)
    simp [runM_nil, runM_n, runM_t, runM_f, runM_s, runK, pev, ptake, putSt, arg, argT, takeAt, lend, lendL, thenP, inBlockP, binP, binBP, intP, unP, lenP, fadP, ldP, iadP, fldP, extP, extTake, sliP, optN, appP, emptyOr, cvSP, cvMP, cvIP, hget, hset, partP, cellsOf, callArgs, callTake, fillP, partsOf, elemParts, elemsOf, chunk, PV.isCell, mmP, eqSP, eqCells, planM_nil, planM_n, planM_t, planM_f, planM_s, planK, keepL_MS, keepA, MS_getD, MS_get, MS_set, getS, idxA, bxP, nckP, idxP, slsP, mkP, resL, resV, mayT, h1]
  simp [runM_nil, runM_n, runM_t, runM_f, runM_s, runK, pev, ptake, putSt, arg, argT, takeAt, lend, lendL, thenP, inBlockP, binP, binBP, intP, unP, lenP, fadP, ldP, iadP, fldP, extP, extTake, sliP, optN, appP, emptyOr, cvSP, cvMP, cvIP, hget, hset, partP, cellsOf, callArgs, callTake, fillP, partsOf, elemParts, elemsOf, chunk, PV.isCell, mmP, eqSP, eqCells, planM_nil, planM_n, planM_t, planM_f, planM_s, planK, keepL_MS, keepA, MS_getD, MS_get, MS_set, getS, idxA, bxP, nckP, idxP, slsP, mkP, h1]
  refine useP (isIn _ _ _) ?_
  simp [runM_nil, runM_n, runM_t, runM_f, runM_s, runK, pev, ptake, putSt, arg, argT, takeAt, lend, lendL, thenP, inBlockP, binP, binBP, intP, unP, lenP, fadP, ldP, iadP, fldP, extP, extTake, sliP, optN, appP, emptyOr, cvSP, cvMP, cvIP, hget, hset, partP, cellsOf, callArgs, callTake, fillP, partsOf, elemParts, elemsOf, chunk, PV.isCell, mmP, eqSP, eqCells, planM_nil, planM_n, planM_t, planM_f, planM_s, planK, keepL_MS, keepA, MS_getD, MS_get, MS_set, getS, idxA, bxP, nckP, idxP, slsP, mkP]
  cases h2 : inB t.tm 1 1000
  · simp [runM_nil, runM_n, runM_t, runM_f, runM_s, runK, pev, ptake, putSt, arg, argT, takeAt, lend, lendL, thenP, inBlockP, binP, binBP, intP, unP, lenP, fadP, ldP, iadP, fldP, extP, extTake, sliP, optN, appP, emptyOr, cvSP, cvMP, cvIP, hget, hset, partP, cellsOf, callArgs, callTake, fillP, partsOf, elemParts, elemsOf, chunk, PV.isCell, mmP, eqSP, eqCells, planM_nil, planM_n, planM_t, planM_f, planM_s, planK, keepL_MS, keepA, MS_getD, MS_get, MS_set, getS, idxA, bxP, nckP, idxP, slsP, mkP, h2]
    refine hK _ _ (pwp_ret ?_)
    simp [runM_nil, runM_n, runM_t, runM_f, runM_s, runK, pev, ptake, putSt, arg, argT, takeAt, lend, lendL, thenP, inBlockP, binP, binBP, intP, unP, lenP, fadP, ldP, iadP, fldP, extP, extTake, sliP, optN, appP, emptyOr, cvSP, cvMP, cvIP, hget, hset, partP, cellsOf, callArgs, callTake, fillP, partsOf, elemParts, elemsOf, chunk, PV.isCell, mmP, eqSP, eqCells, planM_nil, planM_n, planM_t, planM_f, planM_s, planK, keepL_MS, keepA, MS_getD, MS_get, MS_set, getS, idxA, bxP, nckP, idxP, slsP, mkP, resL, resV, mayT, h2]
  simp [runM_nil, runM_n, runM_t, runM_f, runM_s, runK, pev, ptake, putSt, arg, argT, takeAt, lend, lendL, thenP, inBlockP, binP, binBP, intP, unP, lenP, fadP, ldP, iadP, fldP, extP, extTake, sliP, optN, appP, emptyOr, cvSP, cvMP, cvIP, hget, hset, partP, cellsOf, callArgs, callTake, fillP, partsOf, elemParts, elemsOf, chunk, PV.isCell, mmP, eqSP, eqCells, planM_nil, planM_n, planM_t, planM_f, planM_s, planK, keepL_MS, keepA, MS_getD, MS_get, MS_set, getS, idxA, bxP, nckP, idxP, slsP, mkP, h2]
  by_cases h3 : (t.l.length : Int) ≤ 200
  rotate_left
  · simp [runM_nil, runM_n, runM_t, runM_f, runM_s, runK, pev, ptake, putSt, arg, argT, takeAt, lend, lendL, thenP, inBlockP, binP, binBP, intP, unP, lenP, fadP, ldP, iadP, fldP, extP, extTake, sliP, optN, appP, emptyOr, cvSP, cvMP, cvIP, hget, hset, partP, cellsOf, callArgs, callTake, fillP, partsOf, elemParts, elemsOf, chunk, PV.isCell, mmP, eqSP, eqCells, planM_nil, planM_n, planM_t, planM_f, planM_s, planK, keepL_MS, keepA, MS_getD, MS_get, MS_set, getS, idxA, bxP, nckP, idxP, slsP, mkP, h3]
    refine hK _ _ (pwp_ret ?_)
    simp [runM_nil, runM_n, runM_t, runM_f, runM_s, runK, pev, ptake, putSt, arg, argT, takeAt, lend, lendL, thenP, inBlockP, binP, binBP, intP, unP, lenP, fadP, ldP, iadP, fldP, extP, extTake, sliP, optN, appP, emptyOr, cvSP, cvMP, cvIP, hget, hset, partP, cellsOf, callArgs, callTake, fillP, partsOf, elemParts, elemsOf, chunk, PV.isCell, mmP, eqSP, eqCells, planM_nil, planM_n, planM_t, planM_f, planM_s, planK, keepL_MS, keepA, MS_getD, MS_get, MS_set, getS, idxA, bxP, nckP, idxP, slsP, mkP, resL, resV, mayT, h3]
  simp [runM_nil, runM_n, runM_t, runM_f, runM_s, runK, pev, ptake, putSt, arg, argT, takeAt, lend, lendL, thenP, inBlockP, binP, binBP, intP, unP, lenP, fadP, ldP, iadP, fldP, extP, extTake, sliP, optN, appP, emptyOr, cvSP, cvMP, cvIP, hget, hset, partP, cellsOf, callArgs, callTake, fillP, partsOf, elemParts, elemsOf, chunk, PV.isCell, mmP, eqSP, eqCells, planM_nil, planM_n, planM_t, planM_f, planM_s, planK, keepL_MS, keepA, MS_getD, MS_get, MS_set, getS, idxA, bxP, nckP, idxP, slsP, mkP, h3]
  refine useP hh ?_
  simp [runM_nil, runM_n, runM_t, runM_f, runM_s, runK, pev, ptake, putSt, arg, argT, takeAt, lend, lendL, thenP, inBlockP, binP, binBP, intP, unP, lenP, fadP, ldP, iadP, fldP, extP, extTake, sliP, optN, appP, emptyOr, cvSP, cvMP, cvIP, hget, hset, partP, cellsOf, callArgs, callTake, fillP, partsOf, elemParts, elemsOf, chunk, PV.isCell, mmP, eqSP, eqCells, planM_nil, planM_n, planM_t, planM_f, planM_s, planK, keepL_MS, keepA, MS_getD, MS_get, MS_set, getS, idxA, bxP, nckP, idxP, slsP, mkP]
  refine hK _ _ (pwp_ret ?_)
  simp [runM_nil, runM_n, runM_t, runM_f, runM_s, runK, pev, ptake, putSt, arg, argT, takeAt, lend, lendL, thenP, inBlockP, binP, binBP, intP, unP, lenP, fadP, ldP, iadP, fldP, extP, extTake, sliP, optN, appP, emptyOr, cvSP, cvMP, cvIP, hget, hset, partP, cellsOf, callArgs, callTake, fillP, partsOf, elemParts, elemsOf, chunk, PV.isCell, mmP, eqSP, eqCells, planM_nil, planM_n, planM_t, planM_f, planM_s, planK, keepL_MS, keepA, MS_getD, MS_get, MS_set, getS, idxA, bxP, nckP, idxP, slsP, mkP, resL, resV, mayT, h1, h2, h3]
def isTaskT (t : Tb) (i : Int) : Bool := inB i 0 (t.l.length - 1)
theorem isTask_ok (t : Tb) (i : Int) (hs : Small t) : PSpec Try.prog 33 [tbV t, .int .i64 i] (.bool (isTaskT t i)) := by
  intro H
  have := hs.l
  have hw : IntKind.i64.wrap ((t.l.length : Int) - 1) = (t.l.length : Int) - 1 := w64 (by omega) (by omega)
  refine spec_of t33 (by simp [p33]) ?_
  simp only [p33]
  refine pwp_sr fun K hK => ?_
  simp [runM_nil, runM_n, runM_t, runM_f, runM_s, runK, pev, ptake, putSt, arg, argT, takeAt, lend, lendL, thenP, inBlockP, binP, binBP, intP, unP, lenP, fadP, ldP, iadP, fldP, extP, extTake, sliP, optN, appP, emptyOr, cvSP, cvMP, cvIP, hget, hset, partP, cellsOf, callArgs, callTake, fillP, partsOf, elemParts, elemsOf, chunk, PV.isCell, mmP, eqSP, eqCells, planM_nil, planM_n, planM_t, planM_f, planM_s, planK, keepL_MS, keepA, MS_getD, MS_get, MS_set, getS, idxA, bxP, nckP, idxP, slsP, mkP, tbV]
  refine hK _ _ (pwp_sr fun K hK => ?_)
  simp [runM_nil, runM_n, runM_t, runM_f, runM_s, runK, pev, ptake, putSt, arg, argT, takeAt, lend, lendL, thenP, inBlockP, binP, binBP, intP, unP, lenP, fadP, ldP, iadP, fldP, extP, extTake, sliP, optN, appP, emptyOr, cvSP, cvMP, cvIP, hget, hset, partP, cellsOf, callArgs, callTake, fillP, partsOf, elemParts, elemsOf, chunk, PV.isCell, mmP, eqSP, eqCells, planM_nil, planM_n, planM_t, planM_f, planM_s, planK, keepL_MS, keepA, MS_getD, MS_get, MS_set, getS, idxA, bxP, nckP, idxP, slsP, mkP, hw]
  refine useP (isIn _ _ _) ?_
  simp [runM_nil, runM_n, runM_t, runM_f, runM_s, runK, pev, ptake, putSt, arg, argT, takeAt, lend, lendL, thenP, inBlockP, binP, binBP, intP, unP, lenP, fadP, ldP, iadP, fldP, extP, extTake, sliP, optN, appP, emptyOr, cvSP, cvMP, cvIP, hget, hset, partP, cellsOf, callArgs, callTake, fillP, partsOf, elemParts, elemsOf, chunk, PV.isCell, mmP, eqSP, eqCells, planM_nil, planM_n, planM_t, planM_f, planM_s, planK, keepL_MS, keepA, MS_getD, MS_get, MS_set, getS, idxA, bxP, nckP, idxP, slsP, mkP]
  refine hK _ _ (pwp_ret ?_)
  simp [runM_nil, runM_n, runM_t, runM_f, runM_s, runK, pev, ptake, putSt, arg, argT, takeAt, lend, lendL, thenP, inBlockP, binP, binBP, intP, unP, lenP, fadP, ldP, iadP, fldP, extP, extTake, sliP, optN, appP, emptyOr, cvSP, cvMP, cvIP, hget, hset, partP, cellsOf, callArgs, callTake, fillP, partsOf, elemParts, elemsOf, chunk, PV.isCell, mmP, eqSP, eqCells, planM_nil, planM_n, planM_t, planM_f, planM_s, planK, keepL_MS, keepA, MS_getD, MS_get, MS_set, getS, idxA, bxP, nckP, idxP, slsP, mkP, resL, resV, isTaskT]
end Go.Proofs.Ytkjibelcaeanjaa.E
