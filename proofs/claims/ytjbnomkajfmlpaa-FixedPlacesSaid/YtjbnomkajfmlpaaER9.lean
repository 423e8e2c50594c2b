/- What a split has, on plain values. -/
import Derived.Test.YtjbnomkajfmlpaaEW9
namespace Go.Proofs.Ytjbnomkajfmlpaa.E
open Go Go.RowKit Go.Proofs
set_option linter.unusedVariables false
set_option linter.unusedSimpArgs false
def recV (bs : List Int) (w a : Nat) : PV := .lst 1 [.str (cutOf bs a w)] false
def upTo (x w : Nat) : Nat := (x + w - 1) / w
theorem upTo_lt {x w i : Nat} (hw : 1 ≤ w) : i < upTo x w ↔ i * w < x := by
  unfold upTo
  rw [Nat.lt_div_iff_mul_lt (by omega)]
  rw [Nat.mul_comm]
  omega
set_option maxHeartbeats 2000000 in
theorem read_ok (bs : List Int) (w f t : Nat) (hwf : Wf8 bs) (hl : bs.length ≤ 3000) (hw : 1 ≤ w) (hw2 : w ≤ 1000) (hft : f ≤ t) (htl : t ≤ bs.length) :
    ∃ e : Int, PSpec Try.prog 20 [bytesV bs, .int .i64 f, .int .i64 t, .int .i64 w]
      (.tup [accV 1 ((List.range (upTo (min t (bs.length / w * w)) w - upTo f w)).map fun i => recV bs w (upTo f w * w + i * w)), .int .i64 e]) := by
  refine ⟨if (bs.length / w * w : Nat) < t then 2 else 0, fun H => ?_⟩
  refine spec_of t20 (by simp [p20]) ?_
  simp only [p20, bytesV]
  have hgle : bs.length / w * w ≤ bs.length := Nat.div_mul_le_self _ _
  have hcf : upTo f w * w ≤ 5000 := by
    rcases Nat.eq_zero_or_pos (upTo f w) with h | h
    · rw [h]; omega
    · have := (upTo_lt (x := f) (i := upTo f w - 1) hw).1 (by omega)
      have e : upTo f w * w = (upTo f w - 1) * w + w := by rw [← Nat.succ_mul]; congr 1; omega
      omega
  have hctk : upTo (min t (bs.length / w * w)) w ≤ bs.length / w := by
    rcases Nat.lt_or_ge (bs.length / w) (upTo (min t (bs.length / w * w)) w) with h | h
    · have := (upTo_lt hw).1 h
      omega
    · exact h
  have hct : upTo (min t (bs.length / w * w)) w * w ≤ bs.length := Nat.le_trans (Nat.mul_le_mul_right _ hctk) hgle
  have hfirst : (((f : Int) + w - 1).tdiv w) = (upTo f w : Nat) := by
    have : ((f : Int) + w - 1) = ((f + w - 1 : Nat) : Int) := by omega
    rw [this, Int.tdiv_eq_ediv_of_nonneg (by omega)]
    rfl
  have hmin : (if (bs.length / w * w : Nat) < (t : Int) then ((bs.length / w * w : Nat) : Int) else (t : Int)) = ((min t (bs.length / w * w) : Nat) : Int) := by
    split <;> omega
  have hge := upTo_lt (x := min t (bs.length / w * w)) (i := upTo (min t (bs.length / w * w)) w) hw
  have hlt := fun i => upTo_lt (x := min t (bs.length / w * w)) (i := i) hw
  generalize min t (bs.length / w * w) = m at *
  generalize hn : upTo m w - upTo f w = n
  have hcn : ∀ i, upTo f w * w + i * w = (upTo f w + i) * w := fun i => by rw [Nat.add_mul]
  have hpc := pieces_ok bs w (upTo f w * w) n m hwf hl hw hw2 (by
      rcases Nat.eq_zero_or_pos n with h | h
      · exact .inr ⟨h, hcf⟩
      · left
        rw [hcn, show upTo f w + n = upTo m w by omega]
        exact hct) (fun i hi => by have := (hlt (upTo f w + i)).1 (by omega); rw [hcn]; omega) (by
      rw [hcn]
      have h1 : ¬ ((upTo m w) * w < m) := fun h => by have := hge.2 h; omega
      have h2 : upTo m w * w ≤ (upTo f w + n) * w := Nat.mul_le_mul_right _ (by omega)
      omega)
  have hnl : n ≤ 3000 := by
    have h1 : upTo m w ≤ upTo m w * w := Nat.le_mul_of_pos_right _ hw
    omega
  have hwh := whole (bs.map (.int .u8)) w (by omega) (by simpa using hl)
  rw [List.length_map, good_eq] at hwh
  have hisw := isWidth w
  rw [decide_eq_true (show (1 : Int) ≤ w by omega), decide_eq_true (show (w : Int) ≤ 1000 by omega)] at hisw
  simp only [bytesV] at hpc
  generalize hcfw : upTo f w * w = a at *
  generalize bs.length / w * w = good at *
  have w1 : IntKind.i64.wrap ((f : Int) + w) = (f : Int) + w := w64 (by omega) (by omega)
  have w2 : IntKind.i64.wrap ((f : Int) + w - 1) = (f : Int) + w - 1 := w64 (by omega) (by omega)
  have w3 : IntKind.i64.wrap ((upTo f w : Nat) : Int) = (upTo f w : Nat) := w64 (by omega) (by have : upTo f w ≤ upTo f w * w := Nat.le_mul_of_pos_right _ hw; omega)
  have w4 : IntKind.i64.wrap (((upTo f w : Nat) : Int) * w) = a := by rw [← Int.natCast_mul, hcfw]; exact w64 (by omega) (by omega)
  have hw0 : ¬ w = 0 := by omega
  have c1 : ¬ ((f : Int) < 0) := by omega
  have c2 : ¬ (t < f) := by omega
  have c3 : ¬ (bs.length < t) := by omega
  have hmin2 : (if good < t then (good : Int) else t) = m := by simpa using hmin
  refine pwp_seq (pwp_regionM fun K hK => ?_)
  simp [runM_nil, runM_cons, runB, goes, pev, ptake, putSt, arg, argT, takeAt, lend, lendL, thenP, inBlockP, binP, binBP, intP, unP, lenP, fadP, ldP, iadP, fldP, extP, extTake, sliP, optN, appP, emptyOr, cvSP, cvMP, hget, hset, partP, cellsOf, callArgs, callTake, fillP, partsOf, elemParts, elemsOf, chunk, PV.isCell, mmP, eqSP, eqCells, planM_nil, planM_cons, planB, keepL_MS, keepA, MS_getD, MS_get, MS_set, getS, idxA]
  refine hK _ _ (pwp_seq (pwp_seq (pwp_regionM fun K hK => ?_)))
  simp [runM_nil, runM_cons, runB, goes, pev, ptake, putSt, arg, argT, takeAt, lend, lendL, thenP, inBlockP, binP, binBP, intP, unP, lenP, fadP, ldP, iadP, fldP, extP, extTake, sliP, optN, appP, emptyOr, cvSP, cvMP, hget, hset, partP, cellsOf, callArgs, callTake, fillP, partsOf, elemParts, elemsOf, chunk, PV.isCell, mmP, eqSP, eqCells, planM_nil, planM_cons, planB, keepL_MS, keepA, MS_getD, MS_get, MS_set, getS, idxA]
  refine useP hisw ?_
  simp [runM_nil, runM_cons, runB, goes, pev, ptake, putSt, arg, argT, takeAt, lend, lendL, thenP, inBlockP, binP, binBP, intP, unP, lenP, fadP, ldP, iadP, fldP, extP, extTake, sliP, optN, appP, emptyOr, cvSP, cvMP, hget, hset, partP, cellsOf, callArgs, callTake, fillP, partsOf, elemParts, elemsOf, chunk, PV.isCell, mmP, eqSP, eqCells, planM_nil, planM_cons, planB, keepL_MS, keepA, MS_getD, MS_get, MS_set, getS, idxA, c2, c3, c1]
  refine hK _ _ (pwp_cond (b := false) (by simp [runM_nil, runM_cons, runB, goes, pev, ptake, putSt, arg, argT, takeAt, lend, lendL, thenP, inBlockP, binP, binBP, intP, unP, lenP, fadP, ldP, iadP, fldP, extP, extTake, sliP, optN, appP, emptyOr, cvSP, cvMP, hget, hset, partP, cellsOf, callArgs, callTake, fillP, partsOf, elemParts, elemsOf, chunk, PV.isCell, mmP, eqSP, eqCells, planM_nil, planM_cons, planB, keepL_MS, keepA, MS_getD, MS_get, MS_set, getS, idxA]) (fun h => by cases h) (fun _ => pwp_skip ?_))
  refine pwp_seq (pwp_regionM fun K hK => ?_)
  simp [runM_nil, runM_cons, runB, goes, pev, ptake, putSt, arg, argT, takeAt, lend, lendL, thenP, inBlockP, binP, binBP, intP, unP, lenP, fadP, ldP, iadP, fldP, extP, extTake, sliP, optN, appP, emptyOr, cvSP, cvMP, hget, hset, partP, cellsOf, callArgs, callTake, fillP, partsOf, elemParts, elemsOf, chunk, PV.isCell, mmP, eqSP, eqCells, planM_nil, planM_cons, planB, keepL_MS, keepA, MS_getD, MS_get, MS_set, getS, idxA]
  refine useP hwh ?_
  simp [runM_nil, runM_cons, runB, goes, pev, ptake, putSt, arg, argT, takeAt, lend, lendL, thenP, inBlockP, binP, binBP, intP, unP, lenP, fadP, ldP, iadP, fldP, extP, extTake, sliP, optN, appP, emptyOr, cvSP, cvMP, hget, hset, partP, cellsOf, callArgs, callTake, fillP, partsOf, elemParts, elemsOf, chunk, PV.isCell, mmP, eqSP, eqCells, planM_nil, planM_cons, planB, keepL_MS, keepA, MS_getD, MS_get, MS_set, getS, idxA]
  refine hK _ _ (pwp_seq (pwp_regionM fun K hK => ?_))
  simp [runM_nil, runM_cons, runB, goes, pev, ptake, putSt, arg, argT, takeAt, lend, lendL, thenP, inBlockP, binP, binBP, intP, unP, lenP, fadP, ldP, iadP, fldP, extP, extTake, sliP, optN, appP, emptyOr, cvSP, cvMP, hget, hset, partP, cellsOf, callArgs, callTake, fillP, partsOf, elemParts, elemsOf, chunk, PV.isCell, mmP, eqSP, eqCells, planM_nil, planM_cons, planB, keepL_MS, keepA, MS_getD, MS_get, MS_set, getS, idxA, w1, w2, w3, w4, hw0, hfirst]
  refine hK _ _ (pwp_seq (pwp_regionM fun K hK => ?_))
  simp [runM_nil, runM_cons, runB, goes, pev, ptake, putSt, arg, argT, takeAt, lend, lendL, thenP, inBlockP, binP, binBP, intP, unP, lenP, fadP, ldP, iadP, fldP, extP, extTake, sliP, optN, appP, emptyOr, cvSP, cvMP, hget, hset, partP, cellsOf, callArgs, callTake, fillP, partsOf, elemParts, elemsOf, chunk, PV.isCell, mmP, eqSP, eqCells, planM_nil, planM_cons, planB, keepL_MS, keepA, MS_getD, MS_get, MS_set, getS, idxA]
  refine hK _ _ (pwp_seq (pwp_seq (pwp_regionM fun K hK => ?_)))
  simp [runM_nil, runM_cons, runB, goes, pev, ptake, putSt, arg, argT, takeAt, lend, lendL, thenP, inBlockP, binP, binBP, intP, unP, lenP, fadP, ldP, iadP, fldP, extP, extTake, sliP, optN, appP, emptyOr, cvSP, cvMP, hget, hset, partP, cellsOf, callArgs, callTake, fillP, partsOf, elemParts, elemsOf, chunk, PV.isCell, mmP, eqSP, eqCells, planM_nil, planM_cons, planB, keepL_MS, keepA, MS_getD, MS_get, MS_set, getS, idxA, hmin2]
  refine useP hpc ?_
  generalize hL : (List.range n).map (fun i => pieceV bs w (a + i * w)) = L
  have hLl : L.length = n := by rw [← hL]; simp
  have hLk : ∀ k, k < n → L[k]? = some (pieceV bs w (a + k * w)) := fun k hk => by rw [← hL]; simp [hk]
  simp [runM_nil, runM_cons, runB, goes, pev, ptake, putSt, arg, argT, takeAt, lend, lendL, thenP, inBlockP, binP, binBP, intP, unP, lenP, fadP, ldP, iadP, fldP, extP, extTake, sliP, optN, appP, emptyOr, cvSP, cvMP, hget, hset, partP, cellsOf, callArgs, callTake, fillP, partsOf, elemParts, elemsOf, chunk, PV.isCell, mmP, eqSP, eqCells, planM_nil, planM_cons, planB, keepL_MS, keepA, MS_getD, MS_get, MS_set, getS, idxA, accV, hLl]
  refine hK _ _ (pwp_block ?_)
  refine pwp_loopK [2, 8, 9, 10, 12, 50, 51, 52] (fun m' st H' => ∃ k, k ≤ n ∧ m' = n - k ∧ H' = H ∧ st = MS 66 [(2, .int .i64 t), (8, .lst 0 [] true), (9, .int .i64 0), (10, .int .i64 good),
    (12, accV 1 ((List.range k).map fun i => recV bs w (a + i * w))), (50, .lst (if L = [] then 0 else 2) L true), (51, .int .i64 n), (52, .int .i64 k)]) (n := n) ⟨H, List.Sublist.refl _, 0, Nat.zero_le _, rfl, rfl, ?_⟩ ?_
  · simp [runM_nil, runM_cons, runB, goes, pev, ptake, putSt, arg, argT, takeAt, lend, lendL, thenP, inBlockP, binP, binBP, intP, unP, lenP, fadP, ldP, iadP, fldP, extP, extTake, sliP, optN, appP, emptyOr, cvSP, cvMP, hget, hset, partP, cellsOf, callArgs, callTake, fillP, partsOf, elemParts, elemsOf, chunk, PV.isCell, mmP, eqSP, eqCells, planM_nil, planM_cons, planB, keepL_MS, keepA, MS_getD, MS_get, MS_set, getS, idxA, accV]
  rintro m' st _ ⟨k, hk, rfl, rfl, rfl⟩
  have hacc : ((List.range (k + 1)).map fun i => recV bs w (a + i * w)) = ((List.range k).map fun i => recV bs w (a + i * w)) ++ [recV bs w (a + k * w)] := by rw [List.range_succ]; simp
  generalize hacc0 : (List.range k).map (fun i => recV bs w (a + i * w)) = acc at *
  have hal : acc.length = k := by rw [← hacc0]; simp
  refine pwp_seq (pwp_regionM fun K hK => ?_)
  by_cases hkn : k < n
  · simp [runM_nil, runM_cons, runB, goes, pev, ptake, putSt, arg, argT, takeAt, lend, lendL, thenP, inBlockP, binP, binBP, intP, unP, lenP, fadP, ldP, iadP, fldP, extP, extTake, sliP, optN, appP, emptyOr, cvSP, cvMP, hget, hset, partP, cellsOf, callArgs, callTake, fillP, partsOf, elemParts, elemsOf, chunk, PV.isCell, mmP, eqSP, eqCells, planM_nil, planM_cons, planB, keepL_MS, keepA, MS_getD, MS_get, MS_set, getS, idxA, accV, hkn]
    refine hK _ _ (pwp_seq (pwp_cond (b := true) (by simp [runM_nil, runM_cons, runB, goes, pev, ptake, putSt, arg, argT, takeAt, lend, lendL, thenP, inBlockP, binP, binBP, intP, unP, lenP, fadP, ldP, iadP, fldP, extP, extTake, sliP, optN, appP, emptyOr, cvSP, cvMP, hget, hset, partP, cellsOf, callArgs, callTake, fillP, partsOf, elemParts, elemsOf, chunk, PV.isCell, mmP, eqSP, eqCells, planM_nil, planM_cons, planB, keepL_MS, keepA, MS_getD, MS_get, MS_set, getS, idxA]) (fun _ => pwp_skip ?_) (fun h => by cases h)))
    have hLne : L ≠ [] := fun h => by rw [h] at hLl; simp at hLl; omega
    have hLg : ∀ h : k < L.length, L[k] = pieceV bs w (a + k * w) := fun h => by have := hLk k hkn; rw [List.getElem?_eq_getElem h] at this; exact Option.some.inj this
    have hwr : IntKind.i64.wrap ((k : Int) + 1) = (k : Int) + 1 := w64 (by omega) (by omega)
    have hkt : ((k : Int)).toNat = k := by omega
    have hk3 : (acc.length + 1) * 24 ≤ 140737488355328 := by omega
    have hacc1 : (¬ acc = [] ∨ acc = []) = True := eq_true (Classical.em _).symm
    refine pwp_seq (pwp_block (pwp_seq (pwp_regionM fun K hK => ?_)))
    simp [runM_nil, runM_cons, runB, goes, pev, ptake, putSt, arg, argT, takeAt, lend, lendL, thenP, inBlockP, binP, binBP, intP, unP, lenP, fadP, ldP, iadP, fldP, extP, extTake, sliP, optN, appP, emptyOr, cvSP, cvMP, hget, hset, partP, cellsOf, callArgs, callTake, fillP, partsOf, elemParts, elemsOf, chunk, PV.isCell, mmP, eqSP, eqCells, planM_nil, planM_cons, planB, keepL_MS, keepA, MS_getD, MS_get, MS_set, getS, idxA, hLne, hLl, hkn, hLg, pieceV]
    intro b hb
    refine hK _ _ (pwp_regionM fun K hK => ?_)
    simp [runM_nil, runM_cons, runB, goes, pev, ptake, putSt, arg, argT, takeAt, lend, lendL, thenP, inBlockP, binP, binBP, intP, unP, lenP, fadP, ldP, iadP, fldP, extP, extTake, sliP, optN, appP, emptyOr, cvSP, cvMP, hget, hset, partP, cellsOf, callArgs, callTake, fillP, partsOf, elemParts, elemsOf, chunk, PV.isCell, mmP, eqSP, eqCells, planM_nil, planM_cons, planB, keepL_MS, keepA, MS_getD, MS_get, MS_set, getS, idxA, hk3, hacc1]
    refine hK _ _ (pwp_regionM fun K hK => ?_)
    simp [runM_nil, runM_cons, runB, goes, pev, ptake, putSt, arg, argT, takeAt, lend, lendL, thenP, inBlockP, binP, binBP, intP, unP, lenP, fadP, ldP, iadP, fldP, extP, extTake, sliP, optN, appP, emptyOr, cvSP, cvMP, hget, hset, partP, cellsOf, callArgs, callTake, fillP, partsOf, elemParts, elemsOf, chunk, PV.isCell, mmP, eqSP, eqCells, planM_nil, planM_cons, planB, keepL_MS, keepA, MS_getD, MS_get, MS_set, getS, idxA, hwr]
    refine hK _ _ ⟨n - (k + 1), by omega, _, List.sublist_cons_self _ _, k + 1, by omega, rfl, rfl, ?_⟩
    rw [hacc]
    simp [runM_nil, runM_cons, runB, goes, pev, ptake, putSt, arg, argT, takeAt, lend, lendL, thenP, inBlockP, binP, binBP, intP, unP, lenP, fadP, ldP, iadP, fldP, extP, extTake, sliP, optN, appP, emptyOr, cvSP, cvMP, hget, hset, partP, cellsOf, callArgs, callTake, fillP, partsOf, elemParts, elemsOf, chunk, PV.isCell, mmP, eqSP, eqCells, planM_nil, planM_cons, planB, keepL_MS, keepA, MS_getD, MS_get, MS_set, getS, idxA, recV, accV, hLne]
  · have hkn3 : k = n := by omega
    subst hkn3
    simp [runM_nil, runM_cons, runB, goes, pev, ptake, putSt, arg, argT, takeAt, lend, lendL, thenP, inBlockP, binP, binBP, intP, unP, lenP, fadP, ldP, iadP, fldP, extP, extTake, sliP, optN, appP, emptyOr, cvSP, cvMP, hget, hset, partP, cellsOf, callArgs, callTake, fillP, partsOf, elemParts, elemsOf, chunk, PV.isCell, mmP, eqSP, eqCells, planM_nil, planM_cons, planB, keepL_MS, keepA, MS_getD, MS_get, MS_set, getS, idxA, accV]
    refine hK _ _ (pwp_seq (pwp_cond (b := false) (by simp [runM_nil, runM_cons, runB, goes, pev, ptake, putSt, arg, argT, takeAt, lend, lendL, thenP, inBlockP, binP, binBP, intP, unP, lenP, fadP, ldP, iadP, fldP, extP, extTake, sliP, optN, appP, emptyOr, cvSP, cvMP, hget, hset, partP, cellsOf, callArgs, callTake, fillP, partsOf, elemParts, elemsOf, chunk, PV.isCell, mmP, eqSP, eqCells, planM_nil, planM_cons, planB, keepL_MS, keepA, MS_getD, MS_get, MS_set, getS, idxA]) (fun h => by cases h) (fun _ => pwp_exit ?_)))
    refine pwp_seq (pwp_seq (pwp_regionM fun K hK => ?_))
    by_cases hgt : good < t
    · simp [runM_nil, runM_cons, runB, goes, pev, ptake, putSt, arg, argT, takeAt, lend, lendL, thenP, inBlockP, binP, binBP, intP, unP, lenP, fadP, ldP, iadP, fldP, extP, extTake, sliP, optN, appP, emptyOr, cvSP, cvMP, hget, hset, partP, cellsOf, callArgs, callTake, fillP, partsOf, elemParts, elemsOf, chunk, PV.isCell, mmP, eqSP, eqCells, planM_nil, planM_cons, planB, keepL_MS, keepA, MS_getD, MS_get, MS_set, getS, idxA, hgt]
      refine hK _ _ (pwp_cond (b := true) (by simp [runM_nil, runM_cons, runB, goes, pev, ptake, putSt, arg, argT, takeAt, lend, lendL, thenP, inBlockP, binP, binBP, intP, unP, lenP, fadP, ldP, iadP, fldP, extP, extTake, sliP, optN, appP, emptyOr, cvSP, cvMP, hget, hset, partP, cellsOf, callArgs, callTake, fillP, partsOf, elemParts, elemsOf, chunk, PV.isCell, mmP, eqSP, eqCells, planM_nil, planM_cons, planB, keepL_MS, keepA, MS_getD, MS_get, MS_set, getS, idxA]) (fun _ => ?_) (fun h => by cases h))
      refine pwp_seq (pwp_regionM fun K hK => ?_)
      simp [runM_nil, runM_cons, runB, goes, pev, ptake, putSt, arg, argT, takeAt, lend, lendL, thenP, inBlockP, binP, binBP, intP, unP, lenP, fadP, ldP, iadP, fldP, extP, extTake, sliP, optN, appP, emptyOr, cvSP, cvMP, hget, hset, partP, cellsOf, callArgs, callTake, fillP, partsOf, elemParts, elemsOf, chunk, PV.isCell, mmP, eqSP, eqCells, planM_nil, planM_cons, planB, keepL_MS, keepA, MS_getD, MS_get, MS_set, getS, idxA]
      refine hK _ _ (pwp_ret ?_)
      rw [← hacc0]
      simp [runM_nil, runM_cons, runB, goes, pev, ptake, putSt, arg, argT, takeAt, lend, lendL, thenP, inBlockP, binP, binBP, intP, unP, lenP, fadP, ldP, iadP, fldP, extP, extTake, sliP, optN, appP, emptyOr, cvSP, cvMP, hget, hset, partP, cellsOf, callArgs, callTake, fillP, partsOf, elemParts, elemsOf, chunk, PV.isCell, mmP, eqSP, eqCells, planM_nil, planM_cons, planB, keepL_MS, keepA, MS_getD, MS_get, MS_set, getS, idxA, resL, resV, accV, hgt]
    · simp [runM_nil, runM_cons, runB, goes, pev, ptake, putSt, arg, argT, takeAt, lend, lendL, thenP, inBlockP, binP, binBP, intP, unP, lenP, fadP, ldP, iadP, fldP, extP, extTake, sliP, optN, appP, emptyOr, cvSP, cvMP, hget, hset, partP, cellsOf, callArgs, callTake, fillP, partsOf, elemParts, elemsOf, chunk, PV.isCell, mmP, eqSP, eqCells, planM_nil, planM_cons, planB, keepL_MS, keepA, MS_getD, MS_get, MS_set, getS, idxA, hgt]
      refine hK _ _ (pwp_cond (b := false) (by simp [runM_nil, runM_cons, runB, goes, pev, ptake, putSt, arg, argT, takeAt, lend, lendL, thenP, inBlockP, binP, binBP, intP, unP, lenP, fadP, ldP, iadP, fldP, extP, extTake, sliP, optN, appP, emptyOr, cvSP, cvMP, hget, hset, partP, cellsOf, callArgs, callTake, fillP, partsOf, elemParts, elemsOf, chunk, PV.isCell, mmP, eqSP, eqCells, planM_nil, planM_cons, planB, keepL_MS, keepA, MS_getD, MS_get, MS_set, getS, idxA]) (fun h => by cases h) (fun _ => pwp_skip ?_))
      refine pwp_seq (pwp_regionM fun K hK => ?_)
      simp [runM_nil, runM_cons, runB, goes, pev, ptake, putSt, arg, argT, takeAt, lend, lendL, thenP, inBlockP, binP, binBP, intP, unP, lenP, fadP, ldP, iadP, fldP, extP, extTake, sliP, optN, appP, emptyOr, cvSP, cvMP, hget, hset, partP, cellsOf, callArgs, callTake, fillP, partsOf, elemParts, elemsOf, chunk, PV.isCell, mmP, eqSP, eqCells, planM_nil, planM_cons, planB, keepL_MS, keepA, MS_getD, MS_get, MS_set, getS, idxA]
      refine hK _ _ (pwp_ret ?_)
      rw [← hacc0]
      simp [runM_nil, runM_cons, runB, goes, pev, ptake, putSt, arg, argT, takeAt, lend, lendL, thenP, inBlockP, binP, binBP, intP, unP, lenP, fadP, ldP, iadP, fldP, extP, extTake, sliP, optN, appP, emptyOr, cvSP, cvMP, hget, hset, partP, cellsOf, callArgs, callTake, fillP, partsOf, elemParts, elemsOf, chunk, PV.isCell, mmP, eqSP, eqCells, planM_nil, planM_cons, planB, keepL_MS, keepA, MS_getD, MS_get, MS_set, getS, idxA, resL, resV, accV, hgt]
end Go.Proofs.Ytjbnomkajfmlpaa.E
