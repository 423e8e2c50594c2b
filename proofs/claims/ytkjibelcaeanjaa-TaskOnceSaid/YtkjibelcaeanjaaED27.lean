/- The law TaskOnce: Finish and the rest twice, on plain values. -/
import Derived.Test.YtkjibelcaeanjaaEC27
namespace Go.Proofs.Ytkjibelcaeanjaa.E
open Go Go.RowKit Go.Proofs
set_option linter.unusedVariables false
set_option linter.unusedSimpArgs false
theorem isOpen_at {t : Tb} {i : Nat} (hi : i < t.l.length) {n : Int} (h : isOpenT t i n = true) : ∃ (j : Nat) (hj : j < t.l[i].tr.length), n = j ∧ t.l[i].tr[j].o = true := by
  obtain ⟨m, j, hm, hj, e, rfl, ho⟩ := isOpen_nat h
  have e1 : i = m := by omega
  subst e1
  exact ⟨j, hj, rfl, ho⟩
theorem open_dn {t : Tb} (hma : mayT t = true) {i : Nat} (hi : i < t.l.length) {n : Int} (h : isOpenT t i n = true) : t.l[i].dn = -1 := by
  obtain ⟨j, hj, _, ho⟩ := isOpen_at hi h
  simp only [mayT, Bool.and_eq_true, List.all_eq_true] at hma
  have hk := hma.2.2.2 _ (List.getElem_mem hi)
  simp only [mayK, Bool.and_eq_true, Bool.or_eq_true, decide_eq_true_eq] at hk
  rcases hk.2.2.2.2.2 with e | e
  · exfalso
    have : t.l[i].tr[j] ∈ opn t.l[i] := List.mem_filter.2 ⟨List.getElem_mem hj, ho⟩
    rw [e] at this
    cases this
  · exact e
theorem chg_len (t : Tb) (i : Nat) (f : Tk → Tk) : (chgT t i f).l.length = t.l.length := by
  unfold chgT
  split <;> simp [setT]
theorem chg_at (t : Tb) {i : Nat} (hi : i < t.l.length) (f : Tk → Tk) : ∃ h : i < (chgT t i f).l.length, (chgT t i f).l[i] = f t.l[i] := by
  have h : i < (chgT t i f).l.length := by rw [chg_len]; exact hi
  refine ⟨h, ?_⟩
  have e : chgT t i f = setT t i (f t.l[i]) := by simp [chgT, hi]
  simp only [e, setT, List.getElem_set_self]
theorem small_chg {t : Tb} (hs : Small t) (i : Nat) {f : Tk → Tk} (hf : ∀ k, (f k).tr.length = k.tr.length) : Small (chgT t i f) := by
  by_cases hi : i < t.l.length
  · have e : chgT t i f = setT t i (f t.l[i]) := by simp [chgT, hi]
    rw [e]
    exact small_set hs (by rw [hf]; exact hs.tr _ (List.getElem_mem hi))
  · have e : chgT t i f = t := by simp [chgT, hi]
    rw [e]
    exact hs
theorem fin_shut {k k' : Tk} {n : Int} (e : k' = finishK k n) {j : Nat} (hj : j < k'.tr.length) : k'.tr[j].o = false := by
  subst e
  simp [finishK, shut]
/-- What Finish leaves. -/
theorem fin_facts {t : Tb} (hs : Small t) (hma : mayT t = true) {i : Nat} (hi : i < t.l.length) (n : Int) :
    Small (finishT t i n) ∧ (finishT t i n).l.length = t.l.length ∧ isOpenT (finishT t i n) i n = false ∧
      ∃ h : i < (finishT t i n).l.length, (isOpenT t i n = true → (finishT t i n).l[i].dn = n ∧ t.l[i].dn = -1) ∧ (isOpenT t i n = false → finishT t i n = t) := by
  cases ho : isOpenT t i n with
  | false =>
    have e : finishT t i n = t := by simp [finishT, ho]
    rw [e]
    exact ⟨hs, rfl, ho, hi, (fun h => by cases h), fun _ => rfl⟩
  | true =>
    have e : finishT t i n = chgT t i (finishK · n) := by simp [finishT, ho]
    obtain ⟨h1, h2⟩ := chg_at t hi (finishK · n)
    rw [e]
    refine ⟨small_chg hs i (fun k => by simp [finishK]), chg_len .., ?_, h1, (fun _ => ⟨by rw [h2]; rfl, open_dn hma hi ho⟩), fun h => by cases h⟩
    cases hf : isOpenT (chgT t i (finishK · n)) i n with
    | false => rfl
    | true =>
      exfalso
      obtain ⟨j, hj, _, hoo⟩ := isOpen_at h1 hf
      rw [fin_shut h2 hj] at hoo
      cases hoo
theorem same_dn {t : Tb} {i : Nat} (hi : i < t.l.length) {b : Bool} {f : Tk → Tk} (hf : ∀ k, (f k).dn = k.dn) :
    (if b = true then chgT t i f else t).l.length = t.l.length ∧ ∃ h : i < (if b = true then chgT t i f else t).l.length, (if b = true then chgT t i f else t).l[i].dn = t.l[i].dn := by
  cases b with
  | false => exact ⟨rfl, hi, rfl⟩
  | true =>
    obtain ⟨h1, h2⟩ := chg_at t hi f
    refine ⟨chg_len .., h1, ?_⟩
    have : (if true = true then chgT t i f else t).l[i].dn = (chgT t i f).l[i].dn := rfl
    rw [this, h2, hf]
theorem fail_facts {t : Tb} {i : Nat} (hi : i < t.l.length) (n : Int) : (failT t i n).l.length = t.l.length ∧ ∃ h : i < (failT t i n).l.length, (failT t i n).l[i].dn = t.l[i].dn :=
  same_dn hi fun k => by unfold failK; split <;> rfl
theorem beat_facts {t : Tb} {i : Nat} (hi : i < t.l.length) (n now : Int) : (beatT t i n now).l.length = t.l.length ∧ ∃ h : i < (beatT t i n now).l.length, (beatT t i n now).l[i].dn = t.l[i].dn :=
  same_dn hi fun k => by unfold beatK; split <;> rfl
theorem lose_facts {t : Tb} {i : Nat} (hi : i < t.l.length) (n : Int) : (loseT t i n).l.length = t.l.length ∧ (isDoneBy t i n = (decide (0 ≤ n) && decide (t.l[i].dn = n))) ∧
    ∃ h : i < (loseT t i n).l.length, (isDoneBy t i n = true → (loseT t i n).l[i].dn = -1) := by
  have hd : isDoneBy t i n = (decide (0 ≤ n) && decide (t.l[i].dn = n)) := by simp [isDoneBy, isTask_of hi, hi]
  cases ho : isDoneBy t i n with
  | false =>
    have e : loseT t i n = t := by simp [loseT, ho]
    rw [e]
    exact ⟨rfl, by rw [← hd, ho], hi, fun h => by cases h⟩
  | true =>
    have e : loseT t i n = chgT t i loseK := by simp [loseT, ho]
    obtain ⟨h1, h2⟩ := chg_at t hi loseK
    rw [e]
    exact ⟨chg_len .., by rw [← hd, ho], h1, fun _ => by rw [h2]; rfl⟩
theorem not_all {t : Tb} {i : Nat} (hi : i < t.l.length) (h : t.l[i].dn = -1) : allT t = false := by
  unfold allT
  rw [List.all_eq_false]
  exact ⟨_, List.getElem_mem hi, by simp [notDone, h]⟩
set_option maxRecDepth 8000 in
set_option maxHeartbeats 16000000 in
theorem taskOnce (t : Tb) (a b n w now : Int) (hf : Fits t) : PSpec Try.prog 5 [tbV t, .agg [.int .i64 a, .int .i64 b, .int .i64 n, .int .i64 w, .int .i64 now]] (.bool true) := by
  intro H
  have hfew := few_ok t hf
  have hsm := small_ok a b n w now
  simp only [tbV] at hfew
  refine spec_of t5 (by simp [p5]) ?_
  simp only [p5]
  refine pwp_sr ?_
  intro K hK
  simp [runM_nil, runM_n, runM_t, runM_f, runM_s, runK, pev, ptake, putSt, arg, argT, takeAt, lend, lendL, thenP, inBlockP, binP, binBP, intP, unP, lenP, fadP, ldP, iadP, fldP, extP, extTake, sliP, optN, appP, emptyOr, cvSP, cvMP, cvIP, hget, hset, partP, cellsOf, callArgs, callTake, fillP, partsOf, elemParts, elemsOf, chunk, PV.isCell, mmP, eqSP, eqCells, planM_nil, planM_n, planM_t, planM_f, planM_s, planK, keepL_MS, keepA, MS_getD, MS_get, MS_set, getS, idxA, bxP, nckP, idxP, slsP, mkP, tbV]
  refine hK _ _ (pwp_rif ?_)
  intro K hK
  have no : ∀ st', argT st' (.t 42) = .bool true → keepL [] 0 st' = MS 214 [] → K st' H := by
    intro st' e1 e2
    refine hK _ _ (ifT e1 (pwp_keep [] ?_))
    rw [e2]
    refine pwp_sr ?_
    intro K hK
    simp [runM_nil, runM_n, runM_t, runM_f, runM_s, runK, pev, ptake, putSt, arg, argT, takeAt, lend, lendL, thenP, inBlockP, binP, binBP, intP, unP, lenP, fadP, ldP, iadP, fldP, extP, extTake, sliP, optN, appP, emptyOr, cvSP, cvMP, cvIP, hget, hset, partP, cellsOf, callArgs, callTake, fillP, partsOf, elemParts, elemsOf, chunk, PV.isCell, mmP, eqSP, eqCells, planM_nil, planM_n, planM_t, planM_f, planM_s, planK, keepL_MS, keepA, MS_getD, MS_get, MS_set, getS, idxA, bxP, nckP, idxP, slsP, mkP]
    refine useP alive_ok ?_
    simp [runM_nil, runM_n, runM_t, runM_f, runM_s, runK, pev, ptake, putSt, arg, argT, takeAt, lend, lendL, thenP, inBlockP, binP, binBP, intP, unP, lenP, fadP, ldP, iadP, fldP, extP, extTake, sliP, optN, appP, emptyOr, cvSP, cvMP, cvIP, hget, hset, partP, cellsOf, callArgs, callTake, fillP, partsOf, elemParts, elemsOf, chunk, PV.isCell, mmP, eqSP, eqCells, planM_nil, planM_n, planM_t, planM_f, planM_s, planK, keepL_MS, keepA, MS_getD, MS_get, MS_set, getS, idxA, bxP, nckP, idxP, slsP, mkP]
    refine hK _ _ (pwp_retT ⟨.inr rfl, _, _, (by simp [runM_nil, runM_n, runM_t, runM_f, runM_s, runK, pev, ptake, putSt, arg, argT, takeAt, lend, lendL, thenP, inBlockP, binP, binBP, intP, unP, lenP, fadP, ldP, iadP, fldP, extP, extTake, sliP, optN, appP, emptyOr, cvSP, cvMP, cvIP, hget, hset, partP, cellsOf, callArgs, callTake, fillP, partsOf, elemParts, elemsOf, chunk, PV.isCell, mmP, eqSP, eqCells, planM_nil, planM_n, planM_t, planM_f, planM_s, planK, keepL_MS, keepA, MS_getD, MS_get, MS_set, getS, idxA, bxP, nckP, idxP, slsP, mkP, resL]; rfl), .refl _, by simp [resV], rfl⟩)
  simp [runM_nil, runM_n, runM_t, runM_f, runM_s, runK, pev, ptake, putSt, arg, argT, takeAt, lend, lendL, thenP, inBlockP, binP, binBP, intP, unP, lenP, fadP, ldP, iadP, fldP, extP, extTake, sliP, optN, appP, emptyOr, cvSP, cvMP, cvIP, hget, hset, partP, cellsOf, callArgs, callTake, fillP, partsOf, elemParts, elemsOf, chunk, PV.isCell, mmP, eqSP, eqCells, planM_nil, planM_n, planM_t, planM_f, planM_s, planK, keepL_MS, keepA, MS_getD, MS_get, MS_set, getS, idxA, bxP, nckP, idxP, slsP, mkP]
  refine useP hfew ?_
  cases hfw : fewT t with
  | false =>
    simp [runM_nil, runM_n, runM_t, runM_f, runM_s, runK, pev, ptake, putSt, arg, argT, takeAt, lend, lendL, thenP, inBlockP, binP, binBP, intP, unP, lenP, fadP, ldP, iadP, fldP, extP, extTake, sliP, optN, appP, emptyOr, cvSP, cvMP, cvIP, hget, hset, partP, cellsOf, callArgs, callTake, fillP, partsOf, elemParts, elemsOf, chunk, PV.isCell, mmP, eqSP, eqCells, planM_nil, planM_n, planM_t, planM_f, planM_s, planK, keepL_MS, keepA, MS_getD, MS_get, MS_set, getS, idxA, bxP, nckP, idxP, slsP, mkP]
    exact no _ (by simp [runM_nil, runM_n, runM_t, runM_f, runM_s, runK, pev, ptake, putSt, arg, argT, takeAt, lend, lendL, thenP, inBlockP, binP, binBP, intP, unP, lenP, fadP, ldP, iadP, fldP, extP, extTake, sliP, optN, appP, emptyOr, cvSP, cvMP, cvIP, hget, hset, partP, cellsOf, callArgs, callTake, fillP, partsOf, elemParts, elemsOf, chunk, PV.isCell, mmP, eqSP, eqCells, planM_nil, planM_n, planM_t, planM_f, planM_s, planK, keepL_MS, keepA, MS_getD, MS_get, MS_set, getS, idxA, bxP, nckP, idxP, slsP, mkP]) (by simp [keepL_MS, keepA, getS])
  | true =>
  obtain ⟨hs, hl50, hk50⟩ := few_small hfw
  have hpl := plain_ok t hs
  have hmy := refMay_ok t hs
  simp only [tbV] at hpl hmy
  simp [runM_nil, runM_n, runM_t, runM_f, runM_s, runK, pev, ptake, putSt, arg, argT, takeAt, lend, lendL, thenP, inBlockP, binP, binBP, intP, unP, lenP, fadP, ldP, iadP, fldP, extP, extTake, sliP, optN, appP, emptyOr, cvSP, cvMP, cvIP, hget, hset, partP, cellsOf, callArgs, callTake, fillP, partsOf, elemParts, elemsOf, chunk, PV.isCell, mmP, eqSP, eqCells, planM_nil, planM_n, planM_t, planM_f, planM_s, planK, keepL_MS, keepA, MS_getD, MS_get, MS_set, getS, idxA, bxP, nckP, idxP, slsP, mkP]
  refine useP hpl ?_
  simp [runM_nil, runM_n, runM_t, runM_f, runM_s, runK, pev, ptake, putSt, arg, argT, takeAt, lend, lendL, thenP, inBlockP, binP, binBP, intP, unP, lenP, fadP, ldP, iadP, fldP, extP, extTake, sliP, optN, appP, emptyOr, cvSP, cvMP, cvIP, hget, hset, partP, cellsOf, callArgs, callTake, fillP, partsOf, elemParts, elemsOf, chunk, PV.isCell, mmP, eqSP, eqCells, planM_nil, planM_n, planM_t, planM_f, planM_s, planK, keepL_MS, keepA, MS_getD, MS_get, MS_set, getS, idxA, bxP, nckP, idxP, slsP, mkP]
  refine useP hmy ?_
  cases hma : mayT t with
  | false =>
    simp [runM_nil, runM_n, runM_t, runM_f, runM_s, runK, pev, ptake, putSt, arg, argT, takeAt, lend, lendL, thenP, inBlockP, binP, binBP, intP, unP, lenP, fadP, ldP, iadP, fldP, extP, extTake, sliP, optN, appP, emptyOr, cvSP, cvMP, cvIP, hget, hset, partP, cellsOf, callArgs, callTake, fillP, partsOf, elemParts, elemsOf, chunk, PV.isCell, mmP, eqSP, eqCells, planM_nil, planM_n, planM_t, planM_f, planM_s, planK, keepL_MS, keepA, MS_getD, MS_get, MS_set, getS, idxA, bxP, nckP, idxP, slsP, mkP]
    exact no _ (by simp [runM_nil, runM_n, runM_t, runM_f, runM_s, runK, pev, ptake, putSt, arg, argT, takeAt, lend, lendL, thenP, inBlockP, binP, binBP, intP, unP, lenP, fadP, ldP, iadP, fldP, extP, extTake, sliP, optN, appP, emptyOr, cvSP, cvMP, cvIP, hget, hset, partP, cellsOf, callArgs, callTake, fillP, partsOf, elemParts, elemsOf, chunk, PV.isCell, mmP, eqSP, eqCells, planM_nil, planM_n, planM_t, planM_f, planM_s, planK, keepL_MS, keepA, MS_getD, MS_get, MS_set, getS, idxA, bxP, nckP, idxP, slsP, mkP]) (by simp [keepL_MS, keepA, getS])
  | true =>
  simp [runM_nil, runM_n, runM_t, runM_f, runM_s, runK, pev, ptake, putSt, arg, argT, takeAt, lend, lendL, thenP, inBlockP, binP, binBP, intP, unP, lenP, fadP, ldP, iadP, fldP, extP, extTake, sliP, optN, appP, emptyOr, cvSP, cvMP, cvIP, hget, hset, partP, cellsOf, callArgs, callTake, fillP, partsOf, elemParts, elemsOf, chunk, PV.isCell, mmP, eqSP, eqCells, planM_nil, planM_n, planM_t, planM_f, planM_s, planK, keepL_MS, keepA, MS_getD, MS_get, MS_set, getS, idxA, bxP, nckP, idxP, slsP, mkP]
  refine useP hsm ?_
  cases hnn : (decide (0 ≤ now) && decide (now ≤ 1000000000)) with
  | false =>
    simp [runM_nil, runM_n, runM_t, runM_f, runM_s, runK, pev, ptake, putSt, arg, argT, takeAt, lend, lendL, thenP, inBlockP, binP, binBP, intP, unP, lenP, fadP, ldP, iadP, fldP, extP, extTake, sliP, optN, appP, emptyOr, cvSP, cvMP, cvIP, hget, hset, partP, cellsOf, callArgs, callTake, fillP, partsOf, elemParts, elemsOf, chunk, PV.isCell, mmP, eqSP, eqCells, planM_nil, planM_n, planM_t, planM_f, planM_s, planK, keepL_MS, keepA, MS_getD, MS_get, MS_set, getS, idxA, bxP, nckP, idxP, slsP, mkP]
    exact no _ (by simp [runM_nil, runM_n, runM_t, runM_f, runM_s, runK, pev, ptake, putSt, arg, argT, takeAt, lend, lendL, thenP, inBlockP, binP, binBP, intP, unP, lenP, fadP, ldP, iadP, fldP, extP, extTake, sliP, optN, appP, emptyOr, cvSP, cvMP, cvIP, hget, hset, partP, cellsOf, callArgs, callTake, fillP, partsOf, elemParts, elemsOf, chunk, PV.isCell, mmP, eqSP, eqCells, planM_nil, planM_n, planM_t, planM_f, planM_s, planK, keepL_MS, keepA, MS_getD, MS_get, MS_set, getS, idxA, bxP, nckP, idxP, slsP, mkP]) (by simp [keepL_MS, keepA, getS])
  | true =>
  have hbb : b < 0 ∨ (¬ b < 0 ∧ (t.l.length : Int) ≤ b) ∨ ∃ i : Nat, b = i ∧ i < t.l.length := by
    by_cases h1 : b < 0
    · exact .inl h1
    · by_cases h2 : (t.l.length : Int) ≤ b
      · exact .inr (.inl ⟨h1, h2⟩)
      · exact .inr (.inr ⟨b.toNat, by omega, by omega⟩)
  rcases hbb with hb0 | ⟨hb0, hb1⟩ | ⟨i, rfl, hi⟩
  · simp [runM_nil, runM_n, runM_t, runM_f, runM_s, runK, pev, ptake, putSt, arg, argT, takeAt, lend, lendL, thenP, inBlockP, binP, binBP, intP, unP, lenP, fadP, ldP, iadP, fldP, extP, extTake, sliP, optN, appP, emptyOr, cvSP, cvMP, cvIP, hget, hset, partP, cellsOf, callArgs, callTake, fillP, partsOf, elemParts, elemsOf, chunk, PV.isCell, mmP, eqSP, eqCells, planM_nil, planM_n, planM_t, planM_f, planM_s, planK, keepL_MS, keepA, MS_getD, MS_get, MS_set, getS, idxA, bxP, nckP, idxP, slsP, mkP, hb0]
    exact no _ (by simp [runM_nil, runM_n, runM_t, runM_f, runM_s, runK, pev, ptake, putSt, arg, argT, takeAt, lend, lendL, thenP, inBlockP, binP, binBP, intP, unP, lenP, fadP, ldP, iadP, fldP, extP, extTake, sliP, optN, appP, emptyOr, cvSP, cvMP, cvIP, hget, hset, partP, cellsOf, callArgs, callTake, fillP, partsOf, elemParts, elemsOf, chunk, PV.isCell, mmP, eqSP, eqCells, planM_nil, planM_n, planM_t, planM_f, planM_s, planK, keepL_MS, keepA, MS_getD, MS_get, MS_set, getS, idxA, bxP, nckP, idxP, slsP, mkP]) (by simp [keepL_MS, keepA, getS])
  · simp [runM_nil, runM_n, runM_t, runM_f, runM_s, runK, pev, ptake, putSt, arg, argT, takeAt, lend, lendL, thenP, inBlockP, binP, binBP, intP, unP, lenP, fadP, ldP, iadP, fldP, extP, extTake, sliP, optN, appP, emptyOr, cvSP, cvMP, cvIP, hget, hset, partP, cellsOf, callArgs, callTake, fillP, partsOf, elemParts, elemsOf, chunk, PV.isCell, mmP, eqSP, eqCells, planM_nil, planM_n, planM_t, planM_f, planM_s, planK, keepL_MS, keepA, MS_getD, MS_get, MS_set, getS, idxA, bxP, nckP, idxP, slsP, mkP, hb0, hb1]
    exact no _ (by simp [runM_nil, runM_n, runM_t, runM_f, runM_s, runK, pev, ptake, putSt, arg, argT, takeAt, lend, lendL, thenP, inBlockP, binP, binBP, intP, unP, lenP, fadP, ldP, iadP, fldP, extP, extTake, sliP, optN, appP, emptyOr, cvSP, cvMP, cvIP, hget, hset, partP, cellsOf, callArgs, callTake, fillP, partsOf, elemParts, elemsOf, chunk, PV.isCell, mmP, eqSP, eqCells, planM_nil, planM_n, planM_t, planM_f, planM_s, planK, keepL_MS, keepA, MS_getD, MS_get, MS_set, getS, idxA, bxP, nckP, idxP, slsP, mkP]) (by simp [keepL_MS, keepA, getS])
  clear no
  have hi2 : ¬ ((t.l.length : Int) ≤ i) := by omega
  simp [runM_nil, runM_n, runM_t, runM_f, runM_s, runK, pev, ptake, putSt, arg, argT, takeAt, lend, lendL, thenP, inBlockP, binP, binBP, intP, unP, lenP, fadP, ldP, iadP, fldP, extP, extTake, sliP, optN, appP, emptyOr, cvSP, cvMP, cvIP, hget, hset, partP, cellsOf, callArgs, callTake, fillP, partsOf, elemParts, elemsOf, chunk, PV.isCell, mmP, eqSP, eqCells, planM_nil, planM_n, planM_t, planM_f, planM_s, planK, keepL_MS, keepA, MS_getD, MS_get, MS_set, getS, idxA, bxP, nckP, idxP, slsP, mkP, hi, hi2]
  refine hK _ _ (ifF (by simp [runM_nil, runM_n, runM_t, runM_f, runM_s, runK, pev, ptake, putSt, arg, argT, takeAt, lend, lendL, thenP, inBlockP, binP, binBP, intP, unP, lenP, fadP, ldP, iadP, fldP, extP, extTake, sliP, optN, appP, emptyOr, cvSP, cvMP, cvIP, hget, hset, partP, cellsOf, callArgs, callTake, fillP, partsOf, elemParts, elemsOf, chunk, PV.isCell, mmP, eqSP, eqCells, planM_nil, planM_n, planM_t, planM_f, planM_s, planK, keepL_MS, keepA, MS_getD, MS_get, MS_set, getS, idxA, bxP, nckP, idxP, slsP, mkP]) (pwp_skip ?_))
  refine pwp_kept (keep := [2, 3]) (l' := [(2, .ip 3 [tbV t] 0 0), (3, .ip 5 [.agg [.int .i64 a, .int .i64 i, .int .i64 n, .int .i64 w, .int .i64 now]] 0 0)]) (by simp [keepA, getS, tbV]) ?_
  clear hfew hsm hpl hmy
  obtain ⟨hsu, hlu, hou, hiu, hu1, hu2⟩ := fin_facts hs hma hi n
  obtain ⟨hlv, hiv, hv⟩ := fail_facts hi n
  obtain ⟨hlx, hix, hx⟩ := beat_facts hi n now
  obtain ⟨hly, hq, hiy, hy⟩ := lose_facts hi n
  have c1 := finish_ok t i n hs
  have c2 := finish_ok (finishT t i n) i n hsu
  rw [hou] at c2
  have c3 := fail_ok t i n hs
  have c4 := beat_ok t i n now hs
  have c5 := lose_ok t i n hs
  have c6 := All_ok t hs
  have cs := sameTb t hs
  have hal : t.l[i].dn = -1 → allT t = false := not_all hi
  generalize hqq : isDoneBy t i n = q at *
  generalize hoo : isOpenT t i n = o1 at *
  generalize finishT (finishT t i n) i n = u2 at *
  generalize finishT t i n = u at *
  generalize failT t i n = v at *
  generalize beatT t i n now = x at *
  generalize loseT t i n = y at *
  generalize allT t = at1 at *
  generalize hkk : t.l[i] = k at *
  generalize hkv : v.l[i] = kv at *
  generalize hkx : x.l[i] = kx at *
  generalize hky : y.l[i] = ky at *
  generalize hku : u.l[i] = ku at *
  have cs' : u = t → PSpec Try.prog 24 [tbV u, tbV t] (.bool true) := fun e => by rw [e]; exact cs
  simp only [tbV] at c1 c2 c3 c4 c5 c6 cs'
  clear cs
  refine pwp_sr ?_
  intro K hK
  simp [runM_nil, runM_n, runM_t, runM_f, runM_s, runK, pev, ptake, putSt, arg, argT, takeAt, lend, lendL, thenP, inBlockP, binP, binBP, intP, unP, lenP, fadP, ldP, iadP, fldP, extP, extTake, sliP, optN, appP, emptyOr, cvSP, cvMP, cvIP, hget, hset, partP, cellsOf, callArgs, callTake, fillP, partsOf, elemParts, elemsOf, chunk, PV.isCell, mmP, eqSP, eqCells, planM_nil, planM_n, planM_t, planM_f, planM_s, planK, keepL_MS, keepA, MS_getD, MS_get, MS_set, getS, idxA, bxP, nckP, idxP, slsP, mkP, tbV, hi, hkk, tkV]
  refine hK _ _ (pwp_sr ?_)
  intro K hK
  simp [runM_nil, runM_n, runM_t, runM_f, runM_s, runK, pev, ptake, putSt, arg, argT, takeAt, lend, lendL, thenP, inBlockP, binP, binBP, intP, unP, lenP, fadP, ldP, iadP, fldP, extP, extTake, sliP, optN, appP, emptyOr, cvSP, cvMP, cvIP, hget, hset, partP, cellsOf, callArgs, callTake, fillP, partsOf, elemParts, elemsOf, chunk, PV.isCell, mmP, eqSP, eqCells, planM_nil, planM_n, planM_t, planM_f, planM_s, planK, keepL_MS, keepA, MS_getD, MS_get, MS_set, getS, idxA, bxP, nckP, idxP, slsP, mkP]
  refine useP c1 ?_
  simp [runM_nil, runM_n, runM_t, runM_f, runM_s, runK, pev, ptake, putSt, arg, argT, takeAt, lend, lendL, thenP, inBlockP, binP, binBP, intP, unP, lenP, fadP, ldP, iadP, fldP, extP, extTake, sliP, optN, appP, emptyOr, cvSP, cvMP, cvIP, hget, hset, partP, cellsOf, callArgs, callTake, fillP, partsOf, elemParts, elemsOf, chunk, PV.isCell, mmP, eqSP, eqCells, planM_nil, planM_n, planM_t, planM_f, planM_s, planK, keepL_MS, keepA, MS_getD, MS_get, MS_set, getS, idxA, bxP, nckP, idxP, slsP, mkP]
  intro b6 h6
  refine hK _ _ (pwp_rif ?_)
  intro K hK
  simp [runM_nil, runM_n, runM_t, runM_f, runM_s, runK, pev, ptake, putSt, arg, argT, takeAt, lend, lendL, thenP, inBlockP, binP, binBP, intP, unP, lenP, fadP, ldP, iadP, fldP, extP, extTake, sliP, optN, appP, emptyOr, cvSP, cvMP, cvIP, hget, hset, partP, cellsOf, callArgs, callTake, fillP, partsOf, elemParts, elemsOf, chunk, PV.isCell, mmP, eqSP, eqCells, planM_nil, planM_n, planM_t, planM_f, planM_s, planK, keepL_MS, keepA, MS_getD, MS_get, MS_set, getS, idxA, bxP, nckP, idxP, slsP, mkP, hlu]
  refine hK _ _ (ifF (by simp [runM_nil, runM_n, runM_t, runM_f, runM_s, runK, pev, ptake, putSt, arg, argT, takeAt, lend, lendL, thenP, inBlockP, binP, binBP, intP, unP, lenP, fadP, ldP, iadP, fldP, extP, extTake, sliP, optN, appP, emptyOr, cvSP, cvMP, cvIP, hget, hset, partP, cellsOf, callArgs, callTake, fillP, partsOf, elemParts, elemsOf, chunk, PV.isCell, mmP, eqSP, eqCells, planM_nil, planM_n, planM_t, planM_f, planM_s, planK, keepL_MS, keepA, MS_getD, MS_get, MS_set, getS, idxA, bxP, nckP, idxP, slsP, mkP]) (pwp_skip ?_))
  refine pwp_dif hmix ?_
  intro K hK
  have hkdn : o1 = true → k.dn = -1 := fun e => (hu1 e).2
  have go : ∀ st', argT st' (.t 92) = .bool false → keepL [2, 3, 5, 6, 7] 0 st' = MS 214 [(2, .ip 3 [tbV t] 0 0), (3, .ip 5 [.agg [.int .i64 a, .int .i64 i, .int .i64 n, .int .i64 w, .int .i64 now]] 0 0), (5, .int .i64 k.dn), (6, .ptr (some (b6, 0))), (7, .bool o1)] →
      K st' ((b6, [.int .i64 u.cap, .int .i64 u.tm, .lst 3 (u.l.map tkV) false]) :: H) := by
    intro st' e1 e2
    refine hK _ _ (ifF e1 (pwp_skip (pwp_keep [2, 3, 5, 6, 7] ?_)))
    rw [e2]
    clear e1 e2 hK cs' hu1 hu2
    refine pwp_sr ?_
    intro K hK
    simp [runM_nil, runM_n, runM_t, runM_f, runM_s, runK, pev, ptake, putSt, arg, argT, takeAt, lend, lendL, thenP, inBlockP, binP, binBP, intP, unP, lenP, fadP, ldP, iadP, fldP, extP, extTake, sliP, optN, appP, emptyOr, cvSP, cvMP, cvIP, hget, hset, partP, cellsOf, callArgs, callTake, fillP, partsOf, elemParts, elemsOf, chunk, PV.isCell, mmP, eqSP, eqCells, planM_nil, planM_n, planM_t, planM_f, planM_s, planK, keepL_MS, keepA, MS_getD, MS_get, MS_set, getS, idxA, bxP, nckP, idxP, slsP, mkP, tbV]
    refine useP c2 ?_
    simp [runM_nil, runM_n, runM_t, runM_f, runM_s, runK, pev, ptake, putSt, arg, argT, takeAt, lend, lendL, thenP, inBlockP, binP, binBP, intP, unP, lenP, fadP, ldP, iadP, fldP, extP, extTake, sliP, optN, appP, emptyOr, cvSP, cvMP, cvIP, hget, hset, partP, cellsOf, callArgs, callTake, fillP, partsOf, elemParts, elemsOf, chunk, PV.isCell, mmP, eqSP, eqCells, planM_nil, planM_n, planM_t, planM_f, planM_s, planK, keepL_MS, keepA, MS_getD, MS_get, MS_set, getS, idxA, bxP, nckP, idxP, slsP, mkP]
    intro b8 h8
    refine hK _ _ ?_
    refine pwp_drop (H2 := H) (.cons _ (.cons _ (.refl _))) ?_
    refine pwp_kept (keep := [2, 3, 5, 7, 9]) (l' := [(2, .ip 3 [tbV t] 0 0), (3, .ip 5 [.agg [.int .i64 a, .int .i64 i, .int .i64 n, .int .i64 w, .int .i64 now]] 0 0), (5, .int .i64 k.dn), (7, .bool o1), (9, .bool false)]) (by simp [keepA, getS, tbV]) ?_
    refine pwp_sr ?_
    intro K hK
    simp [runM_nil, runM_n, runM_t, runM_f, runM_s, runK, pev, ptake, putSt, arg, argT, takeAt, lend, lendL, thenP, inBlockP, binP, binBP, intP, unP, lenP, fadP, ldP, iadP, fldP, extP, extTake, sliP, optN, appP, emptyOr, cvSP, cvMP, cvIP, hget, hset, partP, cellsOf, callArgs, callTake, fillP, partsOf, elemParts, elemsOf, chunk, PV.isCell, mmP, eqSP, eqCells, planM_nil, planM_n, planM_t, planM_f, planM_s, planK, keepL_MS, keepA, MS_getD, MS_get, MS_set, getS, idxA, bxP, nckP, idxP, slsP, mkP, tbV]
    refine useP c3 ?_
    simp [runM_nil, runM_n, runM_t, runM_f, runM_s, runK, pev, ptake, putSt, arg, argT, takeAt, lend, lendL, thenP, inBlockP, binP, binBP, intP, unP, lenP, fadP, ldP, iadP, fldP, extP, extTake, sliP, optN, appP, emptyOr, cvSP, cvMP, cvIP, hget, hset, partP, cellsOf, callArgs, callTake, fillP, partsOf, elemParts, elemsOf, chunk, PV.isCell, mmP, eqSP, eqCells, planM_nil, planM_n, planM_t, planM_f, planM_s, planK, keepL_MS, keepA, MS_getD, MS_get, MS_set, getS, idxA, bxP, nckP, idxP, slsP, mkP]
    intro b10 h10
    refine hK _ _ (pwp_sr ?_)
    intro K hK
    simp [runM_nil, runM_n, runM_t, runM_f, runM_s, runK, pev, ptake, putSt, arg, argT, takeAt, lend, lendL, thenP, inBlockP, binP, binBP, intP, unP, lenP, fadP, ldP, iadP, fldP, extP, extTake, sliP, optN, appP, emptyOr, cvSP, cvMP, cvIP, hget, hset, partP, cellsOf, callArgs, callTake, fillP, partsOf, elemParts, elemsOf, chunk, PV.isCell, mmP, eqSP, eqCells, planM_nil, planM_n, planM_t, planM_f, planM_s, planK, keepL_MS, keepA, MS_getD, MS_get, MS_set, getS, idxA, bxP, nckP, idxP, slsP, mkP]
    refine useP c4 ?_
    simp [runM_nil, runM_n, runM_t, runM_f, runM_s, runK, pev, ptake, putSt, arg, argT, takeAt, lend, lendL, thenP, inBlockP, binP, binBP, intP, unP, lenP, fadP, ldP, iadP, fldP, extP, extTake, sliP, optN, appP, emptyOr, cvSP, cvMP, cvIP, hget, hset, partP, cellsOf, callArgs, callTake, fillP, partsOf, elemParts, elemsOf, chunk, PV.isCell, mmP, eqSP, eqCells, planM_nil, planM_n, planM_t, planM_f, planM_s, planK, keepL_MS, keepA, MS_getD, MS_get, MS_set, getS, idxA, bxP, nckP, idxP, slsP, mkP]
    intro b12 h12
    obtain ⟨n12, h12⟩ := hget_cons_none.1 h12
    refine hK _ _ (pwp_sr ?_)
    intro K hK
    simp [runM_nil, runM_n, runM_t, runM_f, runM_s, runK, pev, ptake, putSt, arg, argT, takeAt, lend, lendL, thenP, inBlockP, binP, binBP, intP, unP, lenP, fadP, ldP, iadP, fldP, extP, extTake, sliP, optN, appP, emptyOr, cvSP, cvMP, cvIP, hget, hset, partP, cellsOf, callArgs, callTake, fillP, partsOf, elemParts, elemsOf, chunk, PV.isCell, mmP, eqSP, eqCells, planM_nil, planM_n, planM_t, planM_f, planM_s, planK, keepL_MS, keepA, MS_getD, MS_get, MS_set, getS, idxA, bxP, nckP, idxP, slsP, mkP]
    refine useP c5 ?_
    simp [runM_nil, runM_n, runM_t, runM_f, runM_s, runK, pev, ptake, putSt, arg, argT, takeAt, lend, lendL, thenP, inBlockP, binP, binBP, intP, unP, lenP, fadP, ldP, iadP, fldP, extP, extTake, sliP, optN, appP, emptyOr, cvSP, cvMP, cvIP, hget, hset, partP, cellsOf, callArgs, callTake, fillP, partsOf, elemParts, elemsOf, chunk, PV.isCell, mmP, eqSP, eqCells, planM_nil, planM_n, planM_t, planM_f, planM_s, planK, keepL_MS, keepA, MS_getD, MS_get, MS_set, getS, idxA, bxP, nckP, idxP, slsP, mkP]
    intro b14 h14
    obtain ⟨m14, h14⟩ := ite_none h14
    obtain ⟨n14, h14⟩ := ite_none h14
    refine hK _ _ ?_
    refine pwp_kept (keep := [2, 3, 5, 7, 9, 10, 12, 14, 15]) (l' := [(2, .ip 3 [tbV t] 0 0), (3, .ip 5 [.agg [.int .i64 a, .int .i64 i, .int .i64 n, .int .i64 w, .int .i64 now]] 0 0), (5, .int .i64 k.dn), (7, .bool o1), (9, .bool false), (10, .ptr (some (b10, 0))), (12, .ptr (some (b12, 0))), (14, .ptr (some (b14, 0))), (15, .bool q)]) (by simp [keepA, getS, tbV]) ?_
    refine pwp_rif ?_
    intro K hK
    simp [runM_nil, runM_n, runM_t, runM_f, runM_s, runK, pev, ptake, putSt, arg, argT, takeAt, lend, lendL, thenP, inBlockP, binP, binBP, intP, unP, lenP, fadP, ldP, iadP, fldP, extP, extTake, sliP, optN, appP, emptyOr, cvSP, cvMP, cvIP, hget, hset, partP, cellsOf, callArgs, callTake, fillP, partsOf, elemParts, elemsOf, chunk, PV.isCell, mmP, eqSP, eqCells, planM_nil, planM_n, planM_t, planM_f, planM_s, planK, keepL_MS, keepA, MS_getD, MS_get, MS_set, getS, idxA, bxP, nckP, idxP, slsP, mkP, tbV, n12, Ne.symm n12, m14, Ne.symm m14, n14, Ne.symm n14, hlv, hlx, hly]
    refine hK _ _ (ifF (by simp [runM_nil, runM_n, runM_t, runM_f, runM_s, runK, pev, ptake, putSt, arg, argT, takeAt, lend, lendL, thenP, inBlockP, binP, binBP, intP, unP, lenP, fadP, ldP, iadP, fldP, extP, extTake, sliP, optN, appP, emptyOr, cvSP, cvMP, cvIP, hget, hset, partP, cellsOf, callArgs, callTake, fillP, partsOf, elemParts, elemsOf, chunk, PV.isCell, mmP, eqSP, eqCells, planM_nil, planM_n, planM_t, planM_f, planM_s, planK, keepL_MS, keepA, MS_getD, MS_get, MS_set, getS, idxA, bxP, nckP, idxP, slsP, mkP]) (pwp_skip ?_))
    refine pwp_rif ?_
    intro K hK
    have go2 : ∀ st' H3, argT st' (.t 203) = .bool false → keepL [2, 7] 0 st' = MS 214 [(2, .ip 3 [tbV t] 0 0), (7, .bool o1)] → H3 = ((b14, [.int .i64 y.cap, .int .i64 y.tm, .lst 3 (y.l.map tkV) false]) :: (b12, [.int .i64 x.cap, .int .i64 x.tm, .lst 3 (x.l.map tkV) false]) :: (b10, [.int .i64 v.cap, .int .i64 v.tm, .lst 3 (v.l.map tkV) false]) :: H) → K st' H3 := by
      intro st' H3 e1 e2 e3
      refine hK _ _ (ifF e1 (pwp_skip (pwp_keep [2, 7] ?_)))
      rw [e2, e3]
      refine pwp_drop (H2 := H) (.cons _ (.cons _ (.cons _ (.refl _)))) ?_
      refine pwp_sr ?_
      intro K hK
      simp [runM_nil, runM_n, runM_t, runM_f, runM_s, runK, pev, ptake, putSt, arg, argT, takeAt, lend, lendL, thenP, inBlockP, binP, binBP, intP, unP, lenP, fadP, ldP, iadP, fldP, extP, extTake, sliP, optN, appP, emptyOr, cvSP, cvMP, cvIP, hget, hset, partP, cellsOf, callArgs, callTake, fillP, partsOf, elemParts, elemsOf, chunk, PV.isCell, mmP, eqSP, eqCells, planM_nil, planM_n, planM_t, planM_f, planM_s, planK, keepL_MS, keepA, MS_getD, MS_get, MS_set, getS, idxA, bxP, nckP, idxP, slsP, mkP, tbV]
      refine useP alive_ok ?_
      cases o1 with
      | false =>
        simp [runM_nil, runM_n, runM_t, runM_f, runM_s, runK, pev, ptake, putSt, arg, argT, takeAt, lend, lendL, thenP, inBlockP, binP, binBP, intP, unP, lenP, fadP, ldP, iadP, fldP, extP, extTake, sliP, optN, appP, emptyOr, cvSP, cvMP, cvIP, hget, hset, partP, cellsOf, callArgs, callTake, fillP, partsOf, elemParts, elemsOf, chunk, PV.isCell, mmP, eqSP, eqCells, planM_nil, planM_n, planM_t, planM_f, planM_s, planK, keepL_MS, keepA, MS_getD, MS_get, MS_set, getS, idxA, bxP, nckP, idxP, slsP, mkP]
        refine hK _ _ (pwp_ret ⟨.inr rfl, _, _, (by simp [runM_nil, runM_n, runM_t, runM_f, runM_s, runK, pev, ptake, putSt, arg, argT, takeAt, lend, lendL, thenP, inBlockP, binP, binBP, intP, unP, lenP, fadP, ldP, iadP, fldP, extP, extTake, sliP, optN, appP, emptyOr, cvSP, cvMP, cvIP, hget, hset, partP, cellsOf, callArgs, callTake, fillP, partsOf, elemParts, elemsOf, chunk, PV.isCell, mmP, eqSP, eqCells, planM_nil, planM_n, planM_t, planM_f, planM_s, planK, keepL_MS, keepA, MS_getD, MS_get, MS_set, getS, idxA, bxP, nckP, idxP, slsP, mkP, resL]; rfl), .refl _, by simp [resV], rfl⟩)
      | true =>
        simp [runM_nil, runM_n, runM_t, runM_f, runM_s, runK, pev, ptake, putSt, arg, argT, takeAt, lend, lendL, thenP, inBlockP, binP, binBP, intP, unP, lenP, fadP, ldP, iadP, fldP, extP, extTake, sliP, optN, appP, emptyOr, cvSP, cvMP, cvIP, hget, hset, partP, cellsOf, callArgs, callTake, fillP, partsOf, elemParts, elemsOf, chunk, PV.isCell, mmP, eqSP, eqCells, planM_nil, planM_n, planM_t, planM_f, planM_s, planK, keepL_MS, keepA, MS_getD, MS_get, MS_set, getS, idxA, bxP, nckP, idxP, slsP, mkP]
        refine useP c6 ?_
        rw [hal (hkdn rfl)]
        simp [runM_nil, runM_n, runM_t, runM_f, runM_s, runK, pev, ptake, putSt, arg, argT, takeAt, lend, lendL, thenP, inBlockP, binP, binBP, intP, unP, lenP, fadP, ldP, iadP, fldP, extP, extTake, sliP, optN, appP, emptyOr, cvSP, cvMP, cvIP, hget, hset, partP, cellsOf, callArgs, callTake, fillP, partsOf, elemParts, elemsOf, chunk, PV.isCell, mmP, eqSP, eqCells, planM_nil, planM_n, planM_t, planM_f, planM_s, planK, keepL_MS, keepA, MS_getD, MS_get, MS_set, getS, idxA, bxP, nckP, idxP, slsP, mkP]
        refine hK _ _ (pwp_ret ⟨.inr rfl, _, _, (by simp [runM_nil, runM_n, runM_t, runM_f, runM_s, runK, pev, ptake, putSt, arg, argT, takeAt, lend, lendL, thenP, inBlockP, binP, binBP, intP, unP, lenP, fadP, ldP, iadP, fldP, extP, extTake, sliP, optN, appP, emptyOr, cvSP, cvMP, cvIP, hget, hset, partP, cellsOf, callArgs, callTake, fillP, partsOf, elemParts, elemsOf, chunk, PV.isCell, mmP, eqSP, eqCells, planM_nil, planM_n, planM_t, planM_f, planM_s, planK, keepL_MS, keepA, MS_getD, MS_get, MS_set, getS, idxA, bxP, nckP, idxP, slsP, mkP, resL]; rfl), .refl _, by simp [resV], rfl⟩)
    have h3c : (0 ≤ k.dn ∧ k.dn = n ∧ q = true ∧ ky.dn = -1) ∨ (0 ≤ k.dn ∧ ¬ k.dn = n ∧ q = false) ∨ (¬ 0 ≤ k.dn ∧ q = false) := by
      rw [hq]
      by_cases h1 : 0 ≤ k.dn
      · by_cases h2 : k.dn = n
        · have h3 : 0 ≤ n := by omega
          exact .inl ⟨h1, h2, by simp [h2, h3], hy (by rw [hq]; simp [h2, h3])⟩
        · exact .inr (.inl ⟨h1, h2, by simp [h2]⟩)
      · refine .inr (.inr ⟨h1, ?_⟩)
        by_cases h2 : k.dn = n
        · have h3 : ¬ 0 ≤ n := by omega
          simp [h3]
        · simp [h2]
    have hiv2 : i < v.l.length := hiv
    have hix2 : i < x.l.length := hix
    have hiy2 : i < y.l.length := hiy
    clear hK
    rcases h3c with ⟨h1, h2, rfl, h4⟩ | ⟨h1, h2, rfl⟩ | ⟨h1, rfl⟩
    · have h5 : 0 ≤ n := by omega
      simp [runM_nil, runM_n, runM_t, runM_f, runM_s, runK, pev, ptake, putSt, arg, argT, takeAt, lend, lendL, thenP, inBlockP, binP, binBP, intP, unP, lenP, fadP, ldP, iadP, fldP, extP, extTake, sliP, optN, appP, emptyOr, cvSP, cvMP, cvIP, hget, hset, partP, cellsOf, callArgs, callTake, fillP, partsOf, elemParts, elemsOf, chunk, PV.isCell, mmP, eqSP, eqCells, planM_nil, planM_n, planM_t, planM_f, planM_s, planK, keepL_MS, keepA, MS_getD, MS_get, MS_set, getS, idxA, bxP, nckP, idxP, slsP, mkP, tbV, n12, Ne.symm n12, m14, Ne.symm m14, n14, Ne.symm n14, hiv2, hix2, hiy2, hkv, hkx, hky, tkV, hv, hx, h5, h2, h4]
      exact go2 _ _ (by simp [runM_nil, runM_n, runM_t, runM_f, runM_s, runK, pev, ptake, putSt, arg, argT, takeAt, lend, lendL, thenP, inBlockP, binP, binBP, intP, unP, lenP, fadP, ldP, iadP, fldP, extP, extTake, sliP, optN, appP, emptyOr, cvSP, cvMP, cvIP, hget, hset, partP, cellsOf, callArgs, callTake, fillP, partsOf, elemParts, elemsOf, chunk, PV.isCell, mmP, eqSP, eqCells, planM_nil, planM_n, planM_t, planM_f, planM_s, planK, keepL_MS, keepA, MS_getD, MS_get, MS_set, getS, idxA, bxP, nckP, idxP, slsP, mkP]) (by simp [keepL_MS, keepA, getS, tbV]) rfl
    · simp [runM_nil, runM_n, runM_t, runM_f, runM_s, runK, pev, ptake, putSt, arg, argT, takeAt, lend, lendL, thenP, inBlockP, binP, binBP, intP, unP, lenP, fadP, ldP, iadP, fldP, extP, extTake, sliP, optN, appP, emptyOr, cvSP, cvMP, cvIP, hget, hset, partP, cellsOf, callArgs, callTake, fillP, partsOf, elemParts, elemsOf, chunk, PV.isCell, mmP, eqSP, eqCells, planM_nil, planM_n, planM_t, planM_f, planM_s, planK, keepL_MS, keepA, MS_getD, MS_get, MS_set, getS, idxA, bxP, nckP, idxP, slsP, mkP, tbV, n12, Ne.symm n12, m14, Ne.symm m14, n14, Ne.symm n14, hiv2, hix2, hiy2, hkv, hkx, hky, tkV, hv, hx, h1, h2]
      exact go2 _ _ (by simp [runM_nil, runM_n, runM_t, runM_f, runM_s, runK, pev, ptake, putSt, arg, argT, takeAt, lend, lendL, thenP, inBlockP, binP, binBP, intP, unP, lenP, fadP, ldP, iadP, fldP, extP, extTake, sliP, optN, appP, emptyOr, cvSP, cvMP, cvIP, hget, hset, partP, cellsOf, callArgs, callTake, fillP, partsOf, elemParts, elemsOf, chunk, PV.isCell, mmP, eqSP, eqCells, planM_nil, planM_n, planM_t, planM_f, planM_s, planK, keepL_MS, keepA, MS_getD, MS_get, MS_set, getS, idxA, bxP, nckP, idxP, slsP, mkP]) (by simp [keepL_MS, keepA, getS, tbV]) rfl
    · simp [runM_nil, runM_n, runM_t, runM_f, runM_s, runK, pev, ptake, putSt, arg, argT, takeAt, lend, lendL, thenP, inBlockP, binP, binBP, intP, unP, lenP, fadP, ldP, iadP, fldP, extP, extTake, sliP, optN, appP, emptyOr, cvSP, cvMP, cvIP, hget, hset, partP, cellsOf, callArgs, callTake, fillP, partsOf, elemParts, elemsOf, chunk, PV.isCell, mmP, eqSP, eqCells, planM_nil, planM_n, planM_t, planM_f, planM_s, planK, keepL_MS, keepA, MS_getD, MS_get, MS_set, getS, idxA, bxP, nckP, idxP, slsP, mkP, tbV, n12, Ne.symm n12, m14, Ne.symm m14, n14, Ne.symm n14, hiv2, hix2, hiy2, hkv, hkx, hky, tkV, hv, hx, h1]
      exact go2 _ _ (by simp [runM_nil, runM_n, runM_t, runM_f, runM_s, runK, pev, ptake, putSt, arg, argT, takeAt, lend, lendL, thenP, inBlockP, binP, binBP, intP, unP, lenP, fadP, ldP, iadP, fldP, extP, extTake, sliP, optN, appP, emptyOr, cvSP, cvMP, cvIP, hget, hset, partP, cellsOf, callArgs, callTake, fillP, partsOf, elemParts, elemsOf, chunk, PV.isCell, mmP, eqSP, eqCells, planM_nil, planM_n, planM_t, planM_f, planM_s, planK, keepL_MS, keepA, MS_getD, MS_get, MS_set, getS, idxA, bxP, nckP, idxP, slsP, mkP]) (by simp [keepL_MS, keepA, getS, tbV]) rfl
  clear hK
  cases o1 with
  | true =>
    obtain ⟨hkn, hkd⟩ := hu1 rfl
    simp [runM_nil, runM_n, runM_t, runM_f, runM_s, runK, pev, ptake, putSt, arg, argT, takeAt, lend, lendL, thenP, inBlockP, binP, binBP, intP, unP, lenP, fadP, ldP, iadP, fldP, extP, extTake, sliP, optN, appP, emptyOr, cvSP, cvMP, cvIP, hget, hset, partP, cellsOf, callArgs, callTake, fillP, partsOf, elemParts, elemsOf, chunk, PV.isCell, mmP, eqSP, eqCells, planM_nil, planM_n, planM_t, planM_f, planM_s, planK, keepL_MS, keepA, MS_getD, MS_get, MS_set, getS, idxA, bxP, nckP, idxP, slsP, mkP, tbV, hiu, hku, tkV, hkd, hkn]
    exact go _ (by simp [runM_nil, runM_n, runM_t, runM_f, runM_s, runK, pev, ptake, putSt, arg, argT, takeAt, lend, lendL, thenP, inBlockP, binP, binBP, intP, unP, lenP, fadP, ldP, iadP, fldP, extP, extTake, sliP, optN, appP, emptyOr, cvSP, cvMP, cvIP, hget, hset, partP, cellsOf, callArgs, callTake, fillP, partsOf, elemParts, elemsOf, chunk, PV.isCell, mmP, eqSP, eqCells, planM_nil, planM_n, planM_t, planM_f, planM_s, planK, keepL_MS, keepA, MS_getD, MS_get, MS_set, getS, idxA, bxP, nckP, idxP, slsP, mkP]) (by simp [keepL_MS, keepA, getS, tbV, hkd])
  | false =>
    have hut := cs' (hu2 rfl)
    rcases (show k.dn < 0 ∨ 0 ≤ k.dn by omega) with h1 | h1
    · have h2 : ¬ 0 ≤ k.dn := by omega
      simp [runM_nil, runM_n, runM_t, runM_f, runM_s, runK, pev, ptake, putSt, arg, argT, takeAt, lend, lendL, thenP, inBlockP, binP, binBP, intP, unP, lenP, fadP, ldP, iadP, fldP, extP, extTake, sliP, optN, appP, emptyOr, cvSP, cvMP, cvIP, hget, hset, partP, cellsOf, callArgs, callTake, fillP, partsOf, elemParts, elemsOf, chunk, PV.isCell, mmP, eqSP, eqCells, planM_nil, planM_n, planM_t, planM_f, planM_s, planK, keepL_MS, keepA, MS_getD, MS_get, MS_set, getS, idxA, bxP, nckP, idxP, slsP, mkP, tbV, h2]
      exact go _ (by simp [runM_nil, runM_n, runM_t, runM_f, runM_s, runK, pev, ptake, putSt, arg, argT, takeAt, lend, lendL, thenP, inBlockP, binP, binBP, intP, unP, lenP, fadP, ldP, iadP, fldP, extP, extTake, sliP, optN, appP, emptyOr, cvSP, cvMP, cvIP, hget, hset, partP, cellsOf, callArgs, callTake, fillP, partsOf, elemParts, elemsOf, chunk, PV.isCell, mmP, eqSP, eqCells, planM_nil, planM_n, planM_t, planM_f, planM_s, planK, keepL_MS, keepA, MS_getD, MS_get, MS_set, getS, idxA, bxP, nckP, idxP, slsP, mkP]) (by simp [keepL_MS, keepA, getS, tbV])
    · simp [runM_nil, runM_n, runM_t, runM_f, runM_s, runK, pev, ptake, putSt, arg, argT, takeAt, lend, lendL, thenP, inBlockP, binP, binBP, intP, unP, lenP, fadP, ldP, iadP, fldP, extP, extTake, sliP, optN, appP, emptyOr, cvSP, cvMP, cvIP, hget, hset, partP, cellsOf, callArgs, callTake, fillP, partsOf, elemParts, elemsOf, chunk, PV.isCell, mmP, eqSP, eqCells, planM_nil, planM_n, planM_t, planM_f, planM_s, planK, keepL_MS, keepA, MS_getD, MS_get, MS_set, getS, idxA, bxP, nckP, idxP, slsP, mkP, tbV, h1]
      refine useD hut ?_
      simp [runM_nil, runM_n, runM_t, runM_f, runM_s, runK, pev, ptake, putSt, arg, argT, takeAt, lend, lendL, thenP, inBlockP, binP, binBP, intP, unP, lenP, fadP, ldP, iadP, fldP, extP, extTake, sliP, optN, appP, emptyOr, cvSP, cvMP, cvIP, hget, hset, partP, cellsOf, callArgs, callTake, fillP, partsOf, elemParts, elemsOf, chunk, PV.isCell, mmP, eqSP, eqCells, planM_nil, planM_n, planM_t, planM_f, planM_s, planK, keepL_MS, keepA, MS_getD, MS_get, MS_set, getS, idxA, bxP, nckP, idxP, slsP, mkP]
      exact go _ (by simp [runM_nil, runM_n, runM_t, runM_f, runM_s, runK, pev, ptake, putSt, arg, argT, takeAt, lend, lendL, thenP, inBlockP, binP, binBP, intP, unP, lenP, fadP, ldP, iadP, fldP, extP, extTake, sliP, optN, appP, emptyOr, cvSP, cvMP, cvIP, hget, hset, partP, cellsOf, callArgs, callTake, fillP, partsOf, elemParts, elemsOf, chunk, PV.isCell, mmP, eqSP, eqCells, planM_nil, planM_n, planM_t, planM_f, planM_s, planK, keepL_MS, keepA, MS_getD, MS_get, MS_set, getS, idxA, bxP, nckP, idxP, slsP, mkP]) (by simp [keepL_MS, keepA, getS, tbV])
#print axioms taskOnce
end Go.Proofs.Ytkjibelcaeanjaa.E
