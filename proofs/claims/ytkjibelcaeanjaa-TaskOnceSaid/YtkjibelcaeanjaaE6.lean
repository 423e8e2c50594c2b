/- A logic of plain values, part 6: operations that read memory. -/
import Derived.Test.YtkjibelcaeanjaaE5
import Derived.Laws.Cells
namespace Go.Proofs.Ytkjibelcaeanjaa.E
open Go Go.RowKit
set_option linter.unusedVariables false
set_option linter.unusedSimpArgs false
def isAggD : TypeDesc → Bool
  | .struct _ | .array _ _ => true
  | _ => false
theorem run_isAgg {P : Program} {t : TypeId} {d : TypeDesc} (h : P.underlying t = some d) (w : World) : (isAgg t).run P w = .ok (isAggD d) w := by
  unfold isAgg
  simp only [Sem.run_bind, run_underlying h, Result.andThen_ok]
  cases d <;> rfl
theorem run_sizeOf {P : Program} {t : TypeId} {i : TypeInfo} (h : P.info? t = some i) (w : World) : (sizeOf t).run P w = .ok i.size w := by
  simp [sizeOf, typeInfo, h]
theorem addr_add (b o n : Nat) : (⟨b, o, none⟩ : Addr).add n = ⟨b, o + n, none⟩ := by
  unfold Addr.add
  split
  · subst_vars; rfl
  · rfl
theorem Readable.cell {w : World} {g : Ghost} {b off n : Nat} {vs : List Value} (h : Readable w g b off n vs) {j : Nat} {v : Value} (hj : vs[j]? = some v) : w.cell? ⟨b, off + j, none⟩ = some v := by
  obtain ⟨c, e, fz, h1, h2, h3, _⟩ := h
  unfold World.cell?
  simp only [h1, Option.isSome_none, Bool.false_eq_true, if_false]
  rw [← h2, List.getElem?_take] at hj
  split at hj
  · rw [List.getElem?_drop] at hj
    simpa using hj
  · cases hj
theorem Readable.part {w : World} {g : Ghost} {b off n : Nat} {vs : List Value} (h : Readable w g b off n vs) (lo m : Nat) (hm : lo + m ≤ n) : Readable w g b (off + lo) m ((vs.drop lo).take m) := by
  obtain ⟨c, e, fz, h1, h2, h3, h4⟩ := h
  refine ⟨c, e, fz, h1, ?_, ?_, ?_⟩
  · rw [← h2, List.drop_take, List.take_take, List.drop_drop, Nat.min_eq_left (by omega)]
  · rw [List.length_take, List.length_drop, h3]; omega
  · rcases h4 with h4 | ⟨f, h4, h5⟩
    · exact .inl h4
    · exact .inr ⟨f, h4, by omega⟩
/-- A variable of type t whose cells are known is loaded. -/
theorem run_loadVar {P : Program} {t : TypeId} {d : TypeDesc} {i : TypeInfo} (ht : P.underlying t = some d) (hi : P.info? t = some i) {w : World} {b o : Nat} {us : List Value}
    (hl : us.length = i.size) (hc : ∀ j v, us[j]? = some v → w.cell? ⟨b, o + j, none⟩ = some v) :
    (isAggD d = true → (loadVar t ⟨b, o, none⟩).run P w = .ok (.agg us.toArray) w) ∧ (isAggD d = false → ∀ v, us[0]? = some v → (loadVar t ⟨b, o, none⟩).run P w = .ok v w) := by
  constructor
  · intro ha
    have := run_loadCells_list (P := P) w ⟨b, o, none⟩ us (fun j v hv => by rw [addr_add]; exact hc j v hv)
    rw [hl] at this
    simp [loadVar, run_isAgg ht, ha, run_sizeOf hi, this]
  · intro ha v hv
    have := hc 0 v hv
    rw [Nat.add_zero] at this
    simp [loadVar, run_isAgg ht, ha, run_load, this]
def cellsOf : PV → List PV
  | .agg cs => cs
  | x => [x]
/-- A part of an element, or of a variable. -/
def partP (sz : Nat) (ag : Bool) (cs : List PV) (off : Nat) : Option PV :=
  if off + sz ≤ cs.length then (if ag then some (.agg ((cs.drop off).take sz)) else cs[off]?) else none
theorem VRc_cells {w : World} {g : Ghost} {sz : Nat} {x : PV} {us : List Value} (h : VRc w g sz x us) : (cellsOf x).all PV.isCell = true ∧ (cellsOf x).length = sz ∧ VRl false w g (cellsOf x) us := by
  obtain ⟨hl, h⟩ := h
  rcases h with ⟨cs, rfl, h1, h2⟩ | ⟨h1, v, rfl, h2⟩
  · exact ⟨h1, by show cs.length = sz; rw [← VRl_length h2, hl], h2⟩
  · have e : cellsOf x = [x] := by cases x <;> first | rfl | cases h1
    rw [e]
    exact ⟨by simp [h1], by simpa using hl, v, [], rfl, h2, rfl⟩
theorem all_drop_take {cs : List PV} (h : cs.all PV.isCell = true) (a b : Nat) : ((cs.drop a).take b).all PV.isCell = true := by
  rw [List.all_eq_true] at h ⊢
  intro x hx
  exact h x (List.mem_of_mem_drop (List.mem_of_mem_take hx))
theorem partP_spec {w : World} {g : Ghost} {sz : Nat} {ag : Bool} {cs : List PV} {off : Nat} {r : PV} {us : List Value} (h : partP sz ag cs off = some r) (hc : cs.all PV.isCell = true) (hr : VRl false w g cs us) (hsz : ag = false → sz = 1) :
    off + sz ≤ us.length ∧ ((us.drop off).take sz).length = sz ∧ (ag = true → VR true w g (lend r) (.agg ((us.drop off).take sz).toArray)) ∧ (ag = false → ∃ v, ((us.drop off).take sz)[0]? = some v ∧ VR true w g (lend r) v) := by
  unfold partP at h
  split at h
  · rename_i hle
    have hl := VRl_length hr
    refine ⟨by omega, by rw [List.length_take, List.length_drop]; omega, fun ha => ?_, fun ha => ?_⟩
    · subst ha
      simp only [if_true, Option.some.injEq] at h
      subst h
      refine VR_lend _ _ ⟨all_drop_take hc _ _, _, rfl, ?_⟩
      exact (VRl_take sz (VRl_take off hr).2).1
    · subst ha
      simp only [Bool.false_eq_true, if_false] at h
      obtain ⟨v, h1, h2⟩ := VRl_get hr h
      refine ⟨v, ?_, VR_lend _ _ h2⟩
      rw [List.getElem?_take, if_pos (by have := hsz rfl; omega), List.getElem?_drop]
      simpa using h1
  · cases h
def ldP (sz : Nat) (ag : Bool) (H : Heap) : PV → Option PV
  | .ip s xs i off => (xs[i]?).bind fun x => (partP sz ag (cellsOf x) off).map lend
  | .ptr (some (b, off)) => (hget H b).bind fun cs => (partP sz ag cs off).map lend
  | _ => none
theorem toks_of_lend {x : PV} {v : Value} : toks (lend x) v = [] := toks_lend x v
theorem ldP_run {P : Program} {t : TypeId} {d : TypeDesc} {i : TypeInfo} (ht : P.underlying t = some d) (hi : P.info? t = some i) (h1 : isAggD d = false → i.size = 1)
    {w : World} {g : Ghost} {H : Heap} (hH : HRel w g H) {x r : PV} {v : Value} {o : Bool} (h : ldP i.size (isAggD d) H x = some r) (hx : VR o w g x v) :
    ∃ z, (Instr.loadAt t v).run P w = .ok z w ∧ VR true w g r z ∧ toks r z = [] := by
  unfold ldP at h
  split at h
  · rename_i s xs ix off
    obtain ⟨b, base, vs, rfl, hlt, hr, he⟩ := hx
    obtain ⟨e, h2, h⟩ := Option.bind_eq_some_iff.mp h
    obtain ⟨q, h3, rfl⟩ := Option.map_eq_some_iff.mp h
    have hc := VRc_cells (VRe_get h2 he)
    have hvl := VRe_length he
    obtain ⟨p1, p2, p3, p4⟩ := partP_spec h3 hc.1 hc.2.2 h1
    have hus : ((vs.drop (ix * s)).take s).length = s := by rw [VRl_length hc.2.2, hc.2.1]
    have hcell : ∀ j v, ((((vs.drop (ix * s)).take s).drop off).take i.size)[j]? = some v → w.cell? ⟨b, base + ix * s + off + j, none⟩ = some v := by
      intro j v hj
      have hj2 : vs[ix * s + off + j]? = some v := by
        rw [List.getElem?_take] at hj
        split at hj
        · rw [List.getElem?_drop, List.getElem?_take] at hj
          split at hj
          · rw [List.getElem?_drop] at hj
            rw [← hj]; congr 1; omega
          · cases hj
        · cases hj
      have := hr.cell hj2
      rw [← this]; congr 2; omega
    obtain ⟨l1, l2⟩ := run_loadVar ht hi p2 hcell
    cases hd : isAggD d with
    | true => exact ⟨_, by simp [Instr.loadAt, Instr.sureAddr, l1 hd], p3 hd, toks_of_lend⟩
    | false =>
      obtain ⟨v, p5, p6⟩ := p4 hd
      exact ⟨v, by simp [Instr.loadAt, Instr.sureAddr, l2 hd v p5], p6, toks_of_lend⟩
  · rename_i b off
    cases hx
    obtain ⟨cs, h2, h⟩ := Option.bind_eq_some_iff.mp h
    obtain ⟨q, h3, rfl⟩ := Option.map_eq_some_iff.mp h
    obtain ⟨_, hc, c, e, hb, hv⟩ := hH.mut_of_get h2
    obtain ⟨p1, p2, p3, p4⟩ := partP_spec h3 hc (VRl_weak _ _ hv) h1
    have hcell : ∀ j v, ((c.toList.drop off).take i.size)[j]? = some v → w.cell? ⟨b, off + j, none⟩ = some v := by
      intro j v hj
      rw [List.getElem?_take] at hj
      split at hj
      · rw [List.getElem?_drop] at hj
        unfold World.cell?
        simp only [hb, Option.isSome_none, Bool.false_eq_true, if_false]
        simpa using hj
      · cases hj
    obtain ⟨l1, l2⟩ := run_loadVar ht hi p2 hcell
    cases hd : isAggD d with
    | true => exact ⟨_, by simp [Instr.loadAt, Instr.sureAddr, l1 hd], p3 hd, toks_of_lend⟩
    | false =>
      obtain ⟨v, p5, p6⟩ := p4 hd
      exact ⟨v, by simp [Instr.loadAt, Instr.sureAddr, l2 hd v p5], p6, toks_of_lend⟩
  · cases h
end Go.Proofs.Ytkjibelcaeanjaa.E
