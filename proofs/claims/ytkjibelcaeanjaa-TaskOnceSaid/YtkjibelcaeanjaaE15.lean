/- A logic of plain values, part 15: .. (3): what is built and made. -/
import Derived.Test.YtkjibelcaeanjaaE14
namespace Go.Proofs.Ytkjibelcaeanjaa.E
open Go Go.RowKit
set_option linter.unusedVariables false
set_option linter.unusedSimpArgs false
theorem rep_cells (z : Array Value) (hz : 0 < z.size) : ∀ n, ((Array.range (n * z.size)).map (fun j => z[j % z.size]!)).toList = (List.replicate n z.toList).flatten
  | 0 => by simp
  | n + 1 => by
    have ih := rep_cells z hz n
    simp only [Array.toList_map, Array.toList_range] at ih ⊢
    rw [Nat.succ_mul, List.range_add, List.map_append, ih, List.replicate_succ', List.flatten_append]
    congr 1
    simp only [List.map_map, List.flatten_cons, List.flatten_nil, List.append_nil]
    apply List.ext_getElem?
    intro i
    rw [List.getElem?_map]
    by_cases hi : i < z.size
    · have e : (n * z.size + i) % z.size = i := by rw [Nat.add_comm, Nat.add_mul_mod_self_right, Nat.mod_eq_of_lt hi]
      rw [List.getElem?_range hi, Option.map_some, Function.comp_apply, e, List.getElem?_eq_getElem (by exact hi)]
      congr 1
      rw [getElem!_pos z i hi]
      rfl
    · rw [List.getElem?_eq_none (by simp; omega), List.getElem?_eq_none (by simp; omega)]
      rfl
theorem VRl_rep {o : Bool} {w : World} {g : Ghost} {zs : List PV} {us : List Value} (h : VRl o w g zs us) : ∀ n, VRl o w g (repCells n zs) (List.replicate n us).flatten
  | 0 => rfl
  | n + 1 => by
    unfold repCells
    rw [List.replicate_succ, List.replicate_succ, List.flatten_cons, List.flatten_cons]
    exact VRl_append h (VRl_rep h n)
theorem all_rep {zs : List PV} (h : zs.all PV.isCell = true) : ∀ n, (repCells n zs).all PV.isCell = true
  | 0 => rfl
  | n + 1 => by
    unfold repCells
    rw [List.replicate_succ, List.flatten_cons, List.all_append, h]
    exact all_rep h n
theorem VRe_of_cells {w : World} {g : Ghost} : ∀ {cs : List PV} {us : List Value}, cs.all PV.isCell = true → VRl false w g cs us → VRe w g 1 cs us
  | [], us, _, h => by cases h; rfl
  | x :: cs, us, ha, h => by
    obtain ⟨v, us', rfl, h1, h2⟩ := h
    simp only [List.all_cons, Bool.and_eq_true] at ha
    exact VRe_cons.2 ⟨[v], us', rfl, ⟨rfl, .inr ⟨ha.1, v, rfl, h1⟩⟩, VRe_of_cells ha.2 h2⟩
theorem VRe_chunk {w : World} {g : Ghost} {sz : Nat} : ∀ {n : Nat} {cs : List PV} {us : List Value}, cs.all PV.isCell = true → cs.length = n * sz → VRl false w g cs us → VRe w g sz (chunk sz n cs) us
  | 0, cs, us, _, hl, h => by
    have : cs = [] := List.eq_nil_of_length_eq_zero (by omega)
    subst this
    cases h
    rfl
  | n + 1, cs, us, ha, hl, h => by
    obtain ⟨h1, h2⟩ := VRl_take sz h
    have hl2 : cs.length = n * sz + sz := by rw [hl, Nat.succ_mul]
    refine VRe_cons.2 ⟨us.take sz, us.drop sz, (List.take_append_drop _ _).symm, ⟨by rw [VRl_length h1, List.length_take]; omega, .inl ⟨_, rfl, ?_, h1⟩⟩, VRe_chunk ?_ (by rw [List.length_drop]; omega) h2⟩
    · have := all_drop_take ha 0 sz
      rwa [List.drop_zero] at this
    · have := all_drop_take ha sz cs.length
      rwa [List.take_of_length_le (by rw [List.length_drop]; omega)] at this
theorem length_chunk (sz : Nat) : ∀ (n : Nat) (cs : List PV), (chunk sz n cs).length = n
  | 0, _ => rfl
  | n + 1, cs => by simp [chunk, length_chunk sz n]
theorem VRe_elems {w : World} {g : Ghost} {sz n : Nat} {ag : Bool} {cs : List PV} {us : List Value} (ha : cs.all PV.isCell = true) (hl : cs.length = n * sz) (h1 : ag = false → sz = 1) (h : VRl false w g cs us) :
    VRe w g sz (elemsOf sz ag n cs) us ∧ (elemsOf sz ag n cs).length = n := by
  cases ag with
  | true => exact ⟨VRe_chunk ha hl h, length_chunk _ _ _⟩
  | false =>
    have := h1 rfl
    subst this
    exact ⟨VRe_of_cells ha h, by simpa [elemsOf] using hl⟩
theorem length_fillP : ∀ {parts : List (Nat × Nat × PV)} {cs rs : List PV}, fillP cs parts = some rs → rs.length = cs.length
  | [], cs, rs, h => by cases h; rfl
  | (off, sz, v) :: rest, cs, rs, h => by
    unfold fillP at h
    obtain ⟨⟨h1, h2, _⟩, h⟩ := ite_spec h
    rw [length_fillP h]
    simp only [List.length_append, List.length_take, List.length_drop, h1]
    omega
theorem length_rep (n : Nat) (zs : List PV) : (repCells n zs).length = n * zs.length := by
  induction n with
  | zero => simp [repCells]
  | succ n ih =>
    unfold repCells at ih ⊢
    rw [List.replicate_succ, List.flatten_cons, List.length_append, ih, Nat.succ_mul, Nat.add_comm]
section
variable {P : Program} {hint : Hint} {k : PK} {out : List Nat} {st : List PV} {H : Heap} {a : Act} {w : World} {g : Ghost} {r : PV} {d : Option Tmp} {ty : TypeId} {pos : String} {af : Array Edge} {gd : Option (Nat × Bool)}
theorem run_places {w : World} : ∀ (fs : List Field), fs.all (fun f => (P.info? f.type).isSome) = true →
    (fs.mapM (fun f => (do pure (f.offset, ← sizeOf f.type) : Sem (Nat × Nat)))).run P w = .ok (fs.map fun f => (f.offset, ((P.info? f.type).map (·.size)).getD 0)) w
  | [], _ => by simp
  | f :: fs, h => by
    simp only [List.all_cons, Bool.and_eq_true] at h
    obtain ⟨i, hi⟩ := Option.isSome_iff_exists.1 h.1
    have ih := run_places (w := w) fs h.2
    simp only [List.mapM_cons, Sem.run_bind, run_sizeOf hi, Result.andThen_ok, Sem.run_pure, ih, List.map_cons, hi, Option.map_some, Option.getD_some]
theorem parts_spec (h : VRl true w g st a.tmps.toList) {fields : Array Field} : ∀ {ps : List (Nat × Operand)} {qs : List (Nat × Nat × Arg)}, compParts P fields ps = some qs →
    PartsR true w g (fun i => ((fields.toList.map fun f => (f.offset, ((P.info? f.type).map (·.size)).getD 0)).toArray)[i]?) (partsOf st qs) (ps.map fun p => (p.1, a.eval p.2))
  | [], qs, hk => by cases hk; rfl
  | (i, x) :: ps, qs, hk => by
    unfold compParts at hk
    obtain ⟨f, hf, hk⟩ := bind_spec hk
    obtain ⟨fi, hfi, hk⟩ := bind_spec hk
    obtain ⟨p, hp, hk⟩ := bind_spec hk
    obtain ⟨qs', hq, rfl⟩ := map_spec hk
    refine ⟨(i, a.eval x), _, rfl, ?_, arg_spec h hp, arg_toks, parts_spec h hq⟩
    have hf' : fields.toList[i]? = some f := by rw [Array.getElem?_toList]; exact hf
    simp [List.getElem?_map, hf, hfi]
theorem elems_spec (h : VRl true w g st a.tmps.toList) {sz : Nat} : ∀ {ps : List (Nat × Operand)} {qs : List (Nat × Nat × Arg)}, compElems sz ps = some qs →
    PartsR true w g (fun i => some (i * sz, sz)) (elemParts sz st (qs.map fun p => (p.1, p.2.2))) (ps.map fun p => (p.1, a.eval p.2))
  | [], qs, hk => by cases hk; rfl
  | (i, x) :: ps, qs, hk => by
    unfold compElems at hk
    obtain ⟨p, hp, hk⟩ := bind_spec hk
    obtain ⟨qs', hq, rfl⟩ := map_spec hk
    exact ⟨(i, a.eval x), _, rfl, rfl, arg_spec h hp, arg_toks, elems_spec h hq⟩
theorem parts_map (parts : Array (Nat × Operand)) (ρ : Operand → Value) : (parts.map fun (i, x) => (i, ρ x)).toList = parts.toList.map fun p => (p.1, ρ p.2) := by
  rw [Array.toList_map]
theorem does_build (h : Rel out st H a w g) {t : TypeId} {parts : Array (Nat × Operand)} {fields : Array Field} {i : TypeInfo} {z : Value} {zero : List PV} {ps : List (Nat × Nat × Arg)} (ht : P.underlying t = some (.struct fields)) (hi : P.info? t = some i) (hz : i.zero = some z)
    (hzero : constCells z.cells.toList = some zero) (hall : fields.toList.all (fun f => (P.info? f.type).isSome) = true) (hps : compParts P fields parts.toList = some ps) (hv : pev st H (.build zero ps) = some r) :
    Does P ⟨d, .build t parts, ty, pos, af, gd⟩ (.build zero ps) st a w g r := by
  obtain ⟨cs, h1, rfl⟩ := map_spec hv
  obtain ⟨z1, z2, z3⟩ := constCells_VR w g hzero
  obtain ⟨us, f1, f2, f3, f4⟩ := fillP_run (us := z.cells) h1 z2 z1 z3 (parts_spec (P := P) h.tm hps)
  refine Does.same h rfl ⟨.agg us, ?_, ⟨f2, us, rfl, f3⟩, by simpa [toks] using f4⟩
  unfold execOp
  refine run_v ?_
  have hpl : (fields.mapM (fun f => (do pure (f.offset, ← sizeOf f.type) : Sem (Nat × Nat)))).run P w = .ok ((fields.toList.map fun f => (f.offset, ((P.info? f.type).map (·.size)).getD 0)).toArray) w := by
    rw [Array.mapM_eq_mapM_toList]
    simp only [Sem.run_map, run_places fields.toList hall, Result.andThen_ok]
  simp only [Instr.build, Sem.run_bind, zeroValue, typeInfo, run_program, Result.andThen_ok, hi, hz, Sem.run_pure, run_underlying ht, hpl, parts_map, f1]
/-- The block of a slice literal. -/
theorem bsl_run (h : Rel out st H a w g) {t e : TypeId} {len : Nat} {parts : Array (Nat × Operand)} {i : TypeInfo} {z : Value} {zero : List PV} {ps : List (Nat × Nat × Arg)} {cs : List PV} (ht : P.underlying t = some (.slice e)) (hi : P.info? e = some i) (hz : i.zero = some z)
    (hzero : constCells z.cells.toList = some zero) (hzl : zero.length = i.size) (hs0 : 0 < i.size) (hlim : len * i.size ≤ 16777216) (hps : compElems i.size parts.toList = some ps)
    (hv : fillP (repCells len zero) (elemParts i.size st (ps.map fun p => (p.1, p.2.2))) = some cs) :
    ∃ us, (Instr.buildSlice t len (parts.map fun (i, x) => (i, a.eval x))).run P w = .ok (.slice (some ⟨w.heap.size, 0, none⟩) len len) (w.alloc (.cells us e)) ∧ cs.all PV.isCell = true ∧ VRl true w g cs us.toList ∧ toksL cs us.toList = [] ∧ cs.length = len * i.size := by
  obtain ⟨z1, z2, z3⟩ := constCells_VR w g hzero
  have hzs : z.cells.size = i.size := by rw [← hzl, ← VRl_length z1]; rfl
  have hrep : ∀ n, toksL (repCells n zero) (List.replicate n z.cells.toList).flatten = [] := by
    intro n
    induction n with
    | zero => simp [repCells, toksL]
    | succ n ih =>
      unfold repCells at ih ⊢
      rw [List.replicate_succ, List.replicate_succ, List.flatten_cons, List.flatten_cons, toksL_append _ _ _ _ (by rw [VRl_length z1]), z3, ih]
      rfl
  have hinit : ((Array.range (len * z.cells.size)).map (fun j => z.cells[j % z.cells.size]!)).toList = (List.replicate len z.cells.toList).flatten := rep_cells z.cells (by omega) len
  obtain ⟨us, f1, f2, f3, f4⟩ := fillP_run (us := (Array.range (len * z.cells.size)).map (fun j => z.cells[j % z.cells.size]!)) hv (all_rep z2 len) (by rw [hinit]; exact VRl_rep z1 len) (by rw [hinit]; exact hrep len) (elems_spec h.tm hps)
  refine ⟨us, ?_, f2, f3, f4, by rw [length_fillP hv, length_rep, hzl]⟩
  have hng : ¬ (len * i.size > 2 ^ 24) := by omega
  by_cases hl : len * i.size = 0
  · have hl0 : len = 0 := by
      rcases Nat.mul_eq_zero.1 hl with h | h <;> omega
    subst hl0
    have e : (Array.range (0 * z.cells.size)).map (fun j => z.cells[j % z.cells.size]!) = #[] := by simp
    rw [e] at f1
    have e0 : ∀ q : Array Value, (Array.range (0 * i.size)).map (fun x => q[x % q.size]!) = #[] := fun q => by simp
    simp only [Instr.buildSlice, Sem.run_bind, run_underlying ht, Result.andThen_ok, run_sizeOf hi, Sem.run_ite, if_neg hng, if_pos hl, Sem.run_pure, parts_map, e0, f1]
    simp only [newRow, Sem.run_bind, run_newObj, Result.andThen_ok, Sem.run_pure]
    rfl
  · simp only [Instr.buildSlice, Sem.run_bind, run_underlying ht, Result.andThen_ok, run_sizeOf hi, Sem.run_ite, if_neg hng, if_neg hl, Sem.run_pure, zeroValue, typeInfo, run_program, hi, hz, parts_map]
    rw [hzs] at f1
    simp only [hzs, f1, newRow, Sem.run_bind, run_newObj, Result.andThen_ok, Sem.run_pure]
    rfl
end
end Go.Proofs.Ytkjibelcaeanjaa.E
