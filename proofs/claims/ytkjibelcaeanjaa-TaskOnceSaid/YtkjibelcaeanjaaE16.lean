/- A logic of plain values, part 16: .. (4), and all together. -/
import Derived.Test.YtkjibelcaeanjaaE15
namespace Go.Proofs.Ytkjibelcaeanjaa.E
open Go Go.RowKit
set_option linter.unusedVariables false
set_option linter.unusedSimpArgs false
section
variable {P : Program} {hint : Hint} {k : PK} {out : List Nat} {st : List PV} {H : Heap} {a : Act} {w : World} {g : Ghost} {r : PV} {d : Option Tmp} {ty : TypeId} {pos : String} {af : Array Edge} {gd : Option (Nat × Bool)}
theorem does_bsl (h : Rel out st H a w g) {t e : TypeId} {dd : TypeDesc} {len : Nat} {parts : Array (Nat × Operand)} {i : TypeInfo} {z : Value} {zero : List PV} {ps : List (Nat × Nat × Arg)} (ht : P.underlying t = some (.slice e)) (hi : P.info? e = some i) (hz : i.zero = some z)
    (hzero : constCells z.cells.toList = some zero) (hzl : zero.length = i.size) (hs0 : 0 < i.size) (hlim : len * i.size ≤ 16777216) (h1 : isAggD dd = false → i.size = 1) (hps : compElems i.size parts.toList = some ps)
    (hv : pev st H (.bsl i.size len (isAggD dd) (repCells len zero) (ps.map fun p => (p.1, p.2.2)) false) = some r) :
    Does P ⟨d, .buildSlice t len parts, ty, pos, af, gd⟩ (.bsl i.size len (isAggD dd) (repCells len zero) (ps.map fun p => (p.1, p.2.2)) false) st a w g r := by
  obtain ⟨cs, h2, rfl⟩ := map_spec hv
  obtain ⟨us, q1, q2, q3, q4, q5⟩ := bsl_run h ht hi hz hzero hzl hs0 hlim hps h2
  have hS : Step0 [] w g (w.alloc (.cells us e)) (upd g w.heap.size .imm) := Step0.alloc h.wr rfl rfl rfl rfl (by simp) (fun f hf => by cases hf)
  have hE : Evol [] w g (w.alloc (.cells us e)) (upd g w.heap.size .imm) := hS.evol (by simp) (by simp)
  obtain ⟨e1, e2⟩ := VRe_elems (ag := isAggD dd) q2 q5 h1 (VRl_weak _ _ q3)
  have hul := VRl_length q3
  have hml : len ≤ maxLen := by
    have : len * 1 ≤ len * i.size := Nat.mul_le_mul_left _ hs0
    simp only [maxLen]
    omega
  have htk : toks (.lst i.size (elemsOf i.size (isAggD dd) len cs) true) (.slice (some ⟨w.heap.size, 0, none⟩) len len) = [] := by rw [toks_lst e2.symm]; simp
  refine ⟨_, _, _, [], by unfold execOp; exact run_v q1, { hS with rv := ?_, rt := by simp [htk], rs := by simp [htk] }, h.tm, fun x => by simp [ptake]⟩
  refine ⟨_, len, by rw [e2], by omega, hml, ?_, fun _ _ hlt => by omega⟩
  by_cases hl : len = 0
  · left
    exact List.eq_nil_of_length_eq_zero (by omega)
  · right
    refine ⟨w.heap.size, 0, us.toList, rfl, ⟨us, e, _, push_new w _, ?_, by rw [hul, q5, e2], .inl (upd_same _ _ _)⟩, VRe_mono hE _ _ _ e1⟩
    rw [List.drop_zero, List.take_of_length_le (by rw [hul, q5, e2]; exact Nat.le_refl _)]
theorem count_single (a b : Nat) : ([a] : List Nat).count b ≤ 1 := by
  rw [List.count_singleton]
  split <;> omega
theorem does_nl (h : Rel out st H a w g) {t e : TypeId} {dd : TypeDesc} {len : Nat} {parts : Array (Nat × Operand)} {i : TypeInfo} {z : Value} {zero : List PV} {ps : List (Nat × Nat × Arg)} (ht : P.underlying t = some (.slice e)) (hi : P.info? e = some i) (hz : i.zero = some z)
    (hzero : constCells z.cells.toList = some zero) (hzl : zero.length = i.size) (hs0 : 0 < i.size) (hlim : len * i.size ≤ 16777216) (h1 : isAggD dd = false → i.size = 1) (hps : compElems i.size parts.toList = some ps)
    (hv : pev st H (.nl i.size len (isAggD dd) (repCells len zero) (ps.map fun p => (p.1, p.2.2))) = some r) :
    Does P ⟨d, .buildSlice t len parts, ty, pos, af, gd⟩ (.nl i.size len (isAggD dd) (repCells len zero) (ps.map fun p => (p.1, p.2.2))) st a w g r := by
  obtain ⟨cs, h2, rfl⟩ := map_spec hv
  obtain ⟨us, q1, q2, q3, q4, q5⟩ := bsl_run h ht hi hz hzero hzl hs0 hlim hps h2
  have hul := VRl_length q3
  have hus : us.size = len * i.size := by
    have : us.toList.length = us.size := rfl
    rw [← this, hul, q5]
  have hS : Step0 [] w g (w.alloc (.cells us e)) (upd g w.heap.size (.tail (len * i.size))) := Step0.alloc h.wr rfl rfl rfl rfl (by simp) (fun f hf => by cases hf; exact ⟨rfl, by rw [hus]; exact Nat.le_refl _⟩)
  have hE : Evol [] w g (w.alloc (.cells us e)) (upd g w.heap.size (.tail (len * i.size))) := hS.evol (by simp) (by simp)
  obtain ⟨e1, e2⟩ := VRe_elems (ag := isAggD dd) q2 q5 h1 (VRl_weak _ _ q3)
  have hml : len ≤ maxLen := by
    have : len * 1 ≤ len * i.size := Nat.mul_le_mul_left _ hs0
    simp only [maxLen]
    omega
  have htk : toks (.nlit i.size (elemsOf i.size (isAggD dd) len cs)) (.slice (some ⟨w.heap.size, 0, none⟩) len len) = [w.heap.size] := rfl
  refine ⟨_, _, _, [], by unfold execOp; exact run_v q1, { hS with rv := ?_, rt := fun b => by rw [htk]; exact count_single _ _, rs := fun b hb => ?_ }, h.tm, fun x => by simp [ptake]⟩
  · refine ⟨w.heap.size, us.toList, by rw [e2], by omega, ⟨us, e, _, push_new w _, ?_, by rw [hul, q5, e2], .inr ⟨_, upd_same _ _ _, by rw [e2]; omega⟩⟩, VRe_mono hE _ _ _ e1, fun _ => ⟨us, e, push_new w _, by rw [e2]; exact upd_same _ _ _⟩⟩
    rw [List.drop_zero, List.take_of_length_le (by rw [hul, q5, e2]; exact Nat.le_refl _)]
  · rw [htk] at hb
    simp only [List.mem_singleton] at hb
    exact .inr (by omega)
/-- The block of a make. -/
theorem mk_run {t e : TypeId} {i : TypeInfo} {z : Value} {l c : Int} {k1 k2 : IntKind} (ht : P.underlying t = some (.slice e)) (hi : P.info? e = some i) (hz : i.zero = some z) (hzs : z.cells.size = i.size) (hs0 : 0 < i.size) (hby : 1 ≤ i.bytes)
    (h0 : 0 ≤ l) (h1 : l ≤ c) (h2 : c * i.bytes ≤ 281474976710656) (w : World) :
    ∃ us : Array Value, us.toList = (List.replicate c.toNat z.cells.toList).flatten ∧ (Instr.makeSlice t (.int k1 l) (.int k2 c)).run P w = .ok (.slice (some ⟨w.heap.size, 0, none⟩) l.toNat c.toNat) (w.alloc (.cells us e)) := by
  have hb1 : c * 1 ≤ c * (i.bytes : Int) := Int.mul_le_mul_of_nonneg_left (by omega) (by omega)
  have hc : c ≤ 281474976710656 := by omega
  have w1 : IntKind.i64.wrap l = l := by rw [IntKind.wrap_i64]; omega
  have w2 : IntKind.i64.wrap c = c := by rw [IntKind.wrap_i64]; omega
  have hn1 : ¬ (c < 0) := by omega
  have hn2 : ¬ (281474976710656 < (i.bytes : Int) * c) := by rw [Int.mul_comm]; omega
  have hn3 : ¬ (l < 0) := by omega
  have hn4 : ¬ (c < l) := by omega
  refine ⟨(Array.range (c.toNat * z.cells.size)).map (fun j => z.cells[j % z.cells.size]!), rep_cells z.cells (by omega) _, ?_⟩
  by_cases hcz : c.toNat * i.size = 0
  · have hc0 : c.toNat = 0 := by rcases Nat.mul_eq_zero.1 hcz with h | h <;> omega
    have e0 : ∀ q : Array Value, (Array.range (0 * i.size)).map (fun x => q[x % q.size]!) = #[] := fun q => by simp
    simp [Instr.makeSlice, run_underlying ht, typeInfo, hi, asInt, asIntOf, w1, w2, hn1, hn2, hn3, hn4, sizeOf, newRow, hc0]
    have er : ∀ f : Nat → Value, Array.map f (Array.range 0) = #[] := fun f => by apply Array.toList_inj.1; rw [Array.toList_map, Array.toList_range]; rfl
    rw [er, er]
  · have hcz2 : ¬ (c ≤ 0 ∨ i.size = 0) := by
      intro h
      rcases h with h | h
      · exact hcz (by rw [show c.toNat = 0 by omega]; simp)
      · omega
    have hcz3 : ¬ (c.toNat = 0 ∨ i.size = 0) := fun h => hcz (Nat.mul_eq_zero.2 h)
    simp [Instr.makeSlice, run_underlying ht, typeInfo, hi, hz, asInt, asIntOf, w1, w2, hn1, hn2, hn3, hn4, sizeOf, zeroValue, newRow, hcz2, hcz3, hzs]
    exact fun h => absurd h hcz
theorem toksL_rep {zs : List PV} {us : List Value} (hl : us.length = zs.length) (h : toksL zs us = []) (n : Nat) : toksL (repCells n zs) (List.replicate n us).flatten = [] := by
  induction n with
  | zero => simp [repCells, toksL]
  | succ n ih =>
    unfold repCells at ih ⊢
    rw [List.replicate_succ, List.replicate_succ, List.flatten_cons, List.flatten_cons, toksL_append _ _ _ _ hl, h, ih]
    rfl
theorem VRe_replicate {w : World} {g : Ghost} {sz : Nat} {x : PV} {us : List Value} (h : VRc w g sz x us) : ∀ n, VRe w g sz (List.replicate n x) (List.replicate n us).flatten
  | 0 => rfl
  | n + 1 => by
    rw [List.replicate_succ, List.replicate_succ, List.flatten_cons]
    exact VRe_cons.2 ⟨us, _, rfl, h, VRe_replicate h n⟩
theorem flatten_rep_length {α : Type} (us : List α) (n : Nat) : (List.replicate n us).flatten.length = n * us.length := by
  induction n with
  | zero => simp
  | succ n ih => rw [List.replicate_succ, List.flatten_cons, List.length_append, ih, Nat.succ_mul, Nat.add_comm]
theorem does_mk (h : Rel out st H a w g) {t e : TypeId} {dd : TypeDesc} {x y : Operand} {i : TypeInfo} {z : Value} {zero : List PV} {l c : Arg} (ht : P.underlying t = some (.slice e)) (hi : P.info? e = some i) (hz : i.zero = some z)
    (hzero : constCells z.cells.toList = some zero) (hzl : zero.length = i.size) (hs0 : 0 < i.size) (hby : 1 ≤ i.bytes) (h1 : isAggD dd = false → i.size = 1) (hl : compArg x = some l) (hc : compArg y = some c)
    (hv : pev st H (.mk i.size i.bytes (isAggD dd) zero l c false) = some r) :
    Does P ⟨d, .makeSlice t x y, ty, pos, af, gd⟩ (.mk i.size i.bytes (isAggD dd) zero l c false) st a w g r := by
  simp only [pev] at hv
  have hx := arg_spec h.tm hl
  have hy := arg_spec h.tm hc
  unfold mkP at hv
  split at hv
  · rename_i k1 ln k2 cn e1 e2
    obtain ⟨⟨c1, c2, c3⟩, hv⟩ := ite_spec hv
    cases hv
    rw [e1] at hx
    rw [e2] at hy
    simp only [VR] at hx hy
    obtain ⟨z1, z2, z3⟩ := constCells_VR w g hzero
    have hzs : z.cells.size = i.size := by rw [← hzl, ← VRl_length z1]; rfl
    obtain ⟨us, u1, u2⟩ := mk_run (P := P) (k1 := k1) (k2 := k2) ht hi hz hzs hs0 hby c1 c2 c3 w
    have husz : us.size = cn.toNat * i.size := by
      have : us.toList.length = us.size := rfl
      rw [← this, u1, flatten_rep_length]
      show cn.toNat * z.cells.size = _
      rw [hzs]
    have hfit : ln.toNat * i.size ≤ us.size := by rw [husz]; exact Nat.mul_le_mul_right _ (by omega)
    have hS : Step0 [] w g (w.alloc (.cells us e)) (upd g w.heap.size (.tail (ln.toNat * i.size))) := Step0.alloc h.wr rfl rfl rfl rfl (by simp) (fun f hf => by cases hf; exact ⟨rfl, hfit⟩)
    have hE : Evol [] w g (w.alloc (.cells us e)) (upd g w.heap.size (.tail (ln.toNat * i.size))) := hS.evol (by simp) (by simp)
    generalize hel : (if isAggD dd then PV.agg zero else zero.headD .unit) = el
    have hcm : cn.toNat ≤ maxLen := by
      have hb1 : cn * 1 ≤ cn * (i.bytes : Int) := Int.mul_le_mul_of_nonneg_left (by omega) (by omega)
      simp only [maxLen]
      omega
    have hVc : VRc w g i.size el z.cells.toList := by
      refine ⟨hzs, ?_⟩
      cases hd : isAggD dd with
      | true => rw [hd] at hel; left; exact ⟨zero, hel.symm, z2, VRl_weak _ _ z1⟩
      | false =>
        rw [hd] at hel
        right
        have hone := h1 hd
        cases zero with
        | nil => simp at hzl; omega
        | cons q zs =>
          have : zs = [] := List.eq_nil_of_length_eq_zero (by simp at hzl; omega)
          subst this
          obtain ⟨v, vs, e3, e4, e5⟩ := z1
          cases e5
          simp only [Bool.false_eq_true, if_false, List.headD_cons] at hel
          subst hel
          exact ⟨by simpa using z2, v, e3, VR_weak _ _ e4⟩
    have htl : (us.toList.drop 0).take (ln.toNat * i.size) = (List.replicate ln.toNat z.cells.toList).flatten := by
      rw [List.drop_zero, u1, show cn.toNat = ln.toNat + (cn.toNat - ln.toNat) by omega, ← List.replicate_append_replicate, List.flatten_append]
      exact List.take_left' (by rw [flatten_rep_length]; show ln.toNat * z.cells.size = _; rw [hzs])
    have htk : ∀ b, (toks (.lst i.size (List.replicate ln.toNat el) true) (.slice (some ⟨w.heap.size, 0, none⟩) ln.toNat cn.toNat)).count b ≤ 1 := fun b => by rw [toks_lst (by simp)]; exact count_one _ _ _
    refine ⟨_, _, _, [], by unfold execOp; exact run_v (by rw [hx, hy]; exact u2), { hS with rv := ?_, rt := htk, rs := fun b hb => ?_ }, h.tm, fun x => by simp [ptake]⟩
    · refine ⟨_, cn.toNat, by rw [List.length_replicate], by rw [List.length_replicate]; omega, hcm, ?_, fun _ _ _ => ⟨hs0, w.heap.size, us, e, rfl, push_new w _, by rw [List.length_replicate]; exact upd_same _ _ _, by omega⟩⟩
      by_cases hl0 : ln.toNat = 0
      · left; rw [hl0]; rfl
      · right
        exact ⟨w.heap.size, 0, _, rfl, ⟨us, e, _, push_new w _, by rw [List.length_replicate]; exact htl, by rw [flatten_rep_length, List.length_replicate]; show ln.toNat * z.cells.size = _; rw [hzs], .inr ⟨_, upd_same _ _ _, by rw [List.length_replicate]; omega⟩⟩, VRe_mono hE _ _ _ (VRe_replicate hVc _)⟩
    · rw [toks_lst (by simp)] at hb
      split at hb
      · simp only [List.mem_singleton] at hb
        exact .inr (by omega)
      · cases hb
  · cases hv
theorem does_bxI (h : Rel out st H a w g) {e : TypeId} {sz : Nat} {x : Operand} {p : Arg} (hp : compArg x = some p) (hv : pev st H (.bxI sz p) = some r) : Does P ⟨d, .box e x, ty, pos, af, gd⟩ (.bxI sz p) st a w g r := by
  simp only [pev, bxP] at hv
  obtain ⟨⟨hall, hl, hs⟩, hv⟩ := ite_spec hv
  cases hv
  have hx := VR_weak _ _ (arg_spec h.tm hp)
  obtain ⟨y1, y2⟩ := VR_cells hall hx
  have hul := VRl_length y1
  have hS : Step0 [] w g (w.alloc (.cells (a.eval x).cells e)) (upd g w.heap.size .imm) := Step0.alloc h.wr rfl rfl rfl rfl (by simp) (fun f hf => by cases hf)
  have hE : Evol [] w g (w.alloc (.cells (a.eval x).cells e)) (upd g w.heap.size .imm) := hS.evol (by simp) (by simp)
  have htk : toks (.ip sz [arg st p] 0 0) (.pointer (some ⟨w.heap.size, 0, none⟩)) = [] := by simp [toks]
  refine ⟨.pointer (some ⟨w.heap.size, 0, none⟩), _, _, [], by unfold execOp; exact run_v rfl, { hS with rv := ?_, rt := by simp [htk], rs := by simp [htk] }, h.tm, fun x => by simp [ptake]⟩
  have hc : VRc w g sz (arg st p) (a.eval x).cells.toList := by
    refine ⟨by rw [hul, hl], ?_⟩
    cases ha : arg st p with
    | agg cs => rw [ha] at y1 hall; exact .inl ⟨cs, rfl, hall, y1⟩
    | _ =>
      right
      rw [ha] at y1 hall hx
      obtain ⟨v, vs, e1, e2, e3⟩ := y1
      cases e3
      refine ⟨by simpa [cellsOf] using hall, v, e1, e2⟩
  refine ⟨w.heap.size, 0, (a.eval x).cells.toList, by simp, by simp, ⟨(a.eval x).cells, e, _, push_new w _, ?_, by rw [hul, hl]; simp, .inl (upd_same _ _ _)⟩, VRe_mono hE _ _ _ (VRe_cons.2 ⟨_, [], by simp, hc, rfl⟩)⟩
  rw [List.drop_zero, List.take_of_length_le (by rw [hul, hl]; simp)]
/-- Each pure operation does what its data says. -/
theorem does_op0 {o : Oper} (hk : compOp0 P hint o = some k) (h : Rel out st H a w g) (hv : pev st H k = some r) : Does P o k st a w g r := by
  obtain ⟨d, op, ty, pos, af, gd⟩ := o
  cases op <;> simp only [compOp0] at hk
  case move x => obtain ⟨p, hp, rfl⟩ := map_spec hk; exact does_mv h hp (fun ρ => rfl) hv
  case assign x => obtain ⟨p, hp, rfl⟩ := map_spec hk; exact does_mv h hp (fun ρ => rfl) hv
  case pick c x y =>
    obtain ⟨c', hc, hk⟩ := bind_spec hk
    obtain ⟨x', hx, hk⟩ := bind_spec hk
    obtain ⟨y', hy, rfl⟩ := map_spec hk
    exact does_pick h hc hx hy hv
  case alloc elem =>
    obtain ⟨i, hi, hk⟩ := bind_spec hk
    obtain ⟨z, hz, hk⟩ := bind_spec hk
    obtain ⟨cs, hc, rfl⟩ := map_spec hk
    cases hv
  case box elem x =>
    obtain ⟨i, hi, hk⟩ := bind_spec hk
    obtain ⟨p, hp, rfl⟩ := map_spec hk
    cases hr : isRo hint d with
    | false => rw [hr] at hv; cases hv
    | true => rw [hr] at hv; exact does_bxI h hp hv
  case build t parts =>
    split at hk
    · rename_i fields ht
      obtain ⟨i, hi, hk⟩ := bind_spec hk
      obtain ⟨z, hz, hk⟩ := bind_spec hk
      obtain ⟨zero, hzero, hk⟩ := bind_spec hk
      obtain ⟨hall, hk⟩ := ite_spec hk
      obtain ⟨ps, hps, rfl⟩ := map_spec hk
      exact does_build h ht hi hz hzero hall hps hv
    · cases hk
  case buildSlice t len parts =>
    split at hk
    · rename_i e ht
      obtain ⟨i, hi, hk⟩ := bind_spec hk
      obtain ⟨dd, hd, hk⟩ := bind_spec hk
      obtain ⟨z, hz, hk⟩ := bind_spec hk
      obtain ⟨zero, hzero, hk⟩ := bind_spec hk
      obtain ⟨⟨q1, q2, q3, q4⟩, hk⟩ := ite_spec hk
      obtain ⟨ps, hps, rfl⟩ := map_spec hk
      cases hl : isLit hint d with
      | true => rw [hl] at hv; exact does_nl h ht hi hz hzero q1 q2 q3 q4 hps hv
      | false =>
        rw [hl] at hv
        cases hr : isRow hint d with
        | true => rw [hr] at hv; cases hv
        | false => rw [hr] at hv; exact does_bsl h ht hi hz hzero q1 q2 q3 q4 hps hv
    · cases hk
  case load t x =>
    obtain ⟨i, hi, hk⟩ := bind_spec hk
    obtain ⟨dd, hd, hk⟩ := bind_spec hk
    obtain ⟨h1, hk⟩ := ite_spec hk
    obtain ⟨p, hp, rfl⟩ := map_spec hk
    cases hr : isTake hint d with
    | true => rw [hr] at hv; cases hv
    | false =>
      rw [hr] at hv
      obtain ⟨z, h2, h3⟩ := ldP_run (P := P) hd hi h1 h.hp hv (arg_spec h.tm hp)
      exact Does.same h rfl ⟨z, by unfold execOp; exact run_v h2, h3⟩
  case store t x y =>
    obtain ⟨i, hi, hk⟩ := bind_spec hk
    obtain ⟨p, hp, hk⟩ := bind_spec hk
    obtain ⟨q, hq, rfl⟩ := map_spec hk
    cases hv
  case nilCheck x => obtain ⟨p, hp, rfl⟩ := map_spec hk; exact does_nck h hp hv
  case binOp op t x y yt => exact does_bin h hk hv
  case unOp op t x => obtain ⟨p, hp, rfl⟩ := map_spec hk; exact does_un h hp hv
  case convert src dst x => exact does_conv h hk hv
  case makeFunc fn first cap =>
    obtain ⟨f, hf, hk⟩ := bind_spec hk
    obtain ⟨c, hc, rfl⟩ := map_spec hk
    exact does_mkf h hf hc hv
  case makeSlice t x y =>
    split at hk
    · rename_i e ht
      obtain ⟨i, hi, hk⟩ := bind_spec hk
      obtain ⟨dd, hd, hk⟩ := bind_spec hk
      obtain ⟨z, hz, hk⟩ := bind_spec hk
      obtain ⟨zero, hzero, hk⟩ := bind_spec hk
      obtain ⟨⟨q1, q2, q3, q4⟩, hk⟩ := ite_spec hk
      obtain ⟨l, hl, hk⟩ := bind_spec hk
      obtain ⟨c, hc, rfl⟩ := map_spec hk
      cases hr : isRow hint d with
      | true => rw [hr] at hv; cases hv
      | false => rw [hr] at hv; exact does_mk h ht hi hz hzero q1 q2 q3 q4 hl hc hv
    · cases hk
  case slice t x lo hi mx => exact does_slice h hk hv
  case fieldAddr s x f =>
    split at hk
    · rename_i fields hs
      obtain ⟨f, hf, hk⟩ := bind_spec hk
      obtain ⟨i, hi, hk⟩ := bind_spec hk
      obtain ⟨h0, hk⟩ := ite_spec hk
      obtain ⟨p, hp, rfl⟩ := map_spec hk
      obtain ⟨z, h2, h3⟩ := fadP_run (P := P) hs hf hi h0 hv (arg_spec h.tm hp)
      exact Does.same h rfl ⟨z, by unfold execOp; exact run_v h2, h3⟩
    · cases hk
  case field s x f =>
    split at hk
    · rename_i fields hs
      obtain ⟨f, hf, hk⟩ := bind_spec hk
      obtain ⟨i, hi, hk⟩ := bind_spec hk
      obtain ⟨dd, hd, hk⟩ := bind_spec hk
      obtain ⟨h0, hk⟩ := ite_spec hk
      obtain ⟨p, hp, rfl⟩ := map_spec hk
      obtain ⟨z, h2, h3⟩ := fldP_run (P := P) hs hf hi hd h0 hv (arg_spec h.tm hp)
      exact Does.same h rfl ⟨z, by unfold execOp; exact run_v h2, h3⟩
    · cases hk
  case indexAddr t x ix =>
    split at hk
    · rename_i e ht
      obtain ⟨i, hi, hk⟩ := bind_spec hk
      obtain ⟨p, hp, hk⟩ := bind_spec hk
      obtain ⟨q, hq, rfl⟩ := map_spec hk
      obtain ⟨z, h2, h3⟩ := iadP_run (P := P) ht hi hv (arg_spec h.tm hp) (arg_spec h.tm hq)
      exact Does.same h rfl ⟨z, by unfold execOp; exact run_v h2, h3⟩
    · cases hk
  case index t x ix =>
    split at hk
    · rename_i ht
      obtain ⟨p, hp, hk⟩ := bind_spec hk
      obtain ⟨q, hq, rfl⟩ := map_spec hk
      obtain ⟨z, h2, h3⟩ := idxP_run (P := P) ht hv (arg_spec h.tm hp) (arg_spec h.tm hq)
      exact Does.same h rfl ⟨z, by unfold execOp; exact run_v h2, h3⟩
    · cases hk
  case extract x i => obtain ⟨p, hp, rfl⟩ := map_spec hk; exact does_ext h hp hv
  case call c =>
    obtain ⟨callee, args, ts⟩ := c
    simp only at hk
    split at hk
    · split at hk
      · rename_i hr
        unfold compRow at hr
        split at hr
        · split at hr
          · split at hr
            · obtain ⟨_, _, hr⟩ := bind_spec hr
              obtain ⟨_, _, hr⟩ := bind_spec hr
              obtain ⟨_, _, hr⟩ := bind_spec hr
              obtain ⟨_, hr⟩ := ite_spec hr
              obtain ⟨_, _, hr⟩ := bind_spec hr
              obtain ⟨_, _, rfl⟩ := map_spec hr
              cases hk
              cases hv
            · cases hr
          · cases hr
        · split at hr
          · obtain ⟨_, _, hr⟩ := bind_spec hr
            obtain ⟨_, hr⟩ := ite_spec hr
            obtain ⟨_, _, hr⟩ := bind_spec hr
            obtain ⟨_, _, rfl⟩ := map_spec hr
            cases hk
            cases hv
          · cases hr
        · split at hr
          · obtain ⟨_, _, hr⟩ := bind_spec hr
            obtain ⟨_, _, hr⟩ := bind_spec hr
            obtain ⟨_, _, hr⟩ := bind_spec hr
            obtain ⟨_, hr⟩ := ite_spec hr
            obtain ⟨_, _, rfl⟩ := map_spec hr
            cases hk
            cases hv
          · cases hr
        · split at hr
          · obtain ⟨_, _, rfl⟩ := map_spec hr
            cases hk
            cases hv
          · cases hr
        · cases hr
      · exact does_builtin h hk hv
    · obtain ⟨as, _, rfl⟩ := map_spec hk; cases hv
    · obtain ⟨f, _, hk⟩ := bind_spec hk
      obtain ⟨as, _, rfl⟩ := map_spec hk
      cases hv
    · cases hk
  all_goals cases hk
theorem compOp_of {o : Oper} (hk : compOp0 P hint o = some k) : compOp P hint o = some k := by simp [compOp, hk]
theorem compOp_or {o : Oper} (hk : compOp P hint o = some k) : compOp0 P hint o = some k ∨ k = .bad := by
  unfold compOp at hk
  cases h : compOp0 P hint o with
  | none => right; simpa [h] using hk.symm
  | some k0 => left; simpa [h] using hk
theorem does_op {o : Oper} (hk : compOp P hint o = some k) (h : Rel out st H a w g) (hv : pev st H k = some r) : Does P o k st a w g r := by
  rcases compOp_or hk with hk | rfl
  · exact does_op0 hk h hv
  · cases hv
end
end Go.Proofs.Ytkjibelcaeanjaa.E
