/- A logic of plain values, part 17: operations that write, and calls. -/
import Derived.Test.YtkjibelcaeanjaaE16
namespace Go.Proofs.Ytkjibelcaeanjaa.E
open Go Go.RowKit
set_option linter.unusedVariables false
set_option linter.unusedSimpArgs false
/-- A function that is entered. -/
def callable (P : Program) (f : Nat) : Bool :=
  match P.funcs[f]? with
  | some fn => !(fn.name == "runtime.NumGoroutine") && fn.body.isSome
  | none => false
/-- What a call with these arguments, over these blocks, comes to. -/
def SpecH (P : Program) (f : Nat) (H : Heap) (args : List PV) (Q : PV → Heap → Prop) : Prop :=
  callable P f = true ∧ ∀ (out : List Nat) (w : World) (g : Ghost) (vals : Array Value), WRel out w g → HRel w g H → VRl true w g args vals.toList →
    (∀ b, (toksL args vals.toList).count b + (toksH w H).count b + out.count b ≤ 1) →
    Calls P f vals w fun e w' => ∃ v r H' g', e = .returned v ∧ Q r H' ∧ WRel out w' g' ∧ HRel w' g' H' ∧ VR true w' g' r v ∧
      (∀ b, (toks r v).count b + (toksH w' H').count b + out.count b ≤ 1) ∧ Evol out w g w' g'
/-- .. that leaves the blocks as they are. -/
def PSpec (P : Program) (f : Nat) (args : List PV) (r : PV) : Prop := ∀ H, SpecH P f H args fun r' H' => r' = r ∧ H' = H
structure POp where
  dst : Option Nat
  gd : Option (Nat × Bool)
  k : PK
  deriving Inhabited
def callArgs (st : List PV) : List Arg → List Bool → List PV
  | [], _ => []
  | x :: xs, true :: tk => argT st x :: callArgs (takeAt st x) xs tk
  | x :: xs, false :: tk => arg st x :: callArgs st xs tk
  | x :: xs, [] => arg st x :: callArgs st xs []
def callTake (st : List PV) : List Arg → List Bool → List PV
  | [], _ => st
  | x :: xs, true :: tk => callTake (takeAt st x) xs tk
  | x :: xs, false :: tk => callTake st xs tk
  | x :: xs, [] => callTake st xs []
/-- What is laid behind a row, or over one: cells, and of how many elements. -/
def cellsY (sz : Nat) (H : Heap) : PV → Option (List PV × Nat)
  | .lst s ys _ => if s = sz ∨ ys.isEmpty = true then some (lendL (ys.flatMap cellsOf), ys.length) else none
  | .row b off len cap => (hget H b).bind fun cs => if off + len * sz ≤ cs.length then some (lendL ((cs.drop off).take (len * sz)), len) else none
  | .str t => if sz = 1 then some (t.map (.int .u8), t.length) else none
  | _ => none
/-- One operation. -/
def stepOp (P : Program) (op : POp) (K : List PV → Heap → Prop) (st : List PV) (H : Heap) : Prop :=
  match op.k with
  | .al cs => ∀ b, hget H b = none → K (putSt st op.dst (.ptr (some (b, 0)))) ((b, cs) :: H)
  | .bx sz x => (cellsOf (argT st x)).all PV.isCell = true ∧ ∀ b, hget H b = none → K (putSt (takeAt st x) op.dst (.ptr (some (b, 0)))) ((b, cellsOf (argT st x)) :: H)
  | .sto sz x v => ∃ b off cs, arg st x = .ptr (some (b, off)) ∧ hget H b = some cs ∧ (cellsOf (argT st v)).length = sz ∧ off + sz ≤ cs.length ∧ (cellsOf (argT st v)).all PV.isCell = true ∧
      K (putSt (takeAt st v) op.dst .unit) (hset H b (cs.take off ++ cellsOf (argT st v) ++ cs.drop (off + sz)))
  | .ld sz ag true x => ∃ b off cs r, arg st x = .ptr (some (b, off)) ∧ hget H b = some cs ∧ partP sz ag cs off = some r ∧
      K (putSt st op.dst r) (hset H b (cs.take off ++ lendL ((cs.drop off).take sz) ++ cs.drop (off + sz)))
  | .mk sz bytes ag zero l c true => ∃ k1 ln k2 cn, arg st l = .int k1 ln ∧ arg st c = .int k2 cn ∧ 0 ≤ ln ∧ ln ≤ cn ∧ cn * bytes ≤ 281474976710656 ∧
      ∀ b, hget H b = none → K (putSt st op.dst (.row b 0 ln.toNat cn.toNat)) ((b, repCells cn.toNat zero) :: H)
  | .bsl sz len ag zero ps true => ∃ cs, fillP zero (elemParts sz st ps) = some cs ∧ ∀ b, hget H b = none → K (putSt st op.dst (.row b 0 len len)) ((b, cs) :: H)
  | .eqN ne x => ∃ s xs o, arg st x = .lst s xs o ∧ (xs ≠ [] → K (putSt st op.dst (.bool ne)) H) ∧ (xs = [] → ∀ b, K (putSt st op.dst (.bool b)) H)
  | .callF f args tk => ∃ Q, SpecH P f H (callArgs st args tk) Q ∧ ∀ r H', Q r H' → K (putSt (callTake st args tk) op.dst r) H'
  | .callV fx args => ∃ f first cap Q, arg st fx = .fn (.func f) first cap ∧ SpecH P f H (lendL first ++ args.map (arg st) ++ lendL cap) Q ∧ ∀ r H', Q r H' → K (putSt st op.dst r) H'
  | .appR sz bytes zero x y => ∃ b n cap cs ys m, arg st x = .row b 0 n cap ∧ hget H b = some cs ∧ cap * sz ≤ cs.length ∧ n ≤ cap ∧ cap ≤ maxLen ∧ cellsY sz H (arg st y) = some (ys, m) ∧ (n + m) * bytes ≤ 140737488355328 ∧
      (n + m ≤ cap → K (putSt st op.dst (.row b 0 (n + m) cap)) (hset H b (cs.take (n * sz) ++ ys ++ cs.drop ((n + m) * sz)))) ∧
      (cap < n + m → ∀ b' cap', hget H b' = none → n + m ≤ cap' → cap' ≤ maxLen → K (putSt st op.dst (.row b' 0 (n + m) cap')) ((b', lendL (cs.take (n * sz)) ++ ys ++ repCells (cap' - (n + m)) zero) :: H))
  | .cpy sz x y => ∃ b off n cap cs ys m, arg st x = .row b off n cap ∧ hget H b = some cs ∧ off + n * sz ≤ cs.length ∧ cellsY sz H (arg st y) = some (ys, m) ∧
      K (putSt st op.dst (.int .i64 (min m n : Nat))) (hset H b (cs.take off ++ ys.take (min m n * sz) ++ cs.drop (off + min m n * sz)))
  | .clr sz zero x => ∃ b off n cap cs, arg st x = .row b off n cap ∧ hget H b = some cs ∧ off + n * sz ≤ cs.length ∧
      K (putSt st op.dst .unit) (hset H b (cs.take off ++ repCells n zero ++ cs.drop (off + n * sz)))
  | .cap x => (∃ b off n c, arg st x = .row b off n c ∧ K (putSt st op.dst (.int .i64 c)) H) ∨ (∃ s xs o, arg st x = .lst s xs o ∧ ∀ c : Nat, xs.length ≤ c → c ≤ maxLen → K (putSt st op.dst (.int .i64 c)) H)
  | k => ∃ r, pev st H k = some r ∧ K (putSt (ptake st k) op.dst r) H
section
variable {P : Program} {hint : Hint} {k : PK} {out : List Nat} {st : List PV} {H : Heap} {a : Act} {w : World} {g : Ghost} {r : PV} {d : Option Tmp} {ty : TypeId} {pos : String} {af : Array Edge} {gd : Option (Nat × Bool)}
/-- The state behind the i-th operation, and how the world has turned. -/
def After (out : List Nat) (w : World) (g : Ghost) (K : List PV → Heap → Prop) (a' : Act) (w' : World) : Prop :=
  ∃ st' H' g', K st' H' ∧ Rel out st' H' a' w' g' ∧ Evol out w g w' g'
theorem run_callFunc {f : Nat} (hc : callable P f = true) (args : Array Value) (w : World) : (callFunc f args).run P w = .ok (.enter f args) w := by
  unfold callable at hc
  split at hc
  · rename_i fn hf
    simp only [Bool.and_eq_true, Bool.not_eq_true'] at hc
    have h2 : fn.body.isNone = false := by cases hb : fn.body <;> simp_all
    simp only [callFunc, Sem.run_bind, run_program, Result.andThen_ok, hf, hc.1, h2, Bool.false_eq_true, if_false, Sem.run_pure]
  · cases hc
/-- A call whose contract is known. -/
theorem step_call {o : Oper} {f : Nat} {args : List PV} {vals : Array Value} {st1 : List PV} {Q : PV → Heap → Prop} {K : List PV → Heap → Prop} {QQ : Exit → Act → World → Prop} (h : Rel out st H a w g) (hS : SpecH P f H args Q)
    (hrun : (execOp a.eval o).run P w = .ok (.enter f vals) w) (ha : VRl true w g args vals.toList) (h1 : VRl true w g st1 a.tmps.toList)
    (hc : ∀ b, (toksL st1 a.tmps.toList).count b + (toksL args vals.toList).count b ≤ (toksL st a.tmps.toList).count b)
    (hK : ∀ r H', Q r H' → K (putSt st1 o.dst r) H') : o.wp P a w (After out w g K) QQ := by
  unfold Oper.wp
  rw [hrun, Oper.upon_enter]
  have hcall := hS.2 (out ++ toksL st1 a.tmps.toList) w g vals ⟨h.wr.fresh, h.wr.tl, fun b hb => by
    simp only [List.mem_append] at hb
    rcases hb with hb | hb
    · exact h.wr.outT b hb
    · exact toksL_tail st1 _ h1 b hb⟩ h.hp ha (fun b => by rw [List.count_append]; have := h.un b; have := hc b; omega)
  refine hcall.mono ?_
  rintro e w' ⟨v, r, H', g', rfl, hQ, hw', hH', hr, hu, hE⟩
  refine ⟨putSt st1 o.dst r, H', g', hK r H' hQ, ⟨⟨hw'.fresh, hw'.tl, fun b hb => hw'.outT b (by simp [hb])⟩, hH', VRl_put (VRl_mono hE true st1 _ (fun _ b hb => by simp [hb]) h1) hr, fun b => ?_, ?_⟩, hE.sub (fun b hb => by simp [hb])⟩
  · have h2 := count_put_le b (d := o.dst) (x := r) (v := v) h1
    have h3 := hu b
    rw [List.count_append] at h3
    omega
  · have : (a.put o.dst v).defers = a.defers := by cases o.dst <;> rfl
    rw [this]
    exact h.df
theorem callArgs_spec : ∀ {xs : List Operand} {ps : List Arg} {st : List PV} (tk : List Bool), compArgs xs = some ps → VRl true w g st a.tmps.toList →
    VRl true w g (callArgs st ps tk) (xs.map a.eval) ∧ VRl true w g (callTake st ps tk) a.tmps.toList ∧
      ∀ b, (toksL (callTake st ps tk) a.tmps.toList).count b + (toksL (callArgs st ps tk) (xs.map a.eval)).count b ≤ (toksL st a.tmps.toList).count b
  | [], ps, st, tk, hp, h => by
    cases hp
    exact ⟨rfl, by simpa [callTake] using h, fun b => by simp [callArgs, callTake, toksL]⟩
  | x :: xs, ps, st, tk, hp, h => by
    obtain ⟨p, h1, hp⟩ := Option.bind_eq_some_iff.mp hp
    obtain ⟨qs, h2, rfl⟩ := Option.map_eq_some_iff.mp hp
    have hb := arg_spec h h1
    match tk with
    | [] =>
      obtain ⟨i1, i2, i3⟩ := callArgs_spec [] h2 h
      exact ⟨⟨_, _, rfl, hb, i1⟩, i2, fun b => by simp only [callArgs, callTake, List.map_cons, toksL, arg_toks, List.nil_append]; exact i3 b⟩
    | false :: tk =>
      obtain ⟨i1, i2, i3⟩ := callArgs_spec tk h2 h
      exact ⟨⟨_, _, rfl, hb, i1⟩, i2, fun b => by simp only [callArgs, callTake, List.map_cons, toksL, arg_toks, List.nil_append]; exact i3 b⟩
    | true :: tk =>
      obtain ⟨t1, t2⟩ := take_spec h h1
      obtain ⟨i1, i2, i3⟩ := callArgs_spec tk h2 t1
      refine ⟨⟨_, _, rfl, argT_spec h h1, i1⟩, i2, fun b => ?_⟩
      simp only [callArgs, callTake, List.map_cons, toksL, List.count_append]
      have := i3 b
      have := t2 b
      omega
theorem step_value {o : Oper} {v : Value} {w' : World} {K : List PV → Heap → Prop} {QQ : Exit → Act → World → Prop} (hrun : (execOp a.eval o).run P w = .ok (.value v) w') (h : After out w g K (a.put o.dst v) w') : o.wp P a w (After out w g K) QQ := by
  unfold Oper.wp
  rw [hrun, Oper.upon_value]
  exact h
theorem step_skip {o : Oper} {w' : World} {K : List PV → Heap → Prop} {QQ : Exit → Act → World → Prop} (hrun : (execOp a.eval o).run P w = .ok .skip w') (h : After out w g K (a.put o.dst undef) w') : o.wp P a w (After out w g K) QQ := by
  unfold Oper.wp
  rw [hrun, Oper.upon_skip]
  exact h
theorem step_pure {o : Oper} {K : List PV → Heap → Prop} {QQ : Exit → Act → World → Prop} (hk : compOp P hint o = some k) (h : Rel out st H a w g) (hv : pev st H k = some r) (hK : K (putSt (ptake st k) o.dst r) H) : o.wp P a w (After out w g K) QQ := by
  obtain ⟨v, w', g', tk, h1, h2, h3, h4⟩ := does_op hk h hv
  obtain ⟨k1, k2⟩ := step_rel (d := o.dst) h h3 h4 h2
  exact step_value h1 ⟨_, H, g', hK, k1, k2⟩
/-- A new block. -/
theorem step_new {o : Oper} {K : List PV → Heap → Prop} {QQ : Exit → Act → World → Prop} {st1 cs : List PV} {us : Array Value} {e : TypeId} {v : Value} (h : Rel out st H a w g) (h1 : VRl true w g st1 a.tmps.toList) (hcs : VRl true w g cs us.toList) (hall : cs.all PV.isCell = true)
    (hc : ∀ b, (toksL st1 a.tmps.toList).count b + (toksL cs us.toList).count b ≤ (toksL st a.tmps.toList).count b) (hrun : (execOp a.eval o).run P w = .ok (.value v) (w.alloc (.cells us e)))
    {mk : Nat → PV} (hr : ∀ w' g', VR true w' g' (mk w.heap.size) v) (hrt : toks (mk w.heap.size) v = [])
    (hK : ∀ b, hget H b = none → K (putSt st1 o.dst (mk b)) ((b, cs) :: H)) : o.wp P a w (After out w g K) QQ := by
  obtain ⟨k1, k2⟩ := alloc_rel (d := o.dst) h h1 hcs hall hc (w1 := w.alloc (.cells us e)) rfl rfl rfl rfl hr hrt
  refine step_value hrun ⟨_, _, _, hK _ ?_, k1, k2⟩
  cases hh : hget H w.heap.size with
  | none => rfl
  | some q => exact absurd (HRel.lt h.wr h.hp hh) (Nat.lt_irrefl _)
theorem ptr_eval (h : VRl true w g st a.tmps.toList) {x : Operand} {p : Arg} (hp : compArg x = some p) {b off : Nat} (e : arg st p = .ptr (some (b, off))) : a.eval x = .pointer (some ⟨b, off, none⟩) := by
  have := arg_spec h hp
  rw [e] at this
  exact this
theorem step_store {t : TypeId} {x y : Operand} {p q : Arg} {i : TypeInfo} {K : List PV → Heap → Prop} {QQ : Exit → Act → World → Prop} (h : Rel out st H a w g) (hi : P.info? t = some i) (hp : compArg x = some p) (hq : compArg y = some q)
    (hs : stepOp P ⟨d, none, .sto i.size p q⟩ K st H) : (Oper.mk d (.store t x y) ty pos af gd).wp P a w (After out w g K) QQ := by
  obtain ⟨b, off, cs, e1, e2, e3, e4, e5, hK⟩ := hs
  have hx := ptr_eval h.tm hp e1
  obtain ⟨hm, hall, c, e, hc, hcv⟩ := h.hp.mut_of_get e2
  have hy := argT_spec h.tm hq
  obtain ⟨y1, y2⟩ := VR_cells e5 hy
  obtain ⟨t1, t2⟩ := take_spec h.tm hq
  have hcl := VRl_length hcv
  have hyl := VRl_length y1
  have hcs : c.toList.length = c.size := rfl
  have hys : (a.eval y).cells.toList.length = (a.eval y).cells.size := rfl
  have hone : ∀ u ∈ (a.eval y).cells.toList, u.oneCell' = true := VRl_oneCell e5 y1
  have hst := run_storeCells_at P b off e (a.eval y).cells.toList 0 c w hc (by omega) hone
  rw [Nat.add_zero] at hst
  generalize hcc : (c.toList.take off ++ (a.eval y).cells.toList ++ c.toList.drop (off + (a.eval y).cells.toList.length)).toArray = cc at hst
  have hccl : cc.toList = c.toList.take off ++ (a.eval y).cells.toList ++ c.toList.drop (off + i.size) := by rw [← hcc, hyl, e3]
  have hds : VRl true w g (cs.take off ++ cellsOf (argT st q) ++ cs.drop (off + i.size)) cc.toList := by
    rw [hccl]
    exact VRl_append (VRl_append (VRl_take off hcv).1 y1) (VRl_take (off + i.size) hcv).2
  have hrun : (execOp a.eval (Oper.mk d (.store t x y) ty pos af gd)).run P w = .ok .skip (w.setRow b cc) := by
    have hsz : ¬ ((a.eval y).cells.size ≠ i.size) := by omega
    simp only [execOp, hx, Instr.storeAt, Instr.sureAddr, storeVar, Sem.run_bind, Sem.run_pure, Result.andThen_ok, run_sizeOf hi, Sem.run_ite, if_neg hsz, hst]
  have hpart : ∀ z, (toksL (cs.take off ++ cellsOf (argT st q) ++ cs.drop (off + i.size)) cc.toList).count z ≤ (toksL cs c.toList).count z + (toks (argT st q) (a.eval y)).count z := by
    intro z
    rw [hccl, toksL_append _ _ _ _ (by simp only [List.length_append, List.length_take]; omega), toksL_append _ _ _ _ (by simp only [List.length_take]; omega), y2]
    have s1 : (toksL cs c.toList).count z = (toksL (cs.take off) (c.toList.take off)).count z + (toksL (cs.drop off) (c.toList.drop off)).count z := by
      rw [← List.count_append, ← toksL_append _ _ _ _ (by simp only [List.length_take]; omega), List.take_append_drop, List.take_append_drop]
    have s2 : (toksL (cs.drop off) (c.toList.drop off)).count z = (toksL ((cs.drop off).take i.size) ((c.toList.drop off).take i.size)).count z + (toksL (cs.drop (off + i.size)) (c.toList.drop (off + i.size))).count z := by
      rw [← List.drop_drop, ← List.drop_drop, ← List.count_append, ← toksL_append _ _ _ _ (by simp only [List.length_take, List.length_drop]; omega), List.take_append_drop, List.take_append_drop]
    simp only [List.count_append]
    omega
  obtain ⟨k1, k2⟩ := store_rel (d := d) (v := undef) h t1 e2 hc hcv hds (by
      rw [List.all_append, List.all_append, e5]
      have := all_drop_take hall 0 off
      rw [List.drop_zero] at this
      rw [this]
      have := all_drop_take hall (off + i.size) cs.length
      rw [List.take_of_length_le (by rw [List.length_drop]; omega)] at this
      rw [this]
      rfl) (fun z => by have := hpart z; have := t2 z; omega) rfl
  exact step_skip hrun ⟨_, _, _, hK, k1, k2⟩
theorem HRel_retag {out : List Nat} {w : World} {g : Ghost} {b : Nat} {ds : List PV} (hw : WRel out w g) (hall : ds.all PV.isCell = true) (hb : ∃ c e, w.heap[b]? = some (.cells c e (0, 0)) ∧ VRl true w g ds c.toList) {H : Heap} {cs : List PV} (hH : HRel w g H) (hg : hget H b = some cs) :
    HRel w g (hset H b ds) :=
  HRel_hset (out := toksH w H) ⟨rfl, rfl, rfl, Nat.le_refl _, fun _ _ h => ⟨rfl, h⟩, fun b f c e fz h hc => ⟨c, fz, hc, rfl, .inr ⟨f, Nat.le_refl _, h⟩⟩, fun _ _ => ⟨rfl, rfl⟩⟩ (fun _ _ => rfl) hall hb hH hg (fun _ h => h)
theorem toksL_three (z : Nat) {cs : List PV} {us : List Value} {off sz : Nat} (hl : us.length = cs.length) (hle : off + sz ≤ cs.length) :
    (toksL cs us).count z = (toksL (cs.take off) (us.take off)).count z + (toksL ((cs.drop off).take sz) ((us.drop off).take sz)).count z + (toksL (cs.drop (off + sz)) (us.drop (off + sz))).count z := by
  have s1 : (toksL cs us).count z = (toksL (cs.take off) (us.take off)).count z + (toksL (cs.drop off) (us.drop off)).count z := by
    rw [← List.count_append, ← toksL_append _ _ _ _ (by simp only [List.length_take]; omega), List.take_append_drop, List.take_append_drop]
  have s2 : (toksL (cs.drop off) (us.drop off)).count z = (toksL ((cs.drop off).take sz) ((us.drop off).take sz)).count z + (toksL (cs.drop (off + sz)) (us.drop (off + sz))).count z := by
    rw [← List.drop_drop, ← List.drop_drop, ← List.count_append, ← toksL_append _ _ _ _ (by simp only [List.length_take, List.length_drop]; omega), List.take_append_drop, List.take_append_drop]
  omega
theorem step_loadT {t : TypeId} {x : Operand} {p : Arg} {i : TypeInfo} {dd : TypeDesc} {K : List PV → Heap → Prop} {QQ : Exit → Act → World → Prop} (h : Rel out st H a w g) (hi : P.info? t = some i) (hd : P.underlying t = some dd) (h1 : isAggD dd = false → i.size = 1) (hp : compArg x = some p)
    (hs : stepOp P ⟨d, none, .ld i.size (isAggD dd) true p⟩ K st H) : (Oper.mk d (.load t x) ty pos af gd).wp P a w (After out w g K) QQ := by
  obtain ⟨b, off, cs, r, e1, e2, e3, hK⟩ := hs
  have hx := ptr_eval h.tm hp e1
  obtain ⟨hm, hall, c, e, hc, hcv⟩ := h.hp.mut_of_get e2
  have hcl := VRl_length hcv
  obtain ⟨p1, p2, p3, p4⟩ := partP_spec e3 hall (VRl_weak _ _ hcv) h1
  have hmid : VRl true w g ((cs.drop off).take i.size) ((c.toList.drop off).take i.size) := (VRl_take i.size (VRl_take off hcv).2).1
  have hcell : ∀ j v, ((c.toList.drop off).take i.size)[j]? = some v → w.cell? ⟨b, off + j, none⟩ = some v := by
    intro j v hj
    rw [List.getElem?_take] at hj
    split at hj
    · rw [List.getElem?_drop] at hj
      unfold World.cell?
      simp only [hc, Option.isSome_none, Bool.false_eq_true, if_false]
      simpa using hj
    · cases hj
  obtain ⟨l1, l2⟩ := run_loadVar hd hi p2 hcell
  -- the value with what it owns
  obtain ⟨z, hz1, hz2, hz3⟩ : ∃ z, (Instr.loadAt t (a.eval x)).run P w = .ok z w ∧ VR true w g r z ∧ ∀ q, (toks r z).count q ≤ (toksL ((cs.drop off).take i.size) ((c.toList.drop off).take i.size)).count q := by
    unfold partP at e3
    obtain ⟨hle, e3⟩ := ite_spec e3
    cases hda : isAggD dd with
    | true =>
      rw [hda] at e3
      simp only [if_true, Option.some.injEq] at e3
      subst e3
      exact ⟨_, by simp [hx, Instr.loadAt, Instr.sureAddr, l1 hda], ⟨all_drop_take hall _ _, _, rfl, hmid⟩, fun q => by simp [toks]⟩
    | false =>
      rw [hda] at e3
      simp only [Bool.false_eq_true, if_false] at e3
      have hsz := h1 hda
      obtain ⟨v, v1, v2⟩ := VRl_get hcv e3
      have hlt : off < c.toList.length := (List.getElem?_eq_some_iff.1 v1).1
      have hv0 : ((c.toList.drop off).take i.size) = [v] := by
        rw [hsz, List.drop_eq_getElem_cons hlt]
        obtain ⟨_, hv⟩ := List.getElem?_eq_some_iff.1 v1
        simp [hv]
      have hr0 : ((cs.drop off).take i.size) = [r] := by
        have hlt2 : off < cs.length := by omega
        rw [hsz, List.drop_eq_getElem_cons hlt2]
        obtain ⟨_, hv⟩ := List.getElem?_eq_some_iff.1 e3
        simp [hv]
      refine ⟨v, by simp [hx, Instr.loadAt, Instr.sureAddr, l2 hda v (by rw [hv0]; rfl)], v2, fun q => ?_⟩
      rw [hv0, hr0]
      simp [toksL]
  have hds : VRl true w g (cs.take off ++ lendL ((cs.drop off).take i.size) ++ cs.drop (off + i.size)) c.toList := by
    have e : c.toList = c.toList.take off ++ (c.toList.drop off).take i.size ++ c.toList.drop (off + i.size) := by
      rw [List.append_assoc, ← List.drop_drop, List.take_append_drop, List.take_append_drop]
    rw [e]
    refine VRl_append (VRl_append ?_ (VRl_lend _ _ (VRl_weak _ _ hmid))) ?_
    · exact (VRl_take off hcv).1
    · exact (VRl_take (off + i.size) hcv).2
  have hle : off + i.size ≤ cs.length := by omega
  have hall2 : (cs.take off ++ lendL ((cs.drop off).take i.size) ++ cs.drop (off + i.size)).all PV.isCell = true := by
    rw [List.all_append, List.all_append, all_lendL, all_drop_take hall]
    have := all_drop_take hall 0 off
    rw [List.drop_zero] at this
    rw [this]
    have := all_drop_take hall (off + i.size) cs.length
    rw [List.take_of_length_le (by rw [List.length_drop]; omega)] at this
    rw [this]
    rfl
  have htok : ∀ q, (toksL (cs.take off ++ lendL ((cs.drop off).take i.size) ++ cs.drop (off + i.size)) c.toList).count q + (toks r z).count q ≤ (toksL cs c.toList).count q := by
    intro q
    have h3 := toksL_three q hcl hle
    have e : c.toList = c.toList.take off ++ (c.toList.drop off).take i.size ++ c.toList.drop (off + i.size) := by
      rw [List.append_assoc, ← List.drop_drop, List.take_append_drop, List.take_append_drop]
    have h4 : toksL (cs.take off ++ lendL ((cs.drop off).take i.size) ++ cs.drop (off + i.size)) c.toList = toksL (cs.take off) (c.toList.take off) ++ [] ++ toksL (cs.drop (off + i.size)) (c.toList.drop (off + i.size)) := by
      conv => lhs; rw [e]
      rw [toksL_append _ _ _ _ (by simp only [List.length_append, List.length_take, List.length_drop, lendL_eq_map, List.length_map]; omega), toksL_append _ _ _ _ (by simp only [List.length_take]; omega), toksL_lend]
    rw [h4]
    simp only [List.count_append, List.count_nil]
    have := hz3 q
    omega
  have hrun : (execOp a.eval (Oper.mk d (.load t x) ty pos af gd)).run P w = .ok (.value z) w := by
    unfold execOp
    exact run_v hz1
  refine step_value hrun ⟨_, _, g, hK, ⟨h.wr, HRel_retag h.wr hall2 ⟨c, e, hc, hds⟩ h.hp e2, VRl_put h.tm hz2, fun q => ?_, ?_⟩, Evol.refl _ _ _⟩
  · have h2 := count_put_le q (d := d) (x := r) (v := z) h.tm
    have h3 := h.un q
    have h4 := toksH_hset (ds := cs.take off ++ lendL ((cs.drop off).take i.size) ++ cs.drop (off + i.size)) q (w := w) (w' := w) (b := b) (fun _ _ => rfl) h.hp e2
    have h5 := htok q
    simp only [toksB, hc] at h4
    simp only [] at h2 ⊢
    omega
  · have : (a.put d z).defers = a.defers := by cases d <;> rfl
    rw [this]
    exact h.df
end
end Go.Proofs.Ytkjibelcaeanjaa.E
