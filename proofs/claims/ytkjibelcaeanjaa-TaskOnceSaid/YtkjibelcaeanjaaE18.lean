/- A logic of plain values, part 18: each operation, and a region whose order is the text's. -/
import Derived.Test.YtkjibelcaeanjaaE17
namespace Go.Proofs.Ytkjibelcaeanjaa.E
open Go Go.RowKit
set_option linter.unusedVariables false
set_option linter.unusedSimpArgs false
section
variable {P : Program} {hint : Hint} {k : PK} {out : List Nat} {st : List PV} {H : Heap} {a : Act} {w : World} {g : Ghost} {r : PV} {d : Option Tmp} {ty : TypeId} {pos : String} {af : Array Edge} {gd : Option (Nat × Bool)} {K : List PV → Heap → Prop} {QQ : Exit → Act → World → Prop}
theorem run_resolve_fn (ρ : Operand → Value) (args : Array Operand) (ts : Array TypeId) (ty : TypeId) (f : Operand) {n : Nat} {first cap : Array Value} (hf : ρ f = .func (.func n) first cap) (hc : callable P n = true) (w : World) :
    (do let d ← resolve ρ ⟨.value f, args, ts⟩ ty; invoke d.target d.args : Sem Next).run P w = .ok (.enter n (first ++ args.map ρ ++ cap)) w := by
  simp only [resolve, hf, Deferred.ofValue, Sem.run_bind, Sem.run_pure, Result.andThen_ok, invoke, run_callFunc hc]
/-- A slice against nil: an empty one may be nil, or not. -/
theorem step_eqN {ne : Bool} {t e : TypeId} {x y : Operand} {p : Arg} {yt : TypeId} (ht : P.underlying t = some (.slice e)) (hn : isNil y = true) (hp : compArg x = some p) (h : Rel out st H a w g)
    (hs : ∃ s xs o, arg st p = .lst s xs o ∧ (xs ≠ [] → K (putSt st d (.bool ne)) H) ∧ (xs = [] → ∀ b, K (putSt st d (.bool b)) H)) :
    (Oper.mk d (.binOp (cond ne .neq .eql) t x y yt) ty pos af gd).wp P a w (After out w g K) QQ := by
  obtain ⟨s, xs, o, h1, h2, h3⟩ := hs
  have hx := arg_spec h.tm hp
  rw [h1] at hx
  obtain ⟨A, cap, hA, _, _, hR, _⟩ := hx
  unfold isNil at hn
  split at hn
  · rename_i l2 c2
    have hg : ∀ op X Y, (eqGuard op t X Y (.slice A xs.length cap) (.slice none l2 c2)).run P w = .ok () w := fun op X Y => by
      unfold eqGuard
      split <;> rfl
    have he : ∀ n, (Op.equalIn (n + 1) t (.slice A xs.length cap) (.slice none l2 c2)).run P w = .ok A.isNone w := fun n => by
      cases A <;> simp [Op.equalIn, run_underlying ht]
    have he2 : (Op.equal t (.slice A xs.length cap) (.slice none l2 c2)).run P w = .ok A.isNone w := he 9999
    have hrun : (execOp a.eval (Oper.mk d (.binOp (cond ne .neq .eql) t x (.const (.slice none l2 c2)) yt) ty pos af gd)).run P w = .ok (.value (.bool (if ne then !A.isNone else A.isNone))) w := by
      unfold execOp
      refine run_v ?_
      show (do eqGuard _ t _ _ (a.eval x) (.slice none l2 c2); binOp _ t (a.eval x) (.slice none l2 c2) : Sem Value).run P w = _
      rw [hA]
      have b1 : (binOp .eql t (.slice A xs.length cap) (.slice none l2 c2)).run P w = .ok (.bool A.isNone) w := by
        show (do pure (.bool (← Op.equal t (.slice A xs.length cap) (.slice none l2 c2))) : Sem Value).run P w = _
        rw [Sem.run_bind, he2]
        rfl
      have b2 : (binOp .neq t (.slice A xs.length cap) (.slice none l2 c2)).run P w = .ok (.bool (!A.isNone)) w := by
        show (do pure (.bool !(← Op.equal t (.slice A xs.length cap) (.slice none l2 c2))) : Sem Value).run P w = _
        rw [Sem.run_bind, he2]
        rfl
      cases ne
      · rw [Sem.run_bind, hg, Result.andThen_ok]
        exact b1
      · rw [Sem.run_bind, hg, Result.andThen_ok]
        exact b2
    have key : K (putSt st d (.bool (if ne then !A.isNone else A.isNone))) H := by
      by_cases hxs : xs = []
      · exact h3 hxs _
      · rcases hR with hR | ⟨b, off, vs, rfl, _⟩
        · exact absurd hR hxs
        · have := h2 hxs
          cases ne <;> simpa using this
    have hst : Step [] w g w g (.bool (if ne then !A.isNone else A.isNone)) (.bool (if ne then !A.isNone else A.isNone)) := Step.same h.wr rfl rfl
    obtain ⟨k1, k2⟩ := step_rel (d := d) h h.tm (fun b => by simp) hst
    exact step_value hrun ⟨_, H, g, key, k1, k2⟩
  · cases hn
theorem hset_same : ∀ {H : Heap} {b : Nat} {cs : List PV}, hget H b = some cs → hset H b cs = H
  | (c, ds) :: H, b, cs, h => by
    simp only [hget] at h
    simp only [hset]
    split at h
    · rename_i e
      cases h
      rw [if_pos e]
    · rename_i e
      rw [if_neg e, hset_same h]
/-! rows -/
theorem VRe_flat {w : World} {g : Ghost} {sz : Nat} : ∀ {xs : List PV} {vs : List Value}, VRe w g sz xs vs → VRl false w g (xs.flatMap cellsOf) vs ∧ (xs.flatMap cellsOf).all PV.isCell = true
  | [], vs, h => by
    have : vs = [] := h
    subst this
    exact ⟨rfl, rfl⟩
  | x :: xs, vs, h => by
    obtain ⟨us, vs', rfl, h1, h2⟩ := VRe_cons.1 h
    obtain ⟨c1, c2, c3⟩ := VRc_cells h1
    obtain ⟨i1, i2⟩ := VRe_flat h2
    refine ⟨?_, ?_⟩
    · rw [List.flatMap_cons]; exact VRl_append c3 i1
    · rw [List.flatMap_cons, List.all_append, c1, i2]; rfl
theorem cellsY_spec {w : World} {g : Ghost} {H : Heap} {sz : Nat} {p : PV} {v : Value} {ys : List PV} {m : Nat} (h : cellsY sz H p = some (ys, m)) (hH : HRel w g H) (hv : VR false w g p v) :
    ∃ news : List Value, news.length = m * sz ∧ VRl true w g ys news ∧ toksL ys news = [] ∧ ys.all PV.isCell = true ∧ (∀ w', (Builtin.lenOf v).run P w' = .ok m w') ∧
      ∀ k, k ≤ m → ∀ w' : World, w'.heap = w.heap → (Builtin.firstCells sz k v).run P w' = .ok (news.take (k * sz)).toArray w' := by
  unfold cellsY at h
  split at h
  · rename_i s ys0 own
    obtain ⟨hs, h⟩ := ite_spec h
    cases h
    have hv0 := hv
    obtain ⟨A, cap, rfl, _⟩ := hv
    obtain ⟨vs, o1, o2, o3, o4, o5⟩ := VR_lst_cells (P := P) hv0 hs
    obtain ⟨f1, f2⟩ := VRe_flat o2
    refine ⟨vs, o1, VRl_lend _ _ f1, toksL_lend _ _, by rw [all_lendL]; exact f2, fun w' => rfl, fun k hk w' hw' => ?_⟩
    rcases o5 with o5 | ⟨b, off, rfl, hR⟩
    · subst o5
      have hk0 : k = 0 := by simpa using hk
      subst hk0
      cases A with
      | none => simp [Builtin.firstCells]
      | some a => simp [Builtin.firstCells, loadCells, loadCellsFrom]
    · have hkl : k * sz ≤ ys0.length * sz := Nat.mul_le_mul_right _ hk
      refine run_firstCells_some w' sz k _ _ _ (vs.take (k * sz)) (by rw [List.length_take]; omega) (fun j v hj => ?_)
      rw [addr_add]
      rw [List.getElem?_take] at hj
      split at hj
      · have := hR.cell hj
        unfold World.cell? at this ⊢
        rw [hw']
        exact this
      · cases hj
  · rename_i b off len cap
    obtain ⟨cs, hb, h⟩ := bind_spec h
    obtain ⟨hl, h⟩ := ite_spec h
    cases h
    simp only [VR] at hv
    subst hv
    obtain ⟨_, hall, c, e, hc, hcv⟩ := hH.mut_of_get hb
    have hcl := VRl_length hcv
    have hmid : VRl true w g ((cs.drop off).take (m * sz)) ((c.toList.drop off).take (m * sz)) := (VRl_take (m * sz) (VRl_take off hcv).2).1
    refine ⟨(c.toList.drop off).take (m * sz), by rw [List.length_take, List.length_drop]; omega, VRl_lend _ _ (VRl_weak _ _ hmid), toksL_lend _ _, by rw [all_lendL]; exact all_drop_take hall _ _, fun w' => rfl, fun k hk w' hw' => ?_⟩
    have hkl : k * sz ≤ m * sz := Nat.mul_le_mul_right _ hk
    refine run_firstCells_some w' sz k _ _ _ _ (by rw [List.length_take, List.length_take, List.length_drop]; omega) (fun j v hj => ?_)
    rw [addr_add]
    rw [List.take_take, Nat.min_eq_left hkl, List.getElem?_take] at hj
    split at hj
    · rw [List.getElem?_drop] at hj
      unfold World.cell?
      rw [hw']
      simp only [hc, Option.isSome_none, Bool.false_eq_true, if_false]
      simpa using hj
    · cases hj
  · rename_i t
    obtain ⟨hs, h⟩ := ite_spec h
    cases h
    subst hs
    obtain ⟨b, rfl, rfl⟩ := hv
    have hlen : (bytesOf b).length = b.size := bytesOf_length b
    refine ⟨b.data.toList.map fun c => .int .u8 c.toNat, by simp [hlen], ?_, ?_, ?_, fun w' => by rw [hlen]; rfl, fun k hk w' hw' => ?_⟩
    · have := VRe_map_int (w := w) (g := g) b.data.toList
      have h2 : ∀ l : List UInt8, VRl true w g ((l.map fun c => (c.toNat : Int)).map (PV.int .u8)) (l.map fun c => Value.int .u8 c.toNat) := by
        intro l
        induction l with
        | nil => rfl
        | cons c l ih => exact ⟨_, _, rfl, rfl, ih⟩
      exact h2 _
    · have h2 : ∀ (l : List Int) (vs : List Value), toksL (l.map (PV.int .u8)) vs = [] := by
        intro l
        induction l with
        | nil => intro vs; simp [toksL]
        | cons c l ih =>
          intro vs
          cases vs with
          | nil => simp [toksL]
          | cons v vs => simp [toksL, toks, ih]
      exact h2 _ _
    · simp [PV.isCell]
    · simp only [Builtin.firstCells, Sem.run_pure]
      congr 1
      apply Array.toList_inj.1
      simp [List.map_take]
  · cases h
theorem store_put {out : List Nat} {st : List PV} {H : Heap} {a : Act} {w : World} {g : Ghost} {d : Option Nat} {v : Value} {r : PV} (h : Rel out (putSt st d .unit) H (a.put d v) w g) (hl : st.length = a.tmps.size) (hr : VR true w g r v) (ht : toks r v = []) :
    Rel out (putSt st d r) H (a.put d v) w g := by
  cases d with
  | none => exact h
  | some i =>
    have e : (putSt st (some i) r) = (putSt st (some i) .unit).set i r := by simp [putSt]
    have hs : (a.put (some i) v).tmps.toList = ((a.put (some i) v).tmps.toList).set i v := by simp [Act.put]
    refine ⟨h.wr, h.hp, ?_, fun b => ?_, h.df⟩
    · rw [e, hs]; exact VRl_set i h.tm hr
    · have h0 := h.un b
      suffices (toksL (putSt st (some i) r) (a.put (some i) v).tmps.toList).count b ≤ (toksL (putSt st (some i) .unit) (a.put (some i) v).tmps.toList).count b by omega
      by_cases hi : i < st.length
      · have q1 : (putSt st (some i) .unit)[i]? = some .unit := by simp [putSt, hi]
        have q2 : ((a.put (some i) v).tmps.toList)[i]? = some v := by
          simp only [Act.put, Array.toList_setIfInBounds]
          rw [List.getElem?_set_self (by rw [Array.length_toList, ← hl]; exact hi)]
        have := count_toksL_set b (putSt st (some i) .unit) (a.put (some i) v).tmps.toList i r .unit v v q1 q2
        rw [← e, ← hs, ht] at this
        simp only [List.count_nil] at this
        omega
      · have : putSt st (some i) r = putSt st (some i) .unit := by simp only [putSt]; rw [List.set_eq_of_length_le (by omega), List.set_eq_of_length_le (by omega)]
        rw [this]
        exact Nat.le_refl _
/-- Cells of a row of H are written over. -/
theorem over_rel {out : List Nat} {st : List PV} {H : Heap} {a : Act} {w : World} {g : Ghost} {b off : Nat} {cs ys : List PV} {c : Array Value} {e : TypeId} {us : List Value} {d : Option Nat} {v : Value} {r : PV}
    (h : Rel out st H a w g) (hg : hget H b = some cs) (hc : w.heap[b]? = some (.cells c e (0, 0))) (hcv : VRl true w g cs c.toList) (hall0 : cs.all PV.isCell = true)
    (hle : off + ys.length ≤ cs.length) (hys : VRl true w g ys us) (htk : toksL ys us = []) (hall : ys.all PV.isCell = true) (hr : ∀ w', VR true w' g r v) (ht : toks r v = []) :
    Rel out (putSt st d r) (hset H b (cs.take off ++ ys ++ cs.drop (off + ys.length))) (a.put d v) (w.setRow b (c.toList.take off ++ us ++ c.toList.drop (off + us.length)).toArray) g ∧
      Evol out w g (w.setRow b (c.toList.take off ++ us ++ c.toList.drop (off + us.length)).toArray) g := by
  have hcl := VRl_length hcv
  have hyl := VRl_length hys
  have hds : VRl true w g (cs.take off ++ ys ++ cs.drop (off + ys.length)) (c.toList.take off ++ us ++ c.toList.drop (off + us.length)) := by
    rw [hyl]
    exact VRl_append (VRl_append (VRl_take off hcv).1 hys) (VRl_take (off + ys.length) hcv).2
  have hall2 : (cs.take off ++ ys ++ cs.drop (off + ys.length)).all PV.isCell = true := by
    rw [List.all_append, List.all_append, hall]
    have := all_drop_take hall0 0 off
    rw [List.drop_zero] at this
    rw [this]
    have := all_drop_take hall0 (off + ys.length) cs.length
    rw [List.take_of_length_le (by rw [List.length_drop]; omega)] at this
    rw [this]
    rfl
  obtain ⟨k1, k2⟩ := store_rel (d := d) (v := v) h h.tm hg hc hcv (c' := (c.toList.take off ++ us ++ c.toList.drop (off + us.length)).toArray) (by simpa using hds) hall2 (fun x => by
    have h3 := toksL_three x hcl hle
    have h4 : (toksL (cs.take off ++ ys ++ cs.drop (off + ys.length)) (c.toList.take off ++ us ++ c.toList.drop (off + us.length))).count x = (toksL (cs.take off) (c.toList.take off)).count x + (toksL (cs.drop (off + ys.length)) (c.toList.drop (off + ys.length))).count x := by
      rw [toksL_append _ _ _ _ (by simp only [List.length_append, List.length_take]; omega), toksL_append _ _ _ _ (by simp only [List.length_take]; omega), htk, hyl]
      simp only [List.append_nil, List.count_append]
    have h5 : (c.toList.take off ++ us ++ c.toList.drop (off + us.length)).toArray.toList = c.toList.take off ++ us ++ c.toList.drop (off + us.length) := by simp
    rw [h5, h4]
    omega) rfl
  exact ⟨store_put k1 (by have := VRl_length h.tm; rw [← this]; rfl) (hr _) ht, k2⟩
theorem step_over {o : Oper} {K : List PV → Heap → Prop} {QQ : Exit → Act → World → Prop} {b off : Nat} {cs ys : List PV} {us : List Value} {v : Value} {r : PV}
    (h : Rel out st H a w g) (hg : hget H b = some cs) (hle : off + ys.length ≤ cs.length) (hys : VRl true w g ys us) (htk : toksL ys us = []) (hall : ys.all PV.isCell = true) (hr : ∀ w', VR true w' g r v) (ht : toks r v = [])
    (hrun : ∀ c e, w.heap[b]? = some (.cells c e (0, 0)) → c.toList.length = cs.length → (storeCells ⟨b, off, none⟩ us).run P w = .ok () (w.setRow b (c.toList.take off ++ us ++ c.toList.drop (off + us.length)).toArray) →
      (execOp a.eval o).run P w = .ok (.value v) (w.setRow b (c.toList.take off ++ us ++ c.toList.drop (off + us.length)).toArray))
    (hK : K (putSt st o.dst r) (hset H b (cs.take off ++ ys ++ cs.drop (off + ys.length)))) : o.wp P a w (After out w g K) QQ := by
  obtain ⟨_, hall0, c, e, hc, hcv⟩ := h.hp.mut_of_get hg
  obtain ⟨k1, k2⟩ := over_rel (d := o.dst) h hg hc hcv hall0 hle hys htk hall hr ht
  have hcl := VRl_length hcv
  have hyl := VRl_length hys
  have hcs : c.toList.length = c.size := rfl
  have hst := run_storeCells_at P b off e us 0 c w hc (by omega) (VRl_oneCell hall hys)
  rw [Nat.add_zero] at hst
  exact step_value (hrun c e hc hcl hst) ⟨_, _, _, hK, k1, k2⟩
theorem row_eval (h : VRl true w g st a.tmps.toList) {x : Operand} {p : Arg} (hp : compArg x = some p) {b off n cap : Nat} (e : arg st p = .row b off n cap) : a.eval x = .slice (some ⟨b, off, none⟩) n cap := by
  have := arg_spec h hp
  rw [e] at this
  exact this
theorem step_cpy {t e : TypeId} {x y : Operand} {p q : Arg} {i : TypeInfo} {t2 : TypeId} {K : List PV → Heap → Prop} {QQ : Exit → Act → World → Prop} (h : Rel out st H a w g) (ht : P.underlying t = some (.slice e)) (hi : P.info? e = some i)
    (hp : compArg x = some p) (hq : compArg y = some q) (hs : stepOp P ⟨d, none, .cpy i.size p q⟩ K st H) {args : Array Operand} {tys : Array TypeId} (ha : args.toList = [x, y]) (htys : tys.toList = [t, t2]) :
    (Oper.mk d (.call ⟨.builtin .copy, args, tys⟩) ty pos af gd).wp P a w (After out w g K) QQ := by
  obtain ⟨b, off, n, cap, cs, ys, m, e1, e2, e3, e4, hK⟩ := hs
  obtain rfl := toList_two ha
  obtain rfl := toList_two htys
  have hx := row_eval h.tm hp e1
  obtain ⟨news, n1, n2, n3, n4, n5, n6⟩ := cellsY_spec (P := P) e4 h.hp (VR_weak _ _ (arg_spec h.tm hq))
  have hyl := VRl_length n2
  have hmin : min m n * i.size ≤ m * i.size := Nat.mul_le_mul_right _ (Nat.min_le_left _ _)
  have hmin2 : min m n * i.size ≤ n * i.size := Nat.mul_le_mul_right _ (Nat.min_le_right _ _)
  have hlt : (ys.take (min m n * i.size)).length = min m n * i.size := by rw [List.length_take]; omega
  have htoks : toksL (ys.take (min m n * i.size)) (news.take (min m n * i.size)) = [] := by
    have : toksL (ys.take (min m n * i.size) ++ ys.drop (min m n * i.size)) (news.take (min m n * i.size) ++ news.drop (min m n * i.size)) = [] := by rw [List.take_append_drop, List.take_append_drop]; exact n3
    rw [toksL_append _ _ _ _ (by simp only [List.length_take]; omega)] at this
    exact (List.append_eq_nil_iff.1 this).1
  refine step_over (ys := ys.take (min m n * i.size)) (us := news.take (min m n * i.size)) (off := off) (r := .int .i64 (min m n : Nat)) (v := .int .i64 (min m n : Nat)) h e2 (by omega) (VRl_take _ n2).1 htoks ?_ (fun _ => rfl) (by simp [toks]) ?_ (by rw [hlt]; exact hK)
  · have := all_drop_take n4 0 (min m n * i.size)
    rwa [List.drop_zero] at this
  · intro c e' hc hcl hst
    unfold execOp
    refine run_v (z := .int .i64 (min m n : Nat)) ?_
    have h6 := n6 (min m n) (Nat.min_le_left _ _) w rfl
    have e5 : (Nat.min m n) = min m n := rfl
    simp only [execOp, resolve, invoke, builtin, Sem.run_bind, Sem.run_pure, Result.andThen_ok, List.map_toArray, List.map_cons, List.map_nil, Builtin.copy_, run_underlying ht, run_sizeOf hi, hx, n5, e5, h6, hst, goInt, List.getElem?_toArray, List.getElem?_cons_zero, List.getElem?_cons_succ]
theorem step_clr {t e : TypeId} {x : Operand} {p : Arg} {i : TypeInfo} {z : Value} {zero : List PV} {K : List PV → Heap → Prop} {QQ : Exit → Act → World → Prop} (h : Rel out st H a w g) (ht : P.underlying t = some (.slice e)) (hi : P.info? e = some i) (hz : i.zero = some z)
    (hzero : constCells z.cells.toList = some zero) (hzs : z.cells.size = i.size) (h0 : 0 < i.size)
    (hp : compArg x = some p) (hs : stepOp P ⟨d, none, .clr i.size zero p⟩ K st H) {args : Array Operand} {tys : Array TypeId} (ha : args.toList = [x]) (htys : tys.toList = [t]) :
    (Oper.mk d (.call ⟨.builtin .clear, args, tys⟩) ty pos af gd).wp P a w (After out w g K) QQ := by
  obtain ⟨b, off, n, cap, cs, e1, e2, e3, hK⟩ := hs
  obtain rfl := toList_one ha
  obtain rfl := toList_one htys
  have hx := row_eval h.tm hp e1
  obtain ⟨z1, z2, z3⟩ := constCells_VR w g hzero
  have hzl : zero.length = i.size := by rw [← hzs, ← VRl_length z1]; rfl
  have hl : (repCells n zero).length = n * i.size := by rw [length_rep, hzl]
  have hrep := rep_cells z.cells (by omega) n
  refine step_over (ys := repCells n zero) (us := (List.replicate n z.cells.toList).flatten) (off := off) (r := .unit) (v := .tuple #[]) h e2 (by omega) (VRl_rep z1 n) (toksL_rep (VRl_length z1) z3 n) (all_rep z2 n) (fun _ => trivial) (by simp [toks]) ?_ (by rw [hl]; exact hK)
  intro c e' hc hcl hst
  have hzv : (zeroValue e).run P w = .ok z w := by simp only [zeroValue, typeInfo, Sem.run_bind, run_program, Result.andThen_ok, hi, hz, Sem.run_pure]
  by_cases hn : n = 0
  · subst hn
    have hsame : w.setRow b (c.toList.take off ++ ([] : List Value) ++ c.toList.drop (off + 0)).toArray = w := by
      have e6 : (c.toList.take off ++ ([] : List Value) ++ c.toList.drop (off + 0)).toArray = c := by simp
      rw [e6]
      unfold World.setRow
      congr 1
      apply Array.ext_getElem?
      intro k
      rw [Array.getElem?_modify]
      by_cases hk : b = k
      · subst hk; rw [if_pos rfl, hc]; rfl
      · rw [if_neg hk]
    simp only [List.replicate_zero, List.flatten_nil, List.length_nil] at hst ⊢
    rw [hsame]
    simp only [execOp, resolve, invoke, builtin, Sem.run_bind, Sem.run_pure, Result.andThen_ok, List.map_toArray, List.map_cons, List.map_nil, Builtin.clear_, run_underlying ht, hx, List.getElem?_toArray, List.getElem?_cons_zero]
  · obtain ⟨k, rfl⟩ := Nat.exists_eq_succ_of_ne_zero hn
    have hz3 : (Builtin.zeroCells z.cells (k + 1)).toList = (List.replicate (k + 1) z.cells.toList).flatten := hrep
    simp only [execOp, resolve, invoke, builtin, Sem.run_bind, Sem.run_pure, Result.andThen_ok, List.map_toArray, List.map_cons, List.map_nil, Builtin.clear_, run_underlying ht, hx, hzv, hz3, hst, List.getElem?_toArray, List.getElem?_cons_zero]
theorem step_cap {t e : TypeId} {x : Operand} {p : Arg} {K : List PV → Heap → Prop} {QQ : Exit → Act → World → Prop} (h : Rel out st H a w g) (ht : P.underlying t = some (.slice e))
    (hp : compArg x = some p) (hs : stepOp P ⟨d, none, .cap p⟩ K st H) {args : Array Operand} {tys : Array TypeId} (ha : args.toList = [x]) (htys : tys.toList = [t]) :
    (Oper.mk d (.call ⟨.builtin .cap, args, tys⟩) ty pos af gd).wp P a w (After out w g K) QQ := by
  obtain rfl := toList_one ha
  obtain rfl := toList_one htys
  have hx := arg_spec h.tm hp
  have key : ∃ A l c, a.eval x = .slice A l c ∧ K (putSt st d (.int .i64 (c : Nat))) H := by
    rcases hs with ⟨b, off, n, c, e1, hK⟩ | ⟨s, xs, o, e1, hK⟩
    · rw [e1] at hx
      exact ⟨_, _, c, hx, hK⟩
    · rw [e1] at hx
      obtain ⟨A, cap, h1, h2, h3, _⟩ := hx
      exact ⟨A, _, cap, h1, hK cap h2 h3⟩
  obtain ⟨A, l, c, hx2, hK⟩ := key
  have hst : Step [] w g w g (.int .i64 (c : Nat)) (.int .i64 (c : Nat)) := Step.same h.wr rfl rfl
  obtain ⟨k1, k2⟩ := step_rel (d := d) h h.tm (fun b => by simp) hst
  refine step_value (v := .int .i64 (c : Nat)) ?_ ⟨_, H, g, hK, k1, k2⟩
  simp only [execOp, resolve, invoke, builtin, Sem.run_bind, Sem.run_pure, Result.andThen_ok, List.map_toArray, List.map_cons, List.map_nil, Builtin.cap_, run_underlying ht, hx2, List.getElem?_toArray, List.getElem?_cons_zero, goInt]
theorem step_appR {t tx e : TypeId} {dx : TypeDesc} {x y : Operand} {p q : Arg} {i : TypeInfo} {z : Value} {zero : List PV} {K : List PV → Heap → Prop} {QQ : Exit → Act → World → Prop} (h : Rel out st H a w g) (ht : P.underlying t = some (.slice e)) (htx : P.underlying tx = some dx)
    (hdx : dx = .string ∨ ∃ e2, dx = .slice e2) (hi : P.info? e = some i) (hz : i.zero = some z) (hzero : constCells z.cells.toList = some zero) (hzs : z.cells.size = i.size) (h0 : 0 < i.size) (hby : 1 ≤ i.bytes)
    (hp : compArg x = some p) (hq : compArg y = some q) (hs : stepOp P ⟨d, none, .appR i.size i.bytes zero p q⟩ K st H) {args : Array Operand} {tys : Array TypeId} (ha : args.toList = [x, y]) (htys : tys.toList = [t, tx]) :
    (Oper.mk d (.call ⟨.builtin .append, args, tys⟩) ty pos af gd).wp P a w (After out w g K) QQ := by
  obtain ⟨b, n, cap, cs, ys, m, e1, e2, e3, e4, e5, e6, e7, hK1, hK2⟩ := hs
  obtain rfl := toList_two ha
  obtain rfl := toList_two htys
  have hx := row_eval h.tm hp e1
  obtain ⟨hmut, hall0, c, e', hc, hcv⟩ := h.hp.mut_of_get e2
  have hcl := VRl_length hcv
  have hcs : c.toList.length = c.size := rfl
  obtain ⟨news, n1, n2, n3, n4, n5, n6⟩ := cellsY_spec (P := P) e6 h.hp (VR_weak _ _ (arg_spec h.tm hq))
  have hyl := VRl_length n2
  have hn : n * i.size ≤ cap * i.size := Nat.mul_le_mul_right _ e4
  have h63 : n + m ≤ maxLen := by
    have : (n + m) * 1 ≤ (n + m) * i.bytes := Nat.mul_le_mul_left _ hby
    simp only [maxLen]
    omega
  have hnews : ∀ w' : World, w'.heap = w.heap → (Builtin.firstCells i.size m (a.eval y)).run P w' = .ok news.toArray w' := fun w' hw' => by
    have := n6 m (Nat.le_refl _) w' hw'
    rwa [List.take_of_length_le (by omega)] at this
  obtain ⟨v', w', hrun, hways⟩ := append_ways (P := P) (ty := ty) ht htx hdx hi hz hzs w (some ⟨b, 0, none⟩) n cap m (a.eval y) (c.toList.take (n * i.size)) news n1 (by rw [List.length_take]; omega) n5 hnews
    (fun w' hw' => run_firstCells_some w' i.size n _ _ _ _ (by rw [List.length_take]; omega) (fun j v hj => by
      rw [addr_add]
      rw [List.getElem?_take] at hj
      split at hj
      · unfold World.cell?
        rw [hw']
        simp only [hc, Option.isSome_none, Bool.false_eq_true, if_false]
        simpa using hj
      · cases hj)) (VRl_oneCell n4 n2) e4 e5 h63 e7 (fun _ => ⟨b, c, e', rfl, hc, by omega⟩)
  have hexec : (execOp a.eval (Oper.mk d (.call ⟨.builtin .append, #[x, y], #[t, tx]⟩) ty pos af gd)).run P w = .ok (.value v') w' := by
    simp only [execOp, resolve, invoke, builtin, Sem.run_bind, Sem.run_pure, Result.andThen_ok, List.map_toArray, List.map_cons, List.map_nil, hx, hrun]
  rcases hways with ⟨rfl, rfl, rfl⟩ | ⟨hm0, hroom, b2, c2, e2', hA, hc2, hsz, rfl, rfl⟩ | ⟨cap', rest, hc1, hc2, hrest, rfl, rfl, hgt, rfl⟩
  · have hst : Step [] w' g w' g (.row b 0 n cap) (.slice (some ⟨b, 0, none⟩) n cap) := Step.same h.wr rfl (by simp [toks])
    obtain ⟨k1, k2⟩ := step_rel (d := d) h h.tm (fun b => by simp) hst
    have hK := hK1 (by omega)
    have e8 : hset H b (cs.take (n * i.size) ++ ys ++ cs.drop ((n + 0) * i.size)) = H := by
      have : ys = [] := List.eq_nil_of_length_eq_zero (by omega)
      subst this
      rw [Nat.add_zero, List.append_nil, List.take_append_drop]
      exact hset_same e2
    rw [e8] at hK
    exact step_value hexec ⟨_, H, g, hK, k1, k2⟩
  · simp only [Option.some.injEq, Addr.mk.injEq, and_true] at hA
    subst hA
    rw [hc] at hc2
    cases hc2
    have e9 : (n + m) * i.size = n * i.size + ys.length := by rw [Nat.add_mul]; omega
    have e10 : n * i.size + news.length = n * i.size + ys.length := by omega
    have hle2 : (n + m) * i.size ≤ cap * i.size := Nat.mul_le_mul_right _ hroom
    have hK := hK1 hroom
    rw [e9] at hK
    obtain ⟨k1, k2⟩ := over_rel (off := n * i.size) (d := d) (v := .slice (some ⟨b, 0, none⟩) (n + m) cap) (r := .row b 0 (n + m) cap) h e2 hc hcv hall0 (by omega) n2 n3 n4 (fun _ => rfl) (by simp [toks])
    exact step_value hexec ⟨_, _, g, hK, k1, k2⟩
  · obtain ⟨z1, z2, z3⟩ := constCells_VR w g hzero
    have hrep := rep_cells z.cells (by omega) (cap' - (n + m))
    have holds : VRl true w g (lendL (cs.take (n * i.size))) (c.toList.take (n * i.size)) := VRl_lend _ _ (VRl_weak _ _ (VRl_take (n * i.size) hcv).1)
    have hus : (((c.toList.take (n * i.size)).toArray ++ news.toArray ++ Builtin.zeroCells z.cells (cap' - (n + m)) : Array Value)).toList = c.toList.take (n * i.size) ++ news ++ (List.replicate (cap' - (n + m)) z.cells.toList).flatten := by
      rw [Array.toList_append, Array.toList_append]
      have : (Builtin.zeroCells z.cells (cap' - (n + m))).toList = (List.replicate (cap' - (n + m)) z.cells.toList).flatten := hrep
      rw [this]
    have hv : VRl true w g (lendL (cs.take (n * i.size)) ++ ys ++ repCells (cap' - (n + m)) zero) (((c.toList.take (n * i.size)).toArray ++ news.toArray ++ Builtin.zeroCells z.cells (cap' - (n + m)) : Array Value)).toList := by
      rw [hus]
      exact VRl_append (VRl_append holds n2) (VRl_rep z1 _)
    have htk : toksL (lendL (cs.take (n * i.size)) ++ ys ++ repCells (cap' - (n + m)) zero) (((c.toList.take (n * i.size)).toArray ++ news.toArray ++ Builtin.zeroCells z.cells (cap' - (n + m)) : Array Value)).toList = [] := by
      have l1 := VRl_length holds
      rw [hus, toksL_append _ _ _ _ (by simp only [List.length_append]; omega), toksL_append _ _ _ _ l1, toksL_lend, n3, toksL_rep (VRl_length z1) z3]
      rfl
    have hall : (lendL (cs.take (n * i.size)) ++ ys ++ repCells (cap' - (n + m)) zero).all PV.isCell = true := by
      have := all_drop_take hall0 0 (n * i.size)
      rw [List.drop_zero] at this
      rw [List.all_append, List.all_append, all_lendL, this, n4, all_rep z2]
      rfl
    obtain ⟨k1, k2⟩ := alloc_rel (d := d) (v := .slice (some ⟨w.heap.size, 0, none⟩) (n + m) cap') (r := .row w.heap.size 0 (n + m) cap') (e := e) h h.tm hv hall (fun b => by rw [htk]; simp) (w1 := w.drew.alloc (.cells ((c.toList.take (n * i.size)).toArray ++ news.toArray ++ Builtin.zeroCells z.cells (cap' - (n + m))) e)) rfl rfl rfl rfl (fun _ _ => rfl) (by simp [toks])
    refine step_value hexec ⟨_, _, _, hK2 hgt _ cap' ?_ hc1 hc2, k1, k2⟩
    cases hh : hget H w.heap.size with
    | none => rfl
    | some q => exact absurd (HRel.lt h.wr h.hp hh) (Nat.lt_irrefl _)
theorem step_row {b : Builtin} {args : Array Operand} {ts : Array TypeId} (hr : compRow P hint d b ts.toList args.toList = some k) (h : Rel out st H a w g) {K : List PV → Heap → Prop} {QQ : Exit → Act → World → Prop} (hs : stepOp P ⟨d, none, k⟩ K st H) :
    (Oper.mk d (.call ⟨.builtin b, args, ts⟩) ty pos af gd).wp P a w (After out w g K) QQ := by
  unfold compRow at hr
  split at hr
  · rename_i hts hargs
    split at hr
    · split at hr
      · rename_i ht htx
        obtain ⟨i, hi, hr⟩ := bind_spec hr
        obtain ⟨z, hz, hr⟩ := bind_spec hr
        obtain ⟨zero, hzero, hr⟩ := bind_spec hr
        obtain ⟨⟨c1, c2, c3, c4⟩, hr⟩ := ite_spec hr
        obtain ⟨p, hp, hr⟩ := bind_spec hr
        obtain ⟨q, hq, rfl⟩ := map_spec hr
        refine step_appR h ht htx ?_ hi hz hzero c1 c2 c3 hp hq hs hargs hts
        split at c4
        · exact .inl rfl
        · exact .inr ⟨_, rfl⟩
        · cases c4
      · cases hr
    · cases hr
  · rename_i hts hargs
    split at hr
    · rename_i ht
      obtain ⟨i, hi, hr⟩ := bind_spec hr
      obtain ⟨h0, hr⟩ := ite_spec hr
      obtain ⟨p, hp, hr⟩ := bind_spec hr
      obtain ⟨q, hq, rfl⟩ := map_spec hr
      exact step_cpy h ht hi hp hq hs hargs hts
    · cases hr
  · rename_i hts hargs
    split at hr
    · rename_i ht
      obtain ⟨i, hi, hr⟩ := bind_spec hr
      obtain ⟨z, hz, hr⟩ := bind_spec hr
      obtain ⟨zero, hzero, hr⟩ := bind_spec hr
      obtain ⟨⟨c1, c2⟩, hr⟩ := ite_spec hr
      obtain ⟨p, hp, rfl⟩ := map_spec hr
      exact step_clr h ht hi hz hzero c1 c2 hp hs hargs hts
    · cases hr
  · rename_i hts hargs
    split at hr
    · rename_i ht
      obtain ⟨p, hp, rfl⟩ := map_spec hr
      exact step_cap h ht hp hs hargs hts
    · cases hr
  · cases hr
theorem step_call_op (h : Rel out st H a w g) {callee : Callee} {args : Array Operand} {ts : Array TypeId} (hk : compOp0 P hint ⟨d, .call ⟨callee, args, ts⟩, ty, pos, af, gd⟩ = some k) (hs : stepOp P ⟨d, none, k⟩ K st H) :
    (Oper.mk d (.call ⟨callee, args, ts⟩) ty pos af gd).wp P a w (After out w g K) QQ := by
  have hk0 := compOp_of hk
  simp only [compOp0] at hk
  split at hk
  · -- a builtin is pure
    rename_i b
    split at hk
    · rename_i hr
      cases hk
      exact step_row hr h hs
    have : ∃ r, pev st H k = some r ∧ K (putSt (ptake st k) d r) H := by
      unfold compBuiltin at hk
      split at hk
      · split at hk
        · obtain ⟨i, hi, hk⟩ := bind_spec hk
          obtain ⟨z, hz, hk⟩ := bind_spec hk
          obtain ⟨_, hk⟩ := ite_spec hk
          obtain ⟨p, hp, hk⟩ := bind_spec hk
          obtain ⟨q, hq, rfl⟩ := map_spec hk
          exact hs
        · cases hk
      · split at hk
        · obtain ⟨p, hp, rfl⟩ := map_spec hk; exact hs
        · obtain ⟨p, hp, rfl⟩ := map_spec hk; exact hs
        · cases hk
      · obtain ⟨p, hp, hk⟩ := bind_spec hk
        obtain ⟨q, hq, rfl⟩ := map_spec hk
        exact hs
      · obtain ⟨p, hp, hk⟩ := bind_spec hk
        obtain ⟨q, hq, rfl⟩ := map_spec hk
        exact hs
      · cases hk
    obtain ⟨r, hr, hK⟩ := this
    exact step_pure hk0 h hr hK
  · rename_i f
    obtain ⟨as, has, rfl⟩ := map_spec hk
    obtain ⟨Q, hS, hK⟩ := hs
    obtain ⟨i1, i2, i3⟩ := callArgs_spec (takesOf hint f) has h.tm
    have e : (#[] ++ args.map a.eval ++ #[] : Array Value).toList = args.toList.map a.eval := by simp
    exact step_call (vals := #[] ++ args.map a.eval ++ #[]) h hS (by unfold execOp; exact run_resolve_fn _ _ _ _ _ rfl hS.1 w) (by rw [e]; exact i1) i2 (fun b => by rw [e]; exact i3 b) hK
  · rename_i f hb
    obtain ⟨fx, hfx, hk⟩ := bind_spec hk
    obtain ⟨as, has, rfl⟩ := map_spec hk
    obtain ⟨n, first, cap, Q, hfe, hS, hK⟩ := hs
    have hv := arg_spec h.tm hfx
    rw [hfe] at hv
    obtain ⟨fs, cs, hv, v1, v2⟩ := hv
    obtain ⟨i1, i2⟩ := args_spec h.tm has
    have w1 : VRl true w g (lendL first) fs.toList := VRl_lend _ _ v1
    have w2 : VRl true w g (lendL cap) cs.toList := VRl_lend _ _ v2
    have e : (fs ++ args.map a.eval ++ cs : Array Value).toList = fs.toList ++ args.toList.map a.eval ++ cs.toList := by simp
    refine step_call (vals := fs ++ args.map a.eval ++ cs) h hS (by unfold execOp; exact run_resolve_fn _ _ _ _ _ hv hS.1 w) (by rw [e]; exact VRl_append (VRl_append w1 i1) w2) h.tm (fun b => ?_) hK
    have l1 := VRl_length w1
    have l2 := VRl_length i1
    rw [e, toksL_append _ _ _ _ (by simp only [List.length_append]; omega), toksL_append _ _ _ _ l1, toksL_lend, toksL_lend, i2]
    simp
  · cases hk
/-- Each operation. -/
theorem step_sound0 {o : Oper} {op : POp} (hk : compOp0 P hint o = some op.k) (hd : op.dst = o.dst) (h : Rel out st H a w g) (hs : stepOp P op K st H) : o.wp P a w (After out w g K) QQ := by
  obtain ⟨pd, pg, k⟩ := op
  simp only at hk hd
  subst hd
  have pure_ : (∃ r, pev st H k = some r ∧ K (putSt (ptake st k) o.dst r) H) → o.wp P a w (After out w g K) QQ := fun ⟨r, h1, h2⟩ => step_pure (compOp_of hk) h h1 h2
  have hk0 := hk
  obtain ⟨d, op, ty, pos, af, gd⟩ := o
  cases op <;> simp only [compOp0] at hk
  case alloc elem =>
    obtain ⟨i, hi, hk⟩ := bind_spec hk
    obtain ⟨z, hz, hk⟩ := bind_spec hk
    obtain ⟨cs, hc, rfl⟩ := map_spec hk
    obtain ⟨z1, z2, z3⟩ := constCells_VR w g hc
    refine step_new (us := z.cells) (e := elem) (mk := fun b => .ptr (some (b, 0))) h h.tm z1 z2 (fun b => by rw [z3]; simp) (v := .pointer (some ⟨w.heap.size, 0, none⟩)) ?_ (fun _ _ => rfl) (by simp [toks]) hs
    unfold execOp
    refine run_v ?_
    simp only [Instr.alloc, zeroValue, typeInfo, Sem.run_bind, run_program, Result.andThen_ok, hi, hz, Sem.run_pure, newVar, newRow, run_newObj]
    rfl
  case box elem x =>
    obtain ⟨i, hi, hk⟩ := bind_spec hk
    obtain ⟨p, hp, rfl⟩ := map_spec hk
    cases hro : isRo hint d with
    | true => rw [hro] at hs; exact pure_ (by rw [hro]; exact hs)
    | false =>
    rw [hro] at hs
    obtain ⟨hall, hK⟩ := hs
    obtain ⟨y1, y2⟩ := VR_cells hall (argT_spec h.tm hp)
    obtain ⟨t1, t2⟩ := take_spec h.tm hp
    refine step_new (us := (a.eval x).cells) (e := elem) (mk := fun b => .ptr (some (b, 0))) h t1 y1 hall (fun b => by rw [y2]; exact t2 b) (v := .pointer (some ⟨w.heap.size, 0, none⟩)) ?_ (fun _ _ => rfl) (by simp [toks]) hK
    unfold execOp
    exact run_v rfl
  case buildSlice t len parts =>
    split at hk
    · rename_i e ht
      obtain ⟨i, hi, hk⟩ := bind_spec hk
      obtain ⟨dd, hdd, hk⟩ := bind_spec hk
      obtain ⟨z, hz, hk⟩ := bind_spec hk
      obtain ⟨zero, hzero, hk⟩ := bind_spec hk
      obtain ⟨⟨q1, q2, q3, q4⟩, hk⟩ := ite_spec hk
      obtain ⟨ps, hps, rfl⟩ := map_spec hk
      cases hl : isLit hint d with
      | true => rw [hl] at hs; exact pure_ (by rw [hl]; exact hs)
      | false =>
      rw [hl] at hs
      cases hr : isRow hint d with
      | false => rw [hr] at hs; exact pure_ (by rw [hl, hr]; exact hs)
      | true =>
        rw [hr] at hs
        obtain ⟨cs, h2, hK⟩ := hs
        obtain ⟨us, u1, u2, u3, u4, u5⟩ := bsl_run h ht hi hz hzero q1 q2 q3 hps h2
        refine step_new (us := us) (e := e) (mk := fun b => .row b 0 len len) h h.tm u3 u2 (fun b => by rw [u4]; simp) ?_ (fun _ _ => rfl) (by simp [toks]) hK
        unfold execOp
        exact run_v u1
    · cases hk
  case makeSlice t x y =>
    split at hk
    · rename_i e ht
      obtain ⟨i, hi, hk⟩ := bind_spec hk
      obtain ⟨dd, hdd, hk⟩ := bind_spec hk
      obtain ⟨z, hz, hk⟩ := bind_spec hk
      obtain ⟨zero, hzero, hk⟩ := bind_spec hk
      obtain ⟨⟨q1, q2, q3, q4⟩, hk⟩ := ite_spec hk
      obtain ⟨l, hl, hk⟩ := bind_spec hk
      obtain ⟨c, hc, rfl⟩ := map_spec hk
      cases hr : isRow hint d with
      | false => rw [hr] at hs; exact pure_ (by rw [hr]; exact hs)
      | true =>
        rw [hr] at hs
        obtain ⟨k1, ln, k2, cn, e1, e2, c1, c2, c3, hK⟩ := hs
        have hx := arg_spec h.tm hl
        have hy := arg_spec h.tm hc
        rw [e1] at hx
        rw [e2] at hy
        simp only [VR] at hx hy
        obtain ⟨z1, z2, z3⟩ := constCells_VR w g hzero
        have hzs : z.cells.size = i.size := by rw [← q1, ← VRl_length z1]; rfl
        obtain ⟨us, u1, u2⟩ := mk_run (P := P) (k1 := k1) (k2 := k2) ht hi hz hzs q2 q3 c1 c2 c3 w
        refine step_new (us := us) (e := e) (mk := fun b => .row b 0 ln.toNat cn.toNat) h h.tm (by rw [u1]; exact VRl_rep z1 _) (all_rep z2 _) (fun b => by rw [u1, toksL_rep (VRl_length z1) z3]; simp) ?_ (fun _ _ => rfl) (by simp [toks]) hK
        unfold execOp
        exact run_v (by rw [hx, hy]; exact u2)
    · cases hk
  case load t x =>
    obtain ⟨i, hi, hk⟩ := bind_spec hk
    obtain ⟨dd, hd, hk⟩ := bind_spec hk
    obtain ⟨h1, hk⟩ := ite_spec hk
    obtain ⟨p, hp, rfl⟩ := map_spec hk
    cases hr : isTake hint d with
    | true =>
      rw [hr] at hs
      exact step_loadT h hi hd h1 hp hs
    | false => rw [hr] at hs; exact pure_ (by rw [hr]; exact hs)
  case store t x y =>
    obtain ⟨i, hi, hk⟩ := bind_spec hk
    obtain ⟨p, hp, hk⟩ := bind_spec hk
    obtain ⟨q, hq, rfl⟩ := map_spec hk
    exact step_store h hi hp hq hs
  case call c =>
    obtain ⟨callee, args, ts⟩ := c
    exact step_call_op h hk0 hs
  case move x => obtain ⟨p, hp, rfl⟩ := map_spec hk; exact pure_ hs
  case assign x => obtain ⟨p, hp, rfl⟩ := map_spec hk; exact pure_ hs
  case pick c x y =>
    obtain ⟨c', hc, hk⟩ := bind_spec hk
    obtain ⟨x', hx, hk⟩ := bind_spec hk
    obtain ⟨y', hy, rfl⟩ := map_spec hk
    exact pure_ hs
  case build t parts =>
    split at hk
    · obtain ⟨i, hi, hk⟩ := bind_spec hk
      obtain ⟨z, hz, hk⟩ := bind_spec hk
      obtain ⟨zero, hzero, hk⟩ := bind_spec hk
      obtain ⟨hall, hk⟩ := ite_spec hk
      obtain ⟨ps, hps, rfl⟩ := map_spec hk
      exact pure_ hs
    · cases hk
  case nilCheck x => obtain ⟨p, hp, rfl⟩ := map_spec hk; exact pure_ hs
  case binOp op t x y yt =>
    unfold compBin at hk
    split at hk
    · obtain ⟨p, hp, hk⟩ := bind_spec hk
      obtain ⟨q, hq, rfl⟩ := map_spec hk
      exact pure_ hs
    · obtain ⟨p, hp, hk⟩ := bind_spec hk
      obtain ⟨q, hq, rfl⟩ := map_spec hk
      exact pure_ hs
    · obtain ⟨p, hp, hk⟩ := bind_spec hk
      obtain ⟨q, hq, hk⟩ := bind_spec hk
      split at hk
      · cases hk; exact pure_ hs
      · cases hk; exact pure_ hs
      · cases hk
    · rename_i e ht
      obtain ⟨hn, hk⟩ := ite_spec hk
      obtain ⟨p, hp, hk⟩ := bind_spec hk
      split at hk
      · cases hk
        exact step_eqN (ne := false) ht hn hp h hs
      · cases hk
        exact step_eqN (ne := true) ht hn hp h hs
      · cases hk
    · obtain ⟨_, hk⟩ := ite_spec hk
      obtain ⟨ks, hks, hk⟩ := bind_spec hk
      obtain ⟨p, hp, hk⟩ := bind_spec hk
      obtain ⟨q, hq, hk⟩ := bind_spec hk
      split at hk
      · cases hk; exact pure_ hs
      · cases hk; exact pure_ hs
      · cases hk
    · cases hk
  case unOp op t x => obtain ⟨p, hp, rfl⟩ := map_spec hk; exact pure_ hs
  case convert src dst x =>
    unfold compConv at hk
    split at hk
    · obtain ⟨p, hp, rfl⟩ := map_spec hk; exact pure_ hs
    · obtain ⟨p, hp, rfl⟩ := map_spec hk; exact pure_ hs
    · split at hk
      · obtain ⟨p, hp, rfl⟩ := map_spec hk; exact pure_ hs
      · cases hk
    · split at hk
      · obtain ⟨p, hp, rfl⟩ := map_spec hk; exact pure_ hs
      · cases hk
    · obtain ⟨_, hk⟩ := ite_spec hk
      split at hk
      · obtain ⟨p, hp, rfl⟩ := map_spec hk; exact pure_ hs
      · cases hk
    · cases hk
  case makeFunc fn first cap =>
    obtain ⟨f, hf, hk⟩ := bind_spec hk
    obtain ⟨c, hc, rfl⟩ := map_spec hk
    exact pure_ hs
  case slice t x lo hi mx =>
    unfold compSlice at hk
    split at hk
    · obtain ⟨i, hi', hk⟩ := bind_spec hk
      obtain ⟨p, hp, hk⟩ := bind_spec hk
      obtain ⟨lo', hlo, hk⟩ := bind_spec hk
      obtain ⟨hi2, hhi, hk⟩ := bind_spec hk
      obtain ⟨mx', hmx, rfl⟩ := map_spec hk
      exact pure_ hs
    · split at hk
      · cases hk
      · obtain ⟨p, hp, hk⟩ := bind_spec hk
        obtain ⟨lo', hlo, hk⟩ := bind_spec hk
        obtain ⟨hi2, hhi, rfl⟩ := map_spec hk
        exact pure_ hs
    · cases hk
  case fieldAddr s x f =>
    split at hk
    · obtain ⟨f, hf, hk⟩ := bind_spec hk
      obtain ⟨i, hi, hk⟩ := bind_spec hk
      obtain ⟨h0, hk⟩ := ite_spec hk
      obtain ⟨p, hp, rfl⟩ := map_spec hk
      exact pure_ hs
    · cases hk
  case field s x f =>
    split at hk
    · obtain ⟨f, hf, hk⟩ := bind_spec hk
      obtain ⟨i, hi, hk⟩ := bind_spec hk
      obtain ⟨dd, hd, hk⟩ := bind_spec hk
      obtain ⟨h0, hk⟩ := ite_spec hk
      obtain ⟨p, hp, rfl⟩ := map_spec hk
      exact pure_ hs
    · cases hk
  case indexAddr t x ix =>
    split at hk
    · obtain ⟨i, hi, hk⟩ := bind_spec hk
      obtain ⟨p, hp, hk⟩ := bind_spec hk
      obtain ⟨q, hq, rfl⟩ := map_spec hk
      exact pure_ hs
    · cases hk
  case index t x ix =>
    split at hk
    · obtain ⟨p, hp, hk⟩ := bind_spec hk
      obtain ⟨q, hq, rfl⟩ := map_spec hk
      exact pure_ hs
    · cases hk
  case extract x i => obtain ⟨p, hp, rfl⟩ := map_spec hk; exact pure_ hs
  all_goals cases hk
theorem step_sound {o : Oper} {op : POp} (hk : compOp P hint o = some op.k) (hd : op.dst = o.dst) (h : Rel out st H a w g) (hs : stepOp P op K st H) : o.wp P a w (After out w g K) QQ := by
  rcases compOp_or hk with hk | hk
  · exact step_sound0 hk hd h hs
  · obtain ⟨pd, pg, k⟩ := op
    simp only at hk
    subst hk
    obtain ⟨r, hr, _⟩ := hs
    cases hr
end
end Go.Proofs.Ytkjibelcaeanjaa.E
