/- A logic of plain values over the model's walk, part 2. -/
import Derived.Below
import Derived.ChangeArms
import Derived.ChangeSlices
import Derived.DataElems
import Derived.OrdersIn
import Derived.RangeFuncLeaves
import Derived.RangeFuncRecord
import Derived.SizedLaws
import Derived.WideShapes
import Derived.Test.YtjcjbpbkakfjdaaDoorL1
/- A logic of plain values, part 18: each operation, and a region whose order is the text's. -/
namespace Go.Proofs.YtjcjbpbkakfjdaaDoor.E
open Go Go.RowKit
set_option linter.unusedVariables false
set_option linter.unusedSimpArgs false
variable {dq : List Deferred}
section
variable {P : Program} {hint : Hint} {k : PK} {out : List Nat} {st : List PV} {H : Heap} {a : Act} {w : World} {g : Ghost} {r : PV} {d : Option Tmp} {ty : TypeId} {pos : String} {af : Array Edge} {gd : Option (Nat × Bool)} {K : List PV → Heap → Prop} {QQ : Exit → Act → World → Prop}
theorem run_resolve_fn (ρ : Operand → Value) (args : Array Operand) (ts : Array TypeId) (ty : TypeId) (f : Operand) {n : Nat} {first cap : Array Value} (hf : ρ f = .func (.func n) first cap) (w : World) :
    (do let d ← resolve ρ ⟨.value f, args, ts⟩ ty; invoke d.target d.args : Sem Next).run P w = (callFunc n (first ++ args.map ρ ++ cap)).run P w := by
  simp only [resolve, hf, Deferred.ofValue, Sem.run_bind, Sem.run_pure, Result.andThen_ok, invoke]
theorem step_eqN {ne : Bool} {t e : TypeId} {x y : Operand} {p : Arg} {yt : TypeId} (ht : P.underlying t = some (.slice e)) (hn : isNil y = true) (hp : compArg x = some p) (h : Rel dq out st H a w g)
    (hs : ∃ s xs o, arg st p = .lst s xs o ∧ (xs ≠ [] → K (putSt st d (.bool ne)) H) ∧ (xs = [] → ∀ b, K (putSt st d (.bool b)) H)) :
    (Oper.mk d (.binOp (cond ne .neq .eql) t x y yt) ty pos af gd).wp P a w (After dq out w g K) QQ := by
  obtain ⟨s, xs, o, h1, h2, h3⟩ := hs
  have hx := arg_spec h.tm hp
  rw [h1] at hx
  obtain ⟨A, cap, hA, _, _, hR, _⟩ := hx
  unfold isNil at hn
  split at hn
  · rename_i l2 c2
    have hg : ∀ op X Y, (eqGuard op t X Y (.slice A xs.length cap) (.slice none l2 c2)).run P w = .ok () w := fun op X Y => by
      unfold eqGuard
      split <;> rfl
    have he : ∀ n, (Op.equalIn (n + 1) t (.slice A xs.length cap) (.slice none l2 c2)).run P w = .ok A.isNone w := fun n => by
      cases A <;> simp [Op.equalIn, run_underlying ht]
    have he2 : (Op.equal t (.slice A xs.length cap) (.slice none l2 c2)).run P w = .ok A.isNone w := he 9999
    have hrun : (execOp a.eval (Oper.mk d (.binOp (cond ne .neq .eql) t x (.const (.slice none l2 c2)) yt) ty pos af gd)).run P w = .ok (.value (.bool (if ne then !A.isNone else A.isNone))) w := by
      unfold execOp
      refine run_v ?_
      show (do eqGuard _ t _ _ (a.eval x) (.slice none l2 c2); binOp _ t (a.eval x) (.slice none l2 c2) : Sem Value).run P w = _
      rw [hA]
      have b1 : (binOp .eql t (.slice A xs.length cap) (.slice none l2 c2)).run P w = .ok (.bool A.isNone) w := by
        show (do pure (.bool (← Op.equal t (.slice A xs.length cap) (.slice none l2 c2))) : Sem Value).run P w = _
        rw [Sem.run_bind, he2]
        rfl
      have b2 : (binOp .neq t (.slice A xs.length cap) (.slice none l2 c2)).run P w = .ok (.bool (!A.isNone)) w := by
        show (do pure (.bool !(← Op.equal t (.slice A xs.length cap) (.slice none l2 c2))) : Sem Value).run P w = _
        rw [Sem.run_bind, he2]
        rfl
      cases ne
      · rw [Sem.run_bind, hg, Result.andThen_ok]
        exact b1
      · rw [Sem.run_bind, hg, Result.andThen_ok]
        exact b2
    have key : K (putSt st d (.bool (if ne then !A.isNone else A.isNone))) H := by
      by_cases hxs : xs = []
      · exact h3 hxs _
      · rcases hR with hR | ⟨b, off, vs, rfl, _⟩
        · exact absurd hR hxs
        · have := h2 hxs
          cases ne <;> simpa using this
    have hst : Step [] w g w g (.bool (if ne then !A.isNone else A.isNone)) (.bool (if ne then !A.isNone else A.isNone)) := Step.same h.wr rfl rfl
    obtain ⟨k1, k2⟩ := step_rel (d := d) h h.tm (fun b => by simp) hst
    exact step_value hrun ⟨_, H, g, key, k1, k2⟩
  · cases hn
theorem hset_same : ∀ {H : Heap} {b : Nat} {cs : List PV}, hget H b = some cs → hset H b cs = H
  | (c, ds) :: H, b, cs, h => by
    simp only [hget] at h
    simp only [hset]
    split at h
    · rename_i e
      cases h
      rw [if_pos e]
    · rename_i e
      rw [if_neg e, hset_same h]
theorem VRe_flat {w : World} {g : Ghost} {sz : Nat} : ∀ {xs : List PV} {vs : List Value}, VRe w g sz xs vs → VRl false w g (xs.flatMap cellsOf) vs ∧ (xs.flatMap cellsOf).all PV.isCell = true
  | [], vs, h => by
    have : vs = [] := h
    subst this
    exact ⟨rfl, rfl⟩
  | x :: xs, vs, h => by
    obtain ⟨us, vs', rfl, h1, h2⟩ := VRe_cons.1 h
    obtain ⟨c1, c2, c3⟩ := VRc_cells h1
    obtain ⟨i1, i2⟩ := VRe_flat h2
    refine ⟨?_, ?_⟩
    · rw [List.flatMap_cons]; exact VRl_append c3 i1
    · rw [List.flatMap_cons, List.all_append, c1, i2]; rfl
theorem cellsY_spec {w : World} {g : Ghost} {H : Heap} {sz : Nat} {p : PV} {v : Value} {ys : List PV} {m : Nat} (h : cellsY sz H p = some (ys, m)) (hH : HRel w g H) (hv : VR false w g p v) :
    ∃ news : List Value, news.length = m * sz ∧ VRl true w g ys news ∧ toksL ys news = [] ∧ ys.all PV.isCell = true ∧ (∀ w', (Builtin.lenOf v).run P w' = .ok m w') ∧
      ∀ k, k ≤ m → ∀ w' : World, w'.heap = w.heap → (Builtin.firstCells sz k v).run P w' = .ok (news.take (k * sz)).toArray w' := by
  unfold cellsY at h
  split at h
  · rename_i s ys0 own
    obtain ⟨hs, h⟩ := ite_spec h
    cases h
    have hv0 := hv
    obtain ⟨A, cap, rfl, _⟩ := hv
    obtain ⟨vs, o1, o2, o3, o4, o5⟩ := VR_lst_cells (P := P) hv0 hs
    obtain ⟨f1, f2⟩ := VRe_flat o2
    refine ⟨vs, o1, VRl_lend _ _ f1, toksL_lend _ _, by rw [all_lendL]; exact f2, fun w' => rfl, fun k hk w' hw' => ?_⟩
    rcases o5 with o5 | ⟨b, off, rfl, hR⟩
    · subst o5
      have hk0 : k = 0 := by simpa using hk
      subst hk0
      cases A with
      | none => simp [Builtin.firstCells]
      | some a => simp [Builtin.firstCells, loadCells, loadCellsFrom]
    · have hkl : k * sz ≤ ys0.length * sz := Nat.mul_le_mul_right _ hk
      refine run_firstCells_some w' sz k _ _ _ (vs.take (k * sz)) (by rw [List.length_take]; omega) (fun j v hj => ?_)
      rw [addr_add]
      rw [List.getElem?_take] at hj
      split at hj
      · have := hR.cell hj
        unfold World.cell? at this ⊢
        rw [hw']
        exact this
      · cases hj
  · rename_i b off len cap
    obtain ⟨cs, hb, h⟩ := bind_spec h
    obtain ⟨hl, h⟩ := ite_spec h
    cases h
    simp only [VR] at hv
    subst hv
    obtain ⟨_, hall, c, e, hc, hcv⟩ := hH.mut_of_get hb
    have hcl := VRl_length hcv
    have hmid : VRl true w g ((cs.drop off).take (m * sz)) ((c.toList.drop off).take (m * sz)) := (VRl_take (m * sz) (VRl_take off hcv).2).1
    refine ⟨(c.toList.drop off).take (m * sz), by rw [List.length_take, List.length_drop]; omega, VRl_lend _ _ (VRl_weak _ _ hmid), toksL_lend _ _, by rw [all_lendL]; exact all_drop_take hall _ _, fun w' => rfl, fun k hk w' hw' => ?_⟩
    have hkl : k * sz ≤ m * sz := Nat.mul_le_mul_right _ hk
    refine run_firstCells_some w' sz k _ _ _ _ (by rw [List.length_take, List.length_take, List.length_drop]; omega) (fun j v hj => ?_)
    rw [addr_add]
    rw [List.take_take, Nat.min_eq_left hkl, List.getElem?_take] at hj
    split at hj
    · rw [List.getElem?_drop] at hj
      unfold World.cell?
      rw [hw']
      simp only [hc, Option.isSome_none, Bool.false_eq_true, if_false]
      simpa using hj
    · cases hj
  · rename_i t
    obtain ⟨hs, h⟩ := ite_spec h
    cases h
    subst hs
    obtain ⟨b, rfl, rfl⟩ := hv
    have hlen : (bytesOf b).length = b.size := bytesOf_length b
    refine ⟨b.data.toList.map fun c => .int .u8 c.toNat, by simp [hlen], ?_, ?_, ?_, fun w' => by rw [hlen]; rfl, fun k hk w' hw' => ?_⟩
    · have := VRe_map_int (w := w) (g := g) b.data.toList
      have h2 : ∀ l : List UInt8, VRl true w g ((l.map fun c => (c.toNat : Int)).map (PV.int .u8)) (l.map fun c => Value.int .u8 c.toNat) := by
        intro l
        induction l with
        | nil => rfl
        | cons c l ih => exact ⟨_, _, rfl, rfl, ih⟩
      exact h2 _
    · have h2 : ∀ (l : List Int) (vs : List Value), toksL (l.map (PV.int .u8)) vs = [] := by
        intro l
        induction l with
        | nil => intro vs; simp [toksL]
        | cons c l ih =>
          intro vs
          cases vs with
          | nil => simp [toksL]
          | cons v vs => simp [toksL, toks, ih]
      exact h2 _ _
    · simp [PV.isCell]
    · simp only [Builtin.firstCells, Sem.run_pure]
      congr 1
      apply Array.toList_inj.1
      simp [List.map_take]
  · cases h
theorem store_put {out : List Nat} {st : List PV} {H : Heap} {a : Act} {w : World} {g : Ghost} {d : Option Nat} {v : Value} {r : PV} (h : Rel dq out (putSt st d .unit) H (a.put d v) w g) (hl : st.length = a.tmps.size) (hr : VR true w g r v) (ht : toks r v = []) :
    Rel dq out (putSt st d r) H (a.put d v) w g := by
  cases d with
  | none => exact h
  | some i =>
    have e : (putSt st (some i) r) = (putSt st (some i) .unit).set i r := by simp [putSt]
    have hs : (a.put (some i) v).tmps.toList = ((a.put (some i) v).tmps.toList).set i v := by simp [Act.put]
    refine ⟨h.wr, h.hp, ?_, fun b => ?_, h.df⟩
    · rw [e, hs]; exact VRl_set i h.tm hr
    · have h0 := h.un b
      suffices (toksL (putSt st (some i) r) (a.put (some i) v).tmps.toList).count b ≤ (toksL (putSt st (some i) .unit) (a.put (some i) v).tmps.toList).count b by omega
      by_cases hi : i < st.length
      · have q1 : (putSt st (some i) .unit)[i]? = some .unit := by simp [putSt, hi]
        have q2 : ((a.put (some i) v).tmps.toList)[i]? = some v := by
          simp only [Act.put, Array.toList_setIfInBounds]
          rw [List.getElem?_set_self (by rw [Array.length_toList, ← hl]; exact hi)]
        have := count_toksL_set b (putSt st (some i) .unit) (a.put (some i) v).tmps.toList i r .unit v v q1 q2
        rw [← e, ← hs, ht] at this
        simp only [List.count_nil] at this
        omega
      · have : putSt st (some i) r = putSt st (some i) .unit := by simp only [putSt]; rw [List.set_eq_of_length_le (by omega), List.set_eq_of_length_le (by omega)]
        rw [this]
        exact Nat.le_refl _
theorem over_rel {out : List Nat} {st : List PV} {H : Heap} {a : Act} {w : World} {g : Ghost} {b off : Nat} {cs ys : List PV} {c : Array Value} {e : TypeId} {us : List Value} {d : Option Nat} {v : Value} {r : PV}
    (h : Rel dq out st H a w g) (hg : hget H b = some cs) (hc : w.heap[b]? = some (.cells c e (0, 0))) (hcv : VRl true w g cs c.toList) (hall0 : cs.all PV.isCell = true)
    (hle : off + ys.length ≤ cs.length) (hys : VRl true w g ys us) (htk : toksL ys us = []) (hall : ys.all PV.isCell = true) (hr : ∀ w', VR true w' g r v) (ht : toks r v = []) :
    Rel dq out (putSt st d r) (hset H b (cs.take off ++ ys ++ cs.drop (off + ys.length))) (a.put d v) (w.setRow b (c.toList.take off ++ us ++ c.toList.drop (off + us.length)).toArray) g ∧
      Evol out w g (w.setRow b (c.toList.take off ++ us ++ c.toList.drop (off + us.length)).toArray) g := by
  have hcl := VRl_length hcv
  have hyl := VRl_length hys
  have hds : VRl true w g (cs.take off ++ ys ++ cs.drop (off + ys.length)) (c.toList.take off ++ us ++ c.toList.drop (off + us.length)) := by
    rw [hyl]
    exact VRl_append (VRl_append (VRl_take off hcv).1 hys) (VRl_take (off + ys.length) hcv).2
  have hall2 : (cs.take off ++ ys ++ cs.drop (off + ys.length)).all PV.isCell = true := by
    rw [List.all_append, List.all_append, hall]
    have := all_drop_take hall0 0 off
    rw [List.drop_zero] at this
    rw [this]
    have := all_drop_take hall0 (off + ys.length) cs.length
    rw [List.take_of_length_le (by rw [List.length_drop]; omega)] at this
    rw [this]
    rfl
  obtain ⟨k1, k2⟩ := store_rel (d := d) (v := v) h h.tm hg hc hcv (c' := (c.toList.take off ++ us ++ c.toList.drop (off + us.length)).toArray) (by simpa using hds) hall2 (fun x => by
    have h3 := toksL_three x hcl hle
    have h4 : (toksL (cs.take off ++ ys ++ cs.drop (off + ys.length)) (c.toList.take off ++ us ++ c.toList.drop (off + us.length))).count x = (toksL (cs.take off) (c.toList.take off)).count x + (toksL (cs.drop (off + ys.length)) (c.toList.drop (off + ys.length))).count x := by
      rw [toksL_append _ _ _ _ (by simp only [List.length_append, List.length_take]; omega), toksL_append _ _ _ _ (by simp only [List.length_take]; omega), htk, hyl]
      simp only [List.append_nil, List.count_append]
    have h5 : (c.toList.take off ++ us ++ c.toList.drop (off + us.length)).toArray.toList = c.toList.take off ++ us ++ c.toList.drop (off + us.length) := by simp
    rw [h5, h4]
    omega) rfl
  exact ⟨store_put k1 (by have := VRl_length h.tm; rw [← this]; rfl) (hr _) ht, k2⟩
theorem step_over {o : Oper} {K : List PV → Heap → Prop} {QQ : Exit → Act → World → Prop} {b off : Nat} {cs ys : List PV} {us : List Value} {v : Value} {r : PV}
    (h : Rel dq out st H a w g) (hg : hget H b = some cs) (hle : off + ys.length ≤ cs.length) (hys : VRl true w g ys us) (htk : toksL ys us = []) (hall : ys.all PV.isCell = true) (hr : ∀ w', VR true w' g r v) (ht : toks r v = [])
    (hrun : ∀ c e, w.heap[b]? = some (.cells c e (0, 0)) → c.toList.length = cs.length → (storeCells ⟨b, off, none⟩ us).run P w = .ok () (w.setRow b (c.toList.take off ++ us ++ c.toList.drop (off + us.length)).toArray) →
      (execOp a.eval o).run P w = .ok (.value v) (w.setRow b (c.toList.take off ++ us ++ c.toList.drop (off + us.length)).toArray))
    (hK : K (putSt st o.dst r) (hset H b (cs.take off ++ ys ++ cs.drop (off + ys.length)))) : o.wp P a w (After dq out w g K) QQ := by
  obtain ⟨_, hall0, c, e, hc, hcv⟩ := h.hp.mut_of_get hg
  obtain ⟨k1, k2⟩ := over_rel (d := o.dst) h hg hc hcv hall0 hle hys htk hall hr ht
  have hcl := VRl_length hcv
  have hyl := VRl_length hys
  have hcs : c.toList.length = c.size := rfl
  have hst := run_storeCells_at P b off e us 0 c w hc (by omega) (VRl_oneCell hall hys)
  rw [Nat.add_zero] at hst
  exact step_value (hrun c e hc hcl hst) ⟨_, _, _, hK, k1, k2⟩
theorem row_eval (h : VRl true w g st a.tmps.toList) {x : Operand} {p : Arg} (hp : compArg x = some p) {b off n cap : Nat} (e : arg st p = .row b off n cap) : a.eval x = .slice (some ⟨b, off, none⟩) n cap := by
  have := arg_spec h hp
  rw [e] at this
  exact this
theorem step_cpy {t e : TypeId} {x y : Operand} {p q : Arg} {i : TypeInfo} {t2 : TypeId} {K : List PV → Heap → Prop} {QQ : Exit → Act → World → Prop} (h : Rel dq out st H a w g) (ht : P.underlying t = some (.slice e)) (hi : P.info? e = some i)
    (hp : compArg x = some p) (hq : compArg y = some q) (hs : stepOp P ⟨d, none, .cpy i.size p q⟩ K st H) {args : Array Operand} {tys : Array TypeId} (ha : args.toList = [x, y]) (htys : tys.toList = [t, t2]) :
    (Oper.mk d (.call ⟨.builtin .copy, args, tys⟩) ty pos af gd).wp P a w (After dq out w g K) QQ := by
  obtain ⟨b, off, n, cap, cs, ys, m, e1, e2, e3, e4, hK⟩ := hs
  obtain rfl := toList_two ha
  obtain rfl := toList_two htys
  have hx := row_eval h.tm hp e1
  obtain ⟨news, n1, n2, n3, n4, n5, n6⟩ := cellsY_spec (P := P) e4 h.hp (VR_weak _ _ (arg_spec h.tm hq))
  have hyl := VRl_length n2
  have hmin : min m n * i.size ≤ m * i.size := Nat.mul_le_mul_right _ (Nat.min_le_left _ _)
  have hmin2 : min m n * i.size ≤ n * i.size := Nat.mul_le_mul_right _ (Nat.min_le_right _ _)
  have hlt : (ys.take (min m n * i.size)).length = min m n * i.size := by rw [List.length_take]; omega
  have htoks : toksL (ys.take (min m n * i.size)) (news.take (min m n * i.size)) = [] := by
    have : toksL (ys.take (min m n * i.size) ++ ys.drop (min m n * i.size)) (news.take (min m n * i.size) ++ news.drop (min m n * i.size)) = [] := by rw [List.take_append_drop, List.take_append_drop]; exact n3
    rw [toksL_append _ _ _ _ (by simp only [List.length_take]; omega)] at this
    exact (List.append_eq_nil_iff.1 this).1
  refine step_over (ys := ys.take (min m n * i.size)) (us := news.take (min m n * i.size)) (off := off) (r := .int .i64 (min m n : Nat)) (v := .int .i64 (min m n : Nat)) h e2 (by omega) (VRl_take _ n2).1 htoks ?_ (fun _ => rfl) (by simp [toks]) ?_ (by rw [hlt]; exact hK)
  · have := all_drop_take n4 0 (min m n * i.size)
    rwa [List.drop_zero] at this
  · intro c e' hc hcl hst
    unfold execOp
    refine run_v (z := .int .i64 (min m n : Nat)) ?_
    have h6 := n6 (min m n) (Nat.min_le_left _ _) w rfl
    have e5 : (Nat.min m n) = min m n := rfl
    simp only [execOp, resolve, invoke, builtin, Sem.run_bind, Sem.run_pure, Result.andThen_ok, List.map_toArray, List.map_cons, List.map_nil, Builtin.copy_, run_underlying ht, run_sizeOf hi, hx, n5, e5, h6, hst, goInt, List.getElem?_toArray, List.getElem?_cons_zero, List.getElem?_cons_succ]
theorem step_clr {t e : TypeId} {x : Operand} {p : Arg} {i : TypeInfo} {z : Value} {zero : List PV} {K : List PV → Heap → Prop} {QQ : Exit → Act → World → Prop} (h : Rel dq out st H a w g) (ht : P.underlying t = some (.slice e)) (hi : P.info? e = some i) (hz : i.zero = some z)
    (hzero : constCells z.cells.toList = some zero) (hzs : z.cells.size = i.size) (h0 : 0 < i.size)
    (hp : compArg x = some p) (hs : stepOp P ⟨d, none, .clr i.size zero p⟩ K st H) {args : Array Operand} {tys : Array TypeId} (ha : args.toList = [x]) (htys : tys.toList = [t]) :
    (Oper.mk d (.call ⟨.builtin .clear, args, tys⟩) ty pos af gd).wp P a w (After dq out w g K) QQ := by
  obtain ⟨b, off, n, cap, cs, e1, e2, e3, hK⟩ := hs
  obtain rfl := toList_one ha
  obtain rfl := toList_one htys
  have hx := row_eval h.tm hp e1
  obtain ⟨z1, z2, z3⟩ := constCells_VR w g hzero
  have hzl : zero.length = i.size := by rw [← hzs, ← VRl_length z1]; rfl
  have hl : (repCells n zero).length = n * i.size := by rw [length_rep, hzl]
  have hrep := rep_cells z.cells (by omega) n
  refine step_over (ys := repCells n zero) (us := (List.replicate n z.cells.toList).flatten) (off := off) (r := .unit) (v := .tuple #[]) h e2 (by omega) (VRl_rep z1 n) (toksL_rep (VRl_length z1) z3 n) (all_rep z2 n) (fun _ => trivial) (by simp [toks]) ?_ (by rw [hl]; exact hK)
  intro c e' hc hcl hst
  have hzv : (zeroValue e).run P w = .ok z w := by simp only [zeroValue, typeInfo, Sem.run_bind, run_program, Result.andThen_ok, hi, hz, Sem.run_pure]
  by_cases hn : n = 0
  · subst hn
    have hsame : w.setRow b (c.toList.take off ++ ([] : List Value) ++ c.toList.drop (off + 0)).toArray = w := by
      have e6 : (c.toList.take off ++ ([] : List Value) ++ c.toList.drop (off + 0)).toArray = c := by simp
      rw [e6]
      unfold World.setRow
      congr 1
      apply Array.ext_getElem?
      intro k
      rw [Array.getElem?_modify]
      by_cases hk : b = k
      · subst hk; rw [if_pos rfl, hc]; rfl
      · rw [if_neg hk]
    simp only [List.replicate_zero, List.flatten_nil, List.length_nil] at hst ⊢
    rw [hsame]
    simp only [execOp, resolve, invoke, builtin, Sem.run_bind, Sem.run_pure, Result.andThen_ok, List.map_toArray, List.map_cons, List.map_nil, Builtin.clear_, run_underlying ht, hx, List.getElem?_toArray, List.getElem?_cons_zero]
  · obtain ⟨k, rfl⟩ := Nat.exists_eq_succ_of_ne_zero hn
    have hz3 : (Builtin.zeroCells z.cells (k + 1)).toList = (List.replicate (k + 1) z.cells.toList).flatten := hrep
    simp only [execOp, resolve, invoke, builtin, Sem.run_bind, Sem.run_pure, Result.andThen_ok, List.map_toArray, List.map_cons, List.map_nil, Builtin.clear_, run_underlying ht, hx, hzv, hz3, hst, List.getElem?_toArray, List.getElem?_cons_zero]
theorem step_cap {t e : TypeId} {x : Operand} {p : Arg} {K : List PV → Heap → Prop} {QQ : Exit → Act → World → Prop} (h : Rel dq out st H a w g) (ht : P.underlying t = some (.slice e))
    (hp : compArg x = some p) (hs : stepOp P ⟨d, none, .cap p⟩ K st H) {args : Array Operand} {tys : Array TypeId} (ha : args.toList = [x]) (htys : tys.toList = [t]) :
    (Oper.mk d (.call ⟨.builtin .cap, args, tys⟩) ty pos af gd).wp P a w (After dq out w g K) QQ := by
  obtain rfl := toList_one ha
  obtain rfl := toList_one htys
  have hx := arg_spec h.tm hp
  have key : ∃ A l c, a.eval x = .slice A l c ∧ K (putSt st d (.int .i64 (c : Nat))) H := by
    rcases hs with ⟨b, off, n, c, e1, hK⟩ | ⟨s, xs, o, e1, hK⟩
    · rw [e1] at hx
      exact ⟨_, _, c, hx, hK⟩
    · rw [e1] at hx
      obtain ⟨A, cap, h1, h2, h3, _⟩ := hx
      exact ⟨A, _, cap, h1, hK cap h2 h3⟩
  obtain ⟨A, l, c, hx2, hK⟩ := key
  have hst : Step [] w g w g (.int .i64 (c : Nat)) (.int .i64 (c : Nat)) := Step.same h.wr rfl rfl
  obtain ⟨k1, k2⟩ := step_rel (d := d) h h.tm (fun b => by simp) hst
  refine step_value (v := .int .i64 (c : Nat)) ?_ ⟨_, H, g, hK, k1, k2⟩
  simp only [execOp, resolve, invoke, builtin, Sem.run_bind, Sem.run_pure, Result.andThen_ok, List.map_toArray, List.map_cons, List.map_nil, Builtin.cap_, run_underlying ht, hx2, List.getElem?_toArray, List.getElem?_cons_zero, goInt]
theorem step_appR {t tx e : TypeId} {dx : TypeDesc} {x y : Operand} {p q : Arg} {i : TypeInfo} {z : Value} {zero : List PV} {K : List PV → Heap → Prop} {QQ : Exit → Act → World → Prop} (h : Rel dq out st H a w g) (ht : P.underlying t = some (.slice e)) (htx : P.underlying tx = some dx)
    (hdx : dx = .string ∨ ∃ e2, dx = .slice e2) (hi : P.info? e = some i) (hz : i.zero = some z) (hzero : constCells z.cells.toList = some zero) (hzs : z.cells.size = i.size) (h0 : 0 < i.size) (hby : 1 ≤ i.bytes)
    (hp : compArg x = some p) (hq : compArg y = some q) (hs : stepOp P ⟨d, none, .appR i.size i.bytes zero p q⟩ K st H) {args : Array Operand} {tys : Array TypeId} (ha : args.toList = [x, y]) (htys : tys.toList = [t, tx]) :
    (Oper.mk d (.call ⟨.builtin .append, args, tys⟩) ty pos af gd).wp P a w (After dq out w g K) QQ := by
  obtain ⟨b, n, cap, cs, ys, m, e1, e2, e3, e4, e5, e6, e7, hK1, hK2⟩ := hs
  obtain rfl := toList_two ha
  obtain rfl := toList_two htys
  have hx := row_eval h.tm hp e1
  obtain ⟨hmut, hall0, c, e', hc, hcv⟩ := h.hp.mut_of_get e2
  have hcl := VRl_length hcv
  have hcs : c.toList.length = c.size := rfl
  obtain ⟨news, n1, n2, n3, n4, n5, n6⟩ := cellsY_spec (P := P) e6 h.hp (VR_weak _ _ (arg_spec h.tm hq))
  have hyl := VRl_length n2
  have hn : n * i.size ≤ cap * i.size := Nat.mul_le_mul_right _ e4
  have h63 : n + m ≤ maxLen := by
    have : (n + m) * 1 ≤ (n + m) * i.bytes := Nat.mul_le_mul_left _ hby
    simp only [maxLen]
    omega
  have hnews : ∀ w' : World, w'.heap = w.heap → (Builtin.firstCells i.size m (a.eval y)).run P w' = .ok news.toArray w' := fun w' hw' => by
    have := n6 m (Nat.le_refl _) w' hw'
    rwa [List.take_of_length_le (by omega)] at this
  obtain ⟨v', w', hrun, hways⟩ := append_ways (P := P) (ty := ty) ht htx hdx hi hz hzs w (some ⟨b, 0, none⟩) n cap m (a.eval y) (c.toList.take (n * i.size)) news n1 (by rw [List.length_take]; omega) n5 hnews
    (fun w' hw' => run_firstCells_some w' i.size n _ _ _ _ (by rw [List.length_take]; omega) (fun j v hj => by
      rw [addr_add]
      rw [List.getElem?_take] at hj
      split at hj
      · unfold World.cell?
        rw [hw']
        simp only [hc, Option.isSome_none, Bool.false_eq_true, if_false]
        simpa using hj
      · cases hj)) (VRl_oneCell n4 n2) e4 e5 h63 e7 (fun _ => ⟨b, c, e', rfl, hc, by omega⟩)
  have hexec : (execOp a.eval (Oper.mk d (.call ⟨.builtin .append, #[x, y], #[t, tx]⟩) ty pos af gd)).run P w = .ok (.value v') w' := by
    simp only [execOp, resolve, invoke, builtin, Sem.run_bind, Sem.run_pure, Result.andThen_ok, List.map_toArray, List.map_cons, List.map_nil, hx, hrun]
  rcases hways with ⟨rfl, rfl, rfl⟩ | ⟨hm0, hroom, b2, c2, e2', hA, hc2, hsz, rfl, rfl⟩ | ⟨cap', rest, hc1, hc2, hrest, rfl, rfl, hgt, rfl⟩
  · have hst : Step [] w' g w' g (.row b 0 n cap) (.slice (some ⟨b, 0, none⟩) n cap) := Step.same h.wr rfl (by simp [toks])
    obtain ⟨k1, k2⟩ := step_rel (d := d) h h.tm (fun b => by simp) hst
    have hK := hK1 (by omega)
    have e8 : hset H b (cs.take (n * i.size) ++ ys ++ cs.drop ((n + 0) * i.size)) = H := by
      have : ys = [] := List.eq_nil_of_length_eq_zero (by omega)
      subst this
      rw [Nat.add_zero, List.append_nil, List.take_append_drop]
      exact hset_same e2
    rw [e8] at hK
    exact step_value hexec ⟨_, H, g, hK, k1, k2⟩
  · simp only [Option.some.injEq, Addr.mk.injEq, and_true] at hA
    subst hA
    rw [hc] at hc2
    cases hc2
    have e9 : (n + m) * i.size = n * i.size + ys.length := by rw [Nat.add_mul]; omega
    have e10 : n * i.size + news.length = n * i.size + ys.length := by omega
    have hle2 : (n + m) * i.size ≤ cap * i.size := Nat.mul_le_mul_right _ hroom
    have hK := hK1 hroom
    rw [e9] at hK
    obtain ⟨k1, k2⟩ := over_rel (off := n * i.size) (d := d) (v := .slice (some ⟨b, 0, none⟩) (n + m) cap) (r := .row b 0 (n + m) cap) h e2 hc hcv hall0 (by omega) n2 n3 n4 (fun _ => rfl) (by simp [toks])
    exact step_value hexec ⟨_, _, g, hK, k1, k2⟩
  · obtain ⟨z1, z2, z3⟩ := constCells_VR w g hzero
    have hrep := rep_cells z.cells (by omega) (cap' - (n + m))
    have holds : VRl true w g (lendL (cs.take (n * i.size))) (c.toList.take (n * i.size)) := VRl_lend _ _ (VRl_weak _ _ (VRl_take (n * i.size) hcv).1)
    have hus : (((c.toList.take (n * i.size)).toArray ++ news.toArray ++ Builtin.zeroCells z.cells (cap' - (n + m)) : Array Value)).toList = c.toList.take (n * i.size) ++ news ++ (List.replicate (cap' - (n + m)) z.cells.toList).flatten := by
      rw [Array.toList_append, Array.toList_append]
      have : (Builtin.zeroCells z.cells (cap' - (n + m))).toList = (List.replicate (cap' - (n + m)) z.cells.toList).flatten := hrep
      rw [this]
    have hv : VRl true w g (lendL (cs.take (n * i.size)) ++ ys ++ repCells (cap' - (n + m)) zero) (((c.toList.take (n * i.size)).toArray ++ news.toArray ++ Builtin.zeroCells z.cells (cap' - (n + m)) : Array Value)).toList := by
      rw [hus]
      exact VRl_append (VRl_append holds n2) (VRl_rep z1 _)
    have htk : toksL (lendL (cs.take (n * i.size)) ++ ys ++ repCells (cap' - (n + m)) zero) (((c.toList.take (n * i.size)).toArray ++ news.toArray ++ Builtin.zeroCells z.cells (cap' - (n + m)) : Array Value)).toList = [] := by
      have l1 := VRl_length holds
      rw [hus, toksL_append _ _ _ _ (by simp only [List.length_append]; omega), toksL_append _ _ _ _ l1, toksL_lend, n3, toksL_rep (VRl_length z1) z3]
      rfl
    have hall : (lendL (cs.take (n * i.size)) ++ ys ++ repCells (cap' - (n + m)) zero).all PV.isCell = true := by
      have := all_drop_take hall0 0 (n * i.size)
      rw [List.drop_zero] at this
      rw [List.all_append, List.all_append, all_lendL, this, n4, all_rep z2]
      rfl
    obtain ⟨k1, k2⟩ := alloc_rel (d := d) (v := .slice (some ⟨w.heap.size, 0, none⟩) (n + m) cap') (r := .row w.heap.size 0 (n + m) cap') (e := e) h h.tm hv hall (fun b => by rw [htk]; simp) (w1 := w.drew.alloc (.cells ((c.toList.take (n * i.size)).toArray ++ news.toArray ++ Builtin.zeroCells z.cells (cap' - (n + m))) e)) rfl rfl rfl rfl (fun _ _ => rfl) (by simp [toks])
    refine step_value hexec ⟨_, _, _, hK2 hgt _ cap' ?_ hc1 hc2, k1, k2⟩
    cases hh : hget H w.heap.size with
    | none => rfl
    | some q => exact absurd (HRel.lt h.wr h.hp hh) (Nat.lt_irrefl _)
theorem step_row {b : Builtin} {args : Array Operand} {ts : Array TypeId} (hr : compRow P hint d b ts.toList args.toList = some k) (h : Rel dq out st H a w g) {K : List PV → Heap → Prop} {QQ : Exit → Act → World → Prop} (hs : stepOp P ⟨d, none, k⟩ K st H) :
    (Oper.mk d (.call ⟨.builtin b, args, ts⟩) ty pos af gd).wp P a w (After dq out w g K) QQ := by
  unfold compRow at hr
  split at hr
  · rename_i hts hargs
    split at hr
    · split at hr
      · rename_i ht htx
        obtain ⟨i, hi, hr⟩ := bind_spec hr
        obtain ⟨z, hz, hr⟩ := bind_spec hr
        obtain ⟨zero, hzero, hr⟩ := bind_spec hr
        obtain ⟨⟨c1, c2, c3, c4⟩, hr⟩ := ite_spec hr
        obtain ⟨p, hp, hr⟩ := bind_spec hr
        obtain ⟨q, hq, rfl⟩ := map_spec hr
        refine step_appR h ht htx ?_ hi hz hzero c1 c2 c3 hp hq hs hargs hts
        split at c4
        · exact .inl rfl
        · exact .inr ⟨_, rfl⟩
        · cases c4
      · cases hr
    · cases hr
  · rename_i hts hargs
    split at hr
    · rename_i ht
      obtain ⟨i, hi, hr⟩ := bind_spec hr
      obtain ⟨h0, hr⟩ := ite_spec hr
      obtain ⟨p, hp, hr⟩ := bind_spec hr
      obtain ⟨q, hq, rfl⟩ := map_spec hr
      exact step_cpy h ht hi hp hq hs hargs hts
    · cases hr
  · rename_i hts hargs
    split at hr
    · rename_i ht
      obtain ⟨i, hi, hr⟩ := bind_spec hr
      obtain ⟨z, hz, hr⟩ := bind_spec hr
      obtain ⟨zero, hzero, hr⟩ := bind_spec hr
      obtain ⟨⟨c1, c2⟩, hr⟩ := ite_spec hr
      obtain ⟨p, hp, rfl⟩ := map_spec hr
      exact step_clr h ht hi hz hzero c1 c2 hp hs hargs hts
    · cases hr
  · rename_i hts hargs
    split at hr
    · rename_i ht
      obtain ⟨p, hp, rfl⟩ := map_spec hr
      exact step_cap h ht hp hs hargs hts
    · cases hr
  · cases hr
theorem step_call_op (h : Rel dq out st H a w g) {callee : Callee} {args : Array Operand} {ts : Array TypeId} (hk : compOp0 P hint ⟨d, .call ⟨callee, args, ts⟩, ty, pos, af, gd⟩ = some k) (hs : stepOp P ⟨d, none, k⟩ K st H) :
    (Oper.mk d (.call ⟨callee, args, ts⟩) ty pos af gd).wp P a w (After dq out w g K) QQ := by
  have hk0 := compOp_of hk
  simp only [compOp0] at hk
  split at hk
  · -- a builtin is pure
    rename_i b
    split at hk
    · rename_i hr
      cases hk
      exact step_row hr h hs
    have : ∃ r, pev st H k = some r ∧ K (putSt (ptake st k) d r) H := by
      unfold compBuiltin at hk
      split at hk
      · split at hk
        · obtain ⟨i, hi, hk⟩ := bind_spec hk
          obtain ⟨z, hz, hk⟩ := bind_spec hk
          obtain ⟨_, hk⟩ := ite_spec hk
          obtain ⟨p, hp, hk⟩ := bind_spec hk
          obtain ⟨q, hq, rfl⟩ := map_spec hk
          exact hs
        · cases hk
      · split at hk
        · obtain ⟨p, hp, rfl⟩ := map_spec hk; exact hs
        · obtain ⟨p, hp, rfl⟩ := map_spec hk; exact hs
        · cases hk
      · obtain ⟨p, hp, hk⟩ := bind_spec hk
        obtain ⟨q, hq, rfl⟩ := map_spec hk
        exact hs
      · obtain ⟨p, hp, hk⟩ := bind_spec hk
        obtain ⟨q, hq, rfl⟩ := map_spec hk
        exact hs
      · cases hk
    obtain ⟨r, hr, hK⟩ := this
    exact step_pure hk0 h hr hK
  · rename_i f
    obtain ⟨as, has, rfl⟩ := map_spec hk
    obtain ⟨Q, hS, hK⟩ := hs
    obtain ⟨i1, i2, i3⟩ := callArgs_spec (takesOf hint f) has h.tm
    have e : (#[] ++ args.map a.eval ++ #[] : Array Value).toList = args.toList.map a.eval := by simp
    exact step_call (vals := #[] ++ args.map a.eval ++ #[]) h hS (by unfold execOp; exact run_resolve_fn _ _ _ _ _ rfl w) (by rw [e]; exact i1) i2 (fun b => by rw [e]; exact i3 b) hK
  · rename_i f hb
    obtain ⟨fx, hfx, hk⟩ := bind_spec hk
    obtain ⟨as, has, rfl⟩ := map_spec hk
    obtain ⟨n, first, cap, Q, hfe, hS, hK⟩ := hs
    have hv := arg_spec h.tm hfx
    rw [hfe] at hv
    obtain ⟨fs, cs, hv, v1, v2⟩ := hv
    obtain ⟨i1, i2⟩ := args_spec h.tm has
    have w1 : VRl true w g (lendL first) fs.toList := VRl_lend _ _ v1
    have w2 : VRl true w g (lendL cap) cs.toList := VRl_lend _ _ v2
    have e : (fs ++ args.map a.eval ++ cs : Array Value).toList = fs.toList ++ args.toList.map a.eval ++ cs.toList := by simp
    refine step_call (vals := fs ++ args.map a.eval ++ cs) h hS (by unfold execOp; exact run_resolve_fn _ _ _ _ _ hv w) (by rw [e]; exact VRl_append (VRl_append w1 i1) w2) h.tm (fun b => ?_) hK
    have l1 := VRl_length w1
    have l2 := VRl_length i1
    rw [e, toksL_append _ _ _ _ (by simp only [List.length_append]; omega), toksL_append _ _ _ _ l1, toksL_lend, toksL_lend, i2]
    simp
  · cases hk
theorem step_sound0 {o : Oper} {op : POp} (hk : compOp0 P hint o = some op.k) (hd : op.dst = o.dst) (h : Rel dq out st H a w g) (hs : stepOp P op K st H) : o.wp P a w (After dq out w g K) QQ := by
  obtain ⟨pd, pg, k⟩ := op
  simp only at hk hd
  subst hd
  have pure_ : (∃ r, pev st H k = some r ∧ K (putSt (ptake st k) o.dst r) H) → o.wp P a w (After dq out w g K) QQ := fun ⟨r, h1, h2⟩ => step_pure (compOp_of hk) h h1 h2
  have hk0 := hk
  obtain ⟨d, op, ty, pos, af, gd⟩ := o
  cases op <;> simp only [compOp0] at hk
  case alloc elem =>
    obtain ⟨i, hi, hk⟩ := bind_spec hk
    obtain ⟨z, hz, hk⟩ := bind_spec hk
    obtain ⟨cs, hc, rfl⟩ := map_spec hk
    obtain ⟨z1, z2, z3⟩ := constCells_VR w g hc
    refine step_new (us := z.cells) (e := elem) (mk := fun b => .ptr (some (b, 0))) h h.tm z1 z2 (fun b => by rw [z3]; simp) (v := .pointer (some ⟨w.heap.size, 0, none⟩)) ?_ (fun _ _ => rfl) (by simp [toks]) hs
    unfold execOp
    refine run_v ?_
    simp only [Instr.alloc, zeroValue, typeInfo, Sem.run_bind, run_program, Result.andThen_ok, hi, hz, Sem.run_pure, newVar, newRow, run_newObj]
    rfl
  case box elem x =>
    obtain ⟨i, hi, hk⟩ := bind_spec hk
    obtain ⟨p, hp, rfl⟩ := map_spec hk
    cases hro : isRo hint d with
    | true => rw [hro] at hs; exact pure_ (by rw [hro]; exact hs)
    | false =>
    rw [hro] at hs
    obtain ⟨hall, hK⟩ := hs
    obtain ⟨y1, y2⟩ := VR_cells hall (argT_spec h.tm hp)
    obtain ⟨t1, t2⟩ := take_spec h.tm hp
    refine step_new (us := (a.eval x).cells) (e := elem) (mk := fun b => .ptr (some (b, 0))) h t1 y1 hall (fun b => by rw [y2]; exact t2 b) (v := .pointer (some ⟨w.heap.size, 0, none⟩)) ?_ (fun _ _ => rfl) (by simp [toks]) hK
    unfold execOp
    exact run_v rfl
  case buildSlice t len parts =>
    split at hk
    · rename_i e ht
      obtain ⟨i, hi, hk⟩ := bind_spec hk
      obtain ⟨dd, hdd, hk⟩ := bind_spec hk
      obtain ⟨z, hz, hk⟩ := bind_spec hk
      obtain ⟨zero, hzero, hk⟩ := bind_spec hk
      obtain ⟨⟨q1, q2, q3, q4⟩, hk⟩ := ite_spec hk
      obtain ⟨ps, hps, rfl⟩ := map_spec hk
      cases hl : isLit hint d with
      | true => rw [hl] at hs; exact pure_ (by rw [hl]; exact hs)
      | false =>
      rw [hl] at hs
      cases hr : isRow hint d with
      | false => rw [hr] at hs; exact pure_ (by rw [hl, hr]; exact hs)
      | true =>
        rw [hr] at hs
        obtain ⟨cs, h2, hK⟩ := hs
        obtain ⟨us, u1, u2, u3, u4, u5⟩ := bsl_run h ht hi hz hzero q1 q2 q3 hps h2
        refine step_new (us := us) (e := e) (mk := fun b => .row b 0 len len) h h.tm u3 u2 (fun b => by rw [u4]; simp) ?_ (fun _ _ => rfl) (by simp [toks]) hK
        unfold execOp
        exact run_v u1
    · cases hk
  case makeSlice t x y =>
    split at hk
    · rename_i e ht
      obtain ⟨i, hi, hk⟩ := bind_spec hk
      obtain ⟨dd, hdd, hk⟩ := bind_spec hk
      obtain ⟨z, hz, hk⟩ := bind_spec hk
      obtain ⟨zero, hzero, hk⟩ := bind_spec hk
      obtain ⟨⟨q1, q2, q3, q4⟩, hk⟩ := ite_spec hk
      obtain ⟨l, hl, hk⟩ := bind_spec hk
      obtain ⟨c, hc, rfl⟩ := map_spec hk
      cases hr : isRow hint d with
      | false => rw [hr] at hs; exact pure_ (by rw [hr]; exact hs)
      | true =>
        rw [hr] at hs
        obtain ⟨k1, ln, k2, cn, e1, e2, c1, c2, c3, hK⟩ := hs
        have hx := arg_spec h.tm hl
        have hy := arg_spec h.tm hc
        rw [e1] at hx
        rw [e2] at hy
        simp only [VR] at hx hy
        obtain ⟨z1, z2, z3⟩ := constCells_VR w g hzero
        have hzs : z.cells.size = i.size := by rw [← q1, ← VRl_length z1]; rfl
        obtain ⟨us, u1, u2⟩ := mk_run (P := P) (k1 := k1) (k2 := k2) ht hi hz hzs q2 q3 c1 c2 c3 w
        refine step_new (us := us) (e := e) (mk := fun b => .row b 0 ln.toNat cn.toNat) h h.tm (by rw [u1]; exact VRl_rep z1 _) (all_rep z2 _) (fun b => by rw [u1, toksL_rep (VRl_length z1) z3]; simp) ?_ (fun _ _ => rfl) (by simp [toks]) hK
        unfold execOp
        exact run_v (by rw [hx, hy]; exact u2)
    · cases hk
  case load t x =>
    obtain ⟨i, hi, hk⟩ := bind_spec hk
    obtain ⟨dd, hd, hk⟩ := bind_spec hk
    obtain ⟨h1, hk⟩ := ite_spec hk
    obtain ⟨p, hp, rfl⟩ := map_spec hk
    cases hr : isTake hint d with
    | true =>
      rw [hr] at hs
      exact step_loadT h hi hd h1 hp hs
    | false => rw [hr] at hs; exact pure_ (by rw [hr]; exact hs)
  case store t x y =>
    obtain ⟨i, hi, hk⟩ := bind_spec hk
    obtain ⟨p, hp, hk⟩ := bind_spec hk
    obtain ⟨q, hq, rfl⟩ := map_spec hk
    exact step_store h hi hp hq hs
  case call c =>
    obtain ⟨callee, args, ts⟩ := c
    exact step_call_op h hk0 hs
  case move x => obtain ⟨p, hp, rfl⟩ := map_spec hk; exact pure_ hs
  case assign x => obtain ⟨p, hp, rfl⟩ := map_spec hk; exact pure_ hs
  case pick c x y =>
    obtain ⟨c', hc, hk⟩ := bind_spec hk
    obtain ⟨x', hx, hk⟩ := bind_spec hk
    obtain ⟨y', hy, rfl⟩ := map_spec hk
    exact pure_ hs
  case build t parts =>
    split at hk
    · obtain ⟨i, hi, hk⟩ := bind_spec hk
      obtain ⟨z, hz, hk⟩ := bind_spec hk
      obtain ⟨zero, hzero, hk⟩ := bind_spec hk
      obtain ⟨hall, hk⟩ := ite_spec hk
      obtain ⟨ps, hps, rfl⟩ := map_spec hk
      exact pure_ (by revert hs; cases isTake hint d <;> exact fun hs => hs)
    · cases hk
  case nilCheck x => obtain ⟨p, hp, rfl⟩ := map_spec hk; exact pure_ hs
  case binOp op t x y yt =>
    unfold compBin at hk
    split at hk
    · obtain ⟨p, hp, hk⟩ := bind_spec hk
      obtain ⟨q, hq, rfl⟩ := map_spec hk
      exact pure_ hs
    · obtain ⟨p, hp, hk⟩ := bind_spec hk
      obtain ⟨q, hq, rfl⟩ := map_spec hk
      exact pure_ hs
    · obtain ⟨p, hp, hk⟩ := bind_spec hk
      obtain ⟨q, hq, hk⟩ := bind_spec hk
      split at hk
      · cases hk; exact pure_ hs
      · cases hk; exact pure_ hs
      · cases hk
    · rename_i e ht
      obtain ⟨hn, hk⟩ := ite_spec hk
      obtain ⟨p, hp, hk⟩ := bind_spec hk
      split at hk
      · cases hk
        exact step_eqN (ne := false) ht hn hp h hs
      · cases hk
        exact step_eqN (ne := true) ht hn hp h hs
      · cases hk
    · obtain ⟨_, hk⟩ := ite_spec hk
      obtain ⟨ks, hks, hk⟩ := bind_spec hk
      obtain ⟨p, hp, hk⟩ := bind_spec hk
      obtain ⟨q, hq, hk⟩ := bind_spec hk
      split at hk
      · cases hk; exact pure_ hs
      · cases hk; exact pure_ hs
      · cases hk
    · cases hk
  case unOp op t x => obtain ⟨p, hp, rfl⟩ := map_spec hk; exact pure_ hs
  case convert src dst x =>
    unfold compConv at hk
    split at hk
    · obtain ⟨p, hp, rfl⟩ := map_spec hk; exact pure_ hs
    · obtain ⟨p, hp, rfl⟩ := map_spec hk; exact pure_ hs
    · split at hk
      · obtain ⟨p, hp, rfl⟩ := map_spec hk; exact pure_ hs
      · cases hk
    · split at hk
      · obtain ⟨p, hp, rfl⟩ := map_spec hk; exact pure_ hs
      · cases hk
    · obtain ⟨_, hk⟩ := ite_spec hk
      split at hk
      · obtain ⟨p, hp, rfl⟩ := map_spec hk; exact pure_ hs
      · cases hk
    · cases hk
  case makeFunc fn first cap =>
    obtain ⟨f, hf, hk⟩ := bind_spec hk
    obtain ⟨c, hc, rfl⟩ := map_spec hk
    exact pure_ hs
  case slice t x lo hi mx =>
    unfold compSlice at hk
    split at hk
    · obtain ⟨i, hi', hk⟩ := bind_spec hk
      obtain ⟨p, hp, hk⟩ := bind_spec hk
      obtain ⟨lo', hlo, hk⟩ := bind_spec hk
      obtain ⟨hi2, hhi, hk⟩ := bind_spec hk
      obtain ⟨mx', hmx, rfl⟩ := map_spec hk
      exact pure_ hs
    · split at hk
      · cases hk
      · obtain ⟨p, hp, hk⟩ := bind_spec hk
        obtain ⟨lo', hlo, hk⟩ := bind_spec hk
        obtain ⟨hi2, hhi, rfl⟩ := map_spec hk
        exact pure_ hs
    · cases hk
  case fieldAddr s x f =>
    split at hk
    · obtain ⟨f, hf, hk⟩ := bind_spec hk
      obtain ⟨i, hi, hk⟩ := bind_spec hk
      obtain ⟨h0, hk⟩ := ite_spec hk
      obtain ⟨p, hp, rfl⟩ := map_spec hk
      exact pure_ hs
    · cases hk
  case field s x f =>
    split at hk
    · obtain ⟨f, hf, hk⟩ := bind_spec hk
      obtain ⟨i, hi, hk⟩ := bind_spec hk
      obtain ⟨dd, hd, hk⟩ := bind_spec hk
      obtain ⟨h0, hk⟩ := ite_spec hk
      obtain ⟨p, hp, rfl⟩ := map_spec hk
      exact pure_ hs
    · cases hk
  case indexAddr t x ix =>
    split at hk
    · obtain ⟨i, hi, hk⟩ := bind_spec hk
      obtain ⟨p, hp, hk⟩ := bind_spec hk
      obtain ⟨q, hq, rfl⟩ := map_spec hk
      exact pure_ hs
    · cases hk
  case index t x ix =>
    split at hk
    · obtain ⟨p, hp, hk⟩ := bind_spec hk
      obtain ⟨q, hq, rfl⟩ := map_spec hk
      exact pure_ hs
    · cases hk
  case extract x i => obtain ⟨p, hp, rfl⟩ := map_spec hk; exact pure_ hs
  all_goals cases hk
theorem step_sound {o : Oper} {op : POp} (hk : compOp P hint o = some op.k) (hd : op.dst = o.dst) (h : Rel dq out st H a w g) (hs : stepOp P op K st H) : o.wp P a w (After dq out w g K) QQ := by
  rcases compOp_or hk with hk | hk
  · exact step_sound0 hk hd h hs
  · obtain ⟨pd, pg, k⟩ := op
    simp only at hk
    subst hk
    obtain ⟨r, hr, _⟩ := hs
    cases hr
end
end Go.Proofs.YtjcjbpbkakfjdaaDoor.E
/- A logic of plain values, part 19: regions in the text's order, and the flow of control. -/
namespace Go.Proofs.YtjcjbpbkakfjdaaDoor.E
open Go Go.RowKit
set_option linter.unusedVariables false
set_option linter.unusedSimpArgs false
variable {dq : List Deferred}
def compGd (all : Array Oper) : Option (Nat × Bool) → Option (Option (Nat × Bool))
  | none => some none
  | some (j, want) => ((all[j]?).bind (·.dst)).map fun t => some (t, want)
def takenDsts (h : Hint) (ops : List Oper) : List Nat := ops.flatMap fun o => match o.op with
  | .assign (.tmp t) | .store _ _ (.tmp t) | .box _ (.tmp t) | .extract (.tmp t) _ => [t]
  | .call c => match c.callee, c.args.toList with
    | .builtin .append, .tmp t :: _ => [t]
    | .value (.func f), as => (as.zip (takesOf h f)).filterMap fun | (.tmp t, true) => some t | _ => none
    | _, _ => []
  | _ => []
def litDsts (ops : List Oper) : List Nat := ops.filterMap fun o => match o.op with
  | .convert s d (.tmp t) => if s = d then some t else none
  | _ => none
def extDsts (P : Program) (ops : List Oper) : List Nat := (ops.foldl (fun acc o => match o.op, o.dst with
  | .extract (.tmp t) _, some d => (match P.underlying o.type with
    | some (.slice _) => if acc.1.contains t then acc else (t :: acc.1, d :: acc.2)
    | some (.struct _) => if acc.1.contains t then acc else (t :: acc.1, d :: acc.2)
    | _ => acc)
  | _, _ => acc) (([], []) : List Nat × List Nat)).2
def rh (P : Program) (h : Hint) (all : Array Oper) : Hint := { h with mvs := takenDsts h all.toList, lits := litDsts all.toList, exts := extDsts P all.toList }
def compOps (P : Program) (h : Hint) (all : Array Oper) : List Oper → Option (List POp)
  | [] => some []
  | o :: os => (compOp P (rh P h all) o).bind fun k => (compGd all o.guard).bind fun gd => (compOps P h all os).map (⟨o.dst, gd, k⟩ :: ·)
def gval : PV → Option (Option Bool)
  | .bool b => some (some b)
  | .tup [] => some none
  | _ => none
def runOps (P : Program) : List POp → (List PV → Heap → Prop) → List PV → Heap → Prop
  | [], K, st, H => K st H
  | op :: ops, K, st, H =>
    match op.gd with
    | none => stepOp P op (runOps P ops K) st H
    | some (t, want) => ∃ b, gval (st.getD t .unit) = some b ∧ (if b = some want then stepOp P op (runOps P ops K) st H else runOps P ops K (putSt st op.dst (.tup [])) H)
section
variable {P : Program} {hint : Hint} {out : List Nat} {st : List PV} {H : Heap} {a : Act} {w : World} {g : Ghost} {K : List PV → Heap → Prop}
theorem slot_bool (h : VRl true w g st a.tmps.toList) {t : Nat} {b : Bool} (hb : st.getD t .unit = .bool b) : a.tmps[t]? = some (.bool b) := by
  by_cases ht : t < st.length
  · obtain ⟨v, h1, h2⟩ := VRl_get h (List.getElem?_eq_getElem ht)
    have e1 : st.getD t .unit = st[t] := by simp [List.getD, List.getElem?_eq_getElem ht]
    rw [← e1, hb] at h2
    cases h2
    rw [← Array.getElem?_toList]
    exact h1
  · rw [List.getD, List.getElem?_eq_none (Nat.le_of_not_lt ht)] at hb
    cases hb
theorem slot_gval {all : Array Oper} {j : Nat} (h : VRl true w g st a.tmps.toList) {t : Nat} (ht : (all[j]?).bind (·.dst) = some t) {q : Option Bool} (hq : gval (st.getD t .unit) = some q) : yielded all a.tmps j = q := by
  unfold yielded
  rw [ht, Option.bind_some]
  unfold gval at hq
  split at hq
  · rename_i b hb
    cases hq
    rw [slot_bool h hb]
  · rename_i hb
    cases hq
    by_cases ht : t < st.length
    · obtain ⟨v, h1, h2⟩ := VRl_get h (List.getElem?_eq_getElem ht)
      have e1 : st.getD t .unit = st[t] := by simp [List.getD, List.getElem?_eq_getElem ht]
      rw [← e1, hb] at h2
      obtain ⟨vs, rfl, _⟩ := h2
      rw [← Array.getElem?_toList, h1]
    · rw [List.getD, List.getElem?_eq_none (Nat.le_of_not_lt ht)] at hb
      cases hb
  · cases hq
theorem wanted_spec {all : Array Oper} {o : Oper} {gd : Option (Nat × Bool)} (hg : compGd all o.guard = some gd) (h : VRl true w g st a.tmps.toList) :
    (gd = none → Region.wanted o (yielded all a.tmps) = true) ∧ ∀ t want b, gd = some (t, want) → gval (st.getD t .unit) = some b → Region.wanted o (yielded all a.tmps) = decide (b = some want) := by
  unfold compGd at hg
  split at hg
  · rename_i hn
    cases hg
    exact ⟨fun _ => by simp [Region.wanted, hn], fun t want b e => by cases e⟩
  · rename_i j want hn
    obtain ⟨t, ht, rfl⟩ := map_spec hg
    refine ⟨fun e => by simp at e, fun t' want' b e hb => ?_⟩
    simp only [Option.some.injEq, Prod.mk.injEq] at e
    obtain ⟨rfl, rfl⟩ := e
    simp only [Region.wanted, hn, slot_gval h ht hb]
    cases b with
    | none => simp
    | some b => cases b <;> cases want <;> rfl
theorem put_rel (h : Rel dq out st H a w g) (d : Option Nat) : Rel dq out (putSt st d (.tup [])) H (a.put d undef) w g := by
  refine ⟨h.wr, h.hp, VRl_put h.tm ⟨#[], rfl, rfl⟩, fun b => ?_, ?_⟩
  · have h2 := count_put_le b (d := d) (x := .tup []) (v := undef) h.tm
    have e3 : toks (.tup []) undef = [] := by simp [toks, undef, toksL]
    rw [e3, List.count_nil] at h2
    have := h.un b
    omega
  · have : (a.put d undef).defers = a.defers := by cases d <;> rfl
    rw [this]
    exact h.df
theorem ops_sound {all : Array Oper} {QQ : Exit → Act → World → Prop} : ∀ (n i : Nat) {pops : List POp} {st : List PV} {H : Heap} {a : Act} {w : World} {g : Ghost}, i + n = all.size → compOps P hint all (all.toList.drop i) = some pops → runOps P pops K st H → Rel dq out st H a w g →
    (∀ a' w', After dq out w g K a' w' → QQ .normal a' w') → wpOps P all QQ (List.range' i n) a w
  | 0, i, pops, st, H, a, w, g, hi, hc, hr, h, hQ => by
    have hd : all.toList.drop i = [] := List.drop_of_length_le (by show all.size ≤ i; omega)
    rw [hd] at hc
    cases hc
    exact hQ a w ⟨st, H, g, hr, h, Evol.refl _ _ _⟩
  | n + 1, i, pops, st, H, a, w, g, hi, hc, hr, h, hQ => by
    have hlt : i < all.size := by omega
    have hd : all.toList.drop i = all[i] :: all.toList.drop (i + 1) := by
      rw [List.drop_eq_getElem_cons (by exact hlt)]
      rfl
    rw [hd] at hc
    obtain ⟨k, hk, hc⟩ := bind_spec hc
    obtain ⟨gd, hgd, hc⟩ := bind_spec hc
    obtain ⟨ps, hps, rfl⟩ := map_spec hc
    have ho : all[i]? = some all[i] := Array.getElem?_eq_getElem hlt
    obtain ⟨w1, w2⟩ := wanted_spec hgd h.tm
    have go : ∀ a' w', After dq out w g (runOps P ps K) a' w' → wpOps P all QQ (List.range' (i + 1) n) a' w' := by
      rintro a' w' ⟨st', H', g', q1, q2, q3⟩
      exact ops_sound n (i + 1) (by omega) hps q1 q2 fun a2 w2 ⟨s2, H2, g2, r1, r2, r3⟩ => hQ a2 w2 ⟨s2, H2, g2, r1, r2, q3.trans r3⟩
    rw [show List.range' i (n + 1) = i :: List.range' (i + 1) n from rfl]
    simp only [wpOps, ho]
    have step : ∀ (hs : stepOp P ⟨all[i].dst, gd, k⟩ (runOps P ps K) st H), Region.wanted all[i] (yielded all a.tmps) = true →
        if Region.wanted all[i] (yielded all a.tmps) = true then all[i].wp P a w (wpOps P all QQ (List.range' (i + 1) n)) QQ ∨ all[i].asks P a w ∧ LetsOut QQ else wpOps P all QQ (List.range' (i + 1) n) (a.put all[i].dst undef) w := by
      intro hs hw
      rw [if_pos hw]
      exact .inl (Oper.wp_mono go (step_sound (op := ⟨all[i].dst, gd, k⟩) hk rfl h hs))
    unfold runOps at hr
    cases gd with
    | none => exact step hr (w1 rfl)
    | some p =>
      obtain ⟨t, want⟩ := p
      obtain ⟨b, hb, hr⟩ := hr
      have hw := w2 t want b rfl hb
      by_cases hbw : b = some want
      · rw [if_pos hbw] at hr
        exact step hr (by rw [hw]; simp [hbw])
      · rw [if_neg hbw] at hr
        rw [if_neg (by rw [hw]; simp [hbw])]
        exact go _ _ ⟨_, H, g, hr, put_rel h _, Evol.refl _ _ _⟩
end
inductive PCode where
  | skip
  | region (ops : List POp)
  | draw (ops : List POp) (late : List (Nat × Nat))
  | drawN (ops : List POp) (late : List (Nat × Nat)) (news : List (Nat × Nat × Nat × Nat))
  | seq (a b : PCode)
  | cond (c : Arg) (a b : PCode)
  | block (id : Nat) (b : PCode)
  | loop (b : PCode)
  | exit (id : Nat)
  | ret
  | rangeF (g : Arg) (ps : List Nat) (asg body : PCode)
  deriving Inhabited
inductive PExit where
  | normal
  | exit (id : Nat)
  | ret
def PExit.conv : PExit → Exit
  | .normal => .normal
  | .exit id => .exit id
  | .ret => .ret
abbrev PPost := PExit → List PV → Heap → Prop
def mark (D : Nat) : Deferred := { target := .collected D, args := #[] }
def Ds (w : World) (ds : List Deferred) (w' : World) (g' : Ghost) (ds' : List Deferred) : Prop :=
  ∃ M : List Nat, ds' = M.map mark ++ ds ∧ M.Nodup ∧ ∀ D ∈ M, w.heap.size ≤ D ∧ w'.heap[D]? = some (.deferred (some [])) ∧ g' D = .imm
theorem Ds.refl (w : World) (ds : List Deferred) (w' : World) (g' : Ghost) : Ds w ds w' g' ds := ⟨[], rfl, List.nodup_nil, fun d hd => by cases hd⟩
theorem Ds.low {out : List Nat} {w w1 w' : World} {g g1 g' : Ghost} {ds ds' : List Deferred} (h : Ds w1 ds w' g' ds') (hE : Evol out w g w1 g1) : Ds w ds w' g' ds' := by
  obtain ⟨M, h1, hn, h2⟩ := h
  exact ⟨M, h1, hn, fun D hd => ⟨Nat.le_trans hE.size (h2 D hd).1, (h2 D hd).2⟩⟩
theorem Ds.up {out : List Nat} {w w1 w' : World} {g1 g' : Ghost} {ds ds' : List Deferred} (h : Ds w ds w1 g1 ds') (hE : Evol out w1 g1 w' g') : Ds w ds w' g' ds' := by
  obtain ⟨M, h1, hn, h2⟩ := h
  refine ⟨M, h1, hn, fun D hd => ?_⟩
  obtain ⟨k2, k3, k4⟩ := h2 D hd
  obtain ⟨q1, q2⟩ := hE.imm D (lt_of_heap k3) k4
  exact ⟨k2, q1.trans k3, q2⟩
theorem Ds.trans {out out' : List Nat} {w w1 w' : World} {g g1 g' : Ghost} {ds ds1 ds' : List Deferred} (h : Ds w ds w1 g1 ds1) (hE : Evol out w g w1 g1) (hE' : Evol out' w1 g1 w' g') (k : Ds w1 ds1 w' g' ds') : Ds w ds w' g' ds' := by
  have hM : ∀ D, ∀ M : List Nat, (∀ D ∈ M, w.heap.size ≤ D ∧ w1.heap[D]? = some (.deferred (some [])) ∧ g1 D = .imm) → D ∈ M → D < w1.heap.size := fun D M hh hd => lt_of_heap (hh D hd).2.1
  obtain ⟨M1, e1, n1, h2⟩ := h
  have hb : ∀ D ∈ M1, D < w1.heap.size := fun D hd => hM D M1 h2 hd
  obtain ⟨M1', e1', _, h2'⟩ := Ds.up ⟨M1, e1, n1, h2⟩ hE'
  obtain ⟨M2, e2, n2, k2⟩ := k
  refine ⟨M2 ++ M1, by rw [e2, e1, List.map_append, List.append_assoc], ?_, fun D hd => ?_⟩
  · refine List.nodup_append.2 ⟨n2, n1, fun a ha b hb' e => ?_⟩
    have := (k2 a ha).1
    have := hb b hb'
    omega
  · rcases List.mem_append.1 hd with hd | hd
    · exact ⟨Nat.le_trans hE.size (k2 D hd).1, (k2 D hd).2⟩
    · obtain ⟨q1, q2, q3⟩ := h2 D hd
      obtain ⟨r1, r2⟩ := hE'.imm D (lt_of_heap q2) q3
      exact ⟨q1, r1.trans q2, r2⟩
def RelD (dq : List Deferred) (out : List Nat) (w : World) (st : List PV) (H : Heap) (a' : Act) (w' : World) (g' : Ghost) : Prop := ∃ dq', Rel dq' out st H a' w' g' ∧ Ds w dq w' g' dq'
theorem Rel.d {out : List Nat} {w0 w : World} {g : Ghost} {st : List PV} {H : Heap} {a : Act} (h : Rel dq out st H a w g) : RelD dq out w0 st H a w g := ⟨dq, h, Ds.refl _ _ _ _⟩
theorem RelD.low {out : List Nat} {w w1 w' : World} {g g1 g' : Ghost} {st : List PV} {H : Heap} {a : Act} (h : RelD dq out w1 st H a w' g') (hE : Evol out w g w1 g1) : RelD dq out w st H a w' g' := by
  obtain ⟨dq', h1, h2⟩ := h
  exact ⟨dq', h1, h2.low hE⟩
theorem RelD.after {out : List Nat} {w w1 w' : World} {g g1 g' : Ghost} {dq1 : List Deferred} {st : List PV} {H : Heap} {a : Act} (h : RelD dq1 out w1 st H a w' g') (hD : Ds w dq w1 g1 dq1) (hE : Evol out w g w1 g1) (hE' : Evol out w1 g1 w' g') : RelD dq out w st H a w' g' := by
  obtain ⟨dq', h1, h2⟩ := h
  exact ⟨dq', h1, hD.trans hE hE' h2⟩
def PostOf (dq : List Deferred) (out : List Nat) (w : World) (g : Ghost) (Q : PPost) (e : Exit) (a' : Act) (w' : World) : Prop :=
  ∃ pe st' H' g', e = PExit.conv pe ∧ Q pe st' H' ∧ RelD dq out w st' H' a' w' g' ∧ Evol out w g w' g'
theorem PostOf.trans {out : List Nat} {w w1 : World} {g g1 : Ghost} {Q : PPost} {e : Exit} {a' : Act} {w' : World} (hE : Evol out w g w1 g1) (h : PostOf dq out w1 g1 Q e a' w') : PostOf dq out w g Q e a' w' := by
  obtain ⟨pe, st', H', g', h1, h2, h3, h4⟩ := h
  exact ⟨pe, st', H', g', h1, h2, h3.low hE, hE.trans h4⟩
theorem PostOf.after {out : List Nat} {w w1 : World} {g g1 : Ghost} {dq1 : List Deferred} {Q : PPost} {e : Exit} {a' : Act} {w' : World} (hD : Ds w dq w1 g1 dq1) (hE : Evol out w g w1 g1) (h : PostOf dq1 out w1 g1 Q e a' w') : PostOf dq out w g Q e a' w' := by
  obtain ⟨pe, st', H', g', h1, h2, h3, h4⟩ := h
  exact ⟨pe, st', H', g', h1, h2, h3.after hD hE h4, hE.trans h4⟩
def thenP (K : List PV → Heap → Prop) (Q : PPost) : PPost
  | .normal, st, H => K st H
  | e, st, H => Q e st H
def inBlockP (id : Nat) (Q : PPost) : PPost
  | .exit id', st, H => if id' = id then Q .normal st H else Q (.exit id') st H
  | e, st, H => Q e st H
def WR (r : Option Nat) : Fence := { Fence.wide with round := r }
def isDefer (o : Oper) : Bool := match o.op with
  | .defer _ => true
  | _ => false
def plainOps (os : Array Oper) : Bool := os.toList.all fun o => !isDefer o
def noDef : Code → Bool
  | .region _ ops _ => plainOps ops
  | .seq a b => noDef a && noDef b
  | .cond _ a b => noDef a && noDef b
  | .block _ b => noDef b
  | .loop b => noDef b
  | .rangeFunc .. => false
  | _ => true
def RD (r : Option Nat) (b : Bool) : Prop := r = none ∨ b = true
theorem RD.and {r : Option Nat} {a b : Bool} (h : RD r (a && b)) : RD r a ∧ RD r b := by
  rcases h with h | h
  · exact ⟨.inl h, .inl h⟩
  · rw [Bool.and_eq_true] at h
    exact ⟨.inr h.1, .inr h.2⟩
section
variable {P : Program} {r : Option Nat} {Q : Exit → Act → World → Prop} {a : Act} {w : World}
theorem calls_WR {n f : Nat} {args : Array Value} {R : Ending → World → Prop} (h : Calls P f args w R) : CallsIn (WR r) n P f args w R := callsIn_wide.2 h
theorem rows_WR {n : Nat} {row : String} {args : Array Value} {R : Value → World → Prop} (h : Rows P row args w R) : RowsIn (WR r) n P row args w R := fun c cs _ => by
  obtain ⟨v, w', h1, h2⟩ := h c cs
  exact ⟨v, w', h1, stepsIn_wide.2 h2⟩
theorem toIn {o : Oper} {K : Act → World → Prop} (hd : RD r (!isDefer o)) (h : o.wp P a w K Q) : o.wpIn (WR r) 1 P a w K Q := by
  unfold Oper.wp at h
  unfold Oper.wpIn
  refine ⟨fun _ _ => trivial, ?_⟩
  have he : o.semAt (WR r).round a.eval = execOp a.eval o := by
    rcases hd with rfl | hd
    · rfl
    · refine Oper.semAt_eq _ _ _ fun c hc => ?_
      simp [isDefer, hc] at hd
  rw [he]
  generalize (execOp a.eval o).run P w = res at *
  cases res with
  | ok x w' =>
    cases x <;> simp only [Oper.upon, Oper.uponIn] at h ⊢ <;>
      first
        | exact h
        | exact ⟨fun h => by simp [WR, Fence.wide] at h, calls_WR h⟩
        | exact ⟨fun h => by simp [WR, Fence.wide] at h, rows_WR h⟩
        | exact h.elim
  | halt x w' => cases x <;> simp only [Oper.upon, Oper.uponIn] at h ⊢ <;> exact h
theorem opIn {os : Array Oper} (hq : ¬ LetsOut Q) (hd : RD r (plainOps os)) {K K' : Act → World → Prop} (hK : ∀ a w, K a w → K' a w) {i : Nat} (h : wpOp P os Q i K a w) : wpOpIn (WR r) 1 P os Q i K' a w := by
  unfold wpOp at h
  unfold wpOpIn
  cases ho : os[i]? with
  | none => rw [ho] at h; exact hK _ _ h
  | some o =>
    rw [ho] at h
    simp only at h ⊢
    have hdo : RD r (!isDefer o) := hd.imp id fun hd => List.all_eq_true.1 hd o (by
      obtain ⟨hlt, rfl⟩ := Array.getElem?_eq_some_iff.1 ho
      exact Array.getElem_mem_toList hlt)
    by_cases hw : Region.wanted o (yielded os a.tmps) = true
    · rw [if_pos hw] at h ⊢
      rcases h with h | h
      · exact Oper.wpIn_mono hK (toIn hdo h)
      · exact absurd h.2 hq
    · rw [if_neg hw] at h ⊢
      exact ⟨fun _ _ => trivial, hK _ _ h⟩
theorem opsIn {os : Array Oper} (hq : ¬ LetsOut Q) (hd : RD r (plainOps os)) : ∀ (l : List Nat) (a : Act) (w : World), wpOps P os Q l a w → wpOpsIn (WR r) 1 P os Q l a w
  | [], a, w, h => h
  | i :: l, a, w, h => by
    rw [wpOps_cons] at h
    rw [wpOpsIn_cons]
    exact opIn hq hd (opsIn hq hd l) h
theorem anyIn {os : Array Oper} {md : Region.Mode} (hq : ¬ LetsOut Q) (hd : RD r (plainOps os)) : ∀ (n : Nat) (ls : Array Bool) (a : Act) (w : World), wpAny P md os Q n ls a w → wpAnyIn (WR r) 1 P md os Q n ls a w
  | 0, ls, a, w, h => h
  | n + 1, ls, a, w, h => ⟨h.1, fun i hi => opIn hq hd (anyIn hq hd n _) (h.2 i hi)⟩
theorem reg_WR {id : Nat} {os : Array Oper} (hq : ¬ LetsOut Q) (hd : RD r (plainOps os)) (h : wpOps P os Q (List.range os.size) a w) : (Code.region id os false).wpIn (WR r) 1 P Q a w := wpIn_region (opsIn hq hd _ _ _ h)
theorem any_WR {id : Nat} {os : Array Oper} (hq : ¬ LetsOut Q) (hd : RD r (plainOps os)) (hm : P.follows .mixedOrders = true) (h : wpAny P .any os Q os.size (Array.replicate os.size false) a { w with drawn := w.drawn + 1 }) :
    (Code.region id os true).wpIn (WR r) 1 P Q a w := wpIn_region_any hm (anyIn hq hd _ _ _ _ h)
theorem postOf_in {out : List Nat} {g : Ghost} {Q : PPost} : ¬ LetsOut (PostOf dq out w g Q) := by
  rintro ⟨a', w', pe, st', H', g', h, _⟩
  cases pe <;> cases h
theorem loop_WR {F : Fence} {d : Nat} {c : Code} (I : Nat → Act → World → Prop) {n : Nat} (h₀ : I n a w)
    (round : ∀ n a w, I n a w → c.wpIn F d P (Exit.then (fun a' w' => ∃ m, m < n ∧ I m a' w') Q) a w) : (Code.loop c).wpIn F d P Q a w := by
  intro b k cs hro hb hr
  have key : ∀ n a w, I n a w → ∃ e a' w', Q e a' w' ∧ ArrivesIn (Machine.fenced P F) P (lone (b.atR a (.code c :: .inLoop c :: k)) cs w) b k cs e a' w' := by
    intro n
    induction n using Nat.strongRecOn with
    | _ n ih =>
      intro a w hI
      obtain ⟨e, a₁, w₁, hq, harr⟩ := round n a w hI b (.inLoop c :: k) cs hro hb hr
      cases e with
      | normal =>
        obtain ⟨m, hlt, hI₁⟩ := hq
        obtain ⟨e₂, a₂, w₂, hq₂, harr₂⟩ := ih m hlt a₁ w₁ hI₁
        exact ⟨e₂, a₂, w₂, hq₂, .of_steps (StepsIn.trans harr (.one (fenced_calm hb hr rfl) stepR_inLoop)) harr₂⟩
      | exit id => exact ⟨_, a₁, w₁, hq, .pass (x := .inLoop c) rfl (fun _ _ => .inl (by simp)) harr⟩
      | goto l => exact ⟨_, a₁, w₁, hq, .pass (x := .inLoop c) rfl (fun _ _ => .inl (by simp)) harr⟩
      | ret => exact ⟨_, a₁, w₁, hq, .pass (x := .inLoop c) rfl (fun _ _ => .inl (by simp)) harr⟩
      | panic ch => exact ⟨_, a₁, w₁, hq, .pass (x := .inLoop c) rfl (fun _ _ => .inl (by simp)) harr⟩
      | outgrown => exact ⟨_, a₁, w₁, hq, .pass (x := .inLoop c) rfl (fun _ _ => .inl (by simp)) harr⟩
  obtain ⟨e, a', w', hq, harr⟩ := key n a w h₀
  exact ⟨e, a', w', hq, .of_steps (.one (fenced_calm hb hr rfl) stepR_loop) harr⟩
end
end Go.Proofs.YtjcjbpbkakfjdaaDoor.E
/- A logic of plain values, part 21: what an operation hangs on, and what it touches. -/
namespace Go.Proofs.YtjcjbpbkakfjdaaDoor.E
open Go Go.RowKit
set_option linter.unusedVariables false
set_option linter.unusedSimpArgs false
def argsOf : PK → List Arg
  | .mv _ x | .un _ x | .cvI _ x | .cvS x | .cvB x | .idc x | .fld _ _ _ x | .fad _ x | .ld _ _ _ x | .len _ x | .bx _ x | .ext _ x _ | .nck x | .eqN _ x | .cvM x | .bxI _ x | .clr _ _ x | .cap x | .mvc _ x => [x]
  | .pick c a b => [c, a, b]
  | .bin _ x y | .binB _ x y | .eqS _ _ x y | .idx x y | .iad _ x y | .sto _ x y | .app _ _ x y | .mm _ x y | .mk _ _ _ _ x y _ | .appR _ _ _ x y | .cpy _ x y => [x, y]
  | .build _ ps => ps.map (·.2.2)
  | .bldT _ ps => ps.map (·.2.2)
  | .bsl _ _ _ _ ps _ => ps.map (·.2)
  | .sli _ x lo hi mx => x :: (lo.toList ++ hi.toList ++ mx.toList)
  | .sls x lo hi => x :: (lo.toList ++ hi.toList)
  | .nl _ _ _ _ ps => ps.map (·.2)
  | .al _ | .bad => []
  | .mkf _ f c => f ++ c
  | .callF _ as _ => as
  | .callV f as => f :: as
def obs (st : List PV) (n : Nat) : Option PV := if n % 2 = 0 then (st[n / 2]?).map lend else st[n / 2]?
def softs (l : List Arg) : List Nat := l.filterMap fun | .t i => some (2 * i) | .c _ => none
def hards (l : List Arg) : List Nat := l.filterMap fun | .t i => some (2 * i + 1) | .c _ => none
def takenArgs : List Arg → List Bool → List Arg
  | x :: xs, true :: tk => x :: takenArgs xs tk
  | _ :: xs, false :: tk => takenArgs xs tk
  | _, _ => []
def hardOf : PK → List Arg
  | .mv tk x => if tk then [x] else []
  | .app _ _ x _ => [x]
  | .ext tk x _ => if tk then [x] else []
  | .cvM x => [x]
  | .mvc _ x => [x]
  | .sto _ _ v => [v]
  | .callF _ as tk => takenArgs as tk
  | .bldT _ ps => takenArgs (ps.map (·.2.2)) (ps.map fun _ => true)
  | _ => []
def needs (k : PK) : List Nat := softs (argsOf k) ++ hards (hardOf k)
def readsOf (op : POp) : List Nat := needs op.k ++ (match op.gd with | some (t, _) => [2 * t + 1] | none => [])
def dstW (d : Option Nat) : List Nat := match d with | some i => [2 * i, 2 * i + 1] | none => []
def takenTmps (k : PK) : List Nat := hards (hardOf k)
def writesOf (op : POp) : List Nat := dstW op.dst ++ takenTmps op.k
def Same (l : List Nat) (st st' : List PV) : Prop := ∀ t ∈ l, obs st t = obs st' t
theorem obs_even (st : List PV) (i : Nat) : obs st (2 * i) = (st[i]?).map lend := by
  unfold obs
  rw [if_pos (by omega), show 2 * i / 2 = i by omega]
theorem obs_odd (st : List PV) (i : Nat) : obs st (2 * i + 1) = st[i]? := by
  unfold obs
  rw [if_neg (by omega), show (2 * i + 1) / 2 = i by omega]
theorem ext_obs {st st' : List PV} (h : ∀ n, obs st n = obs st' n) : st = st' := by
  apply List.ext_getElem?
  intro i
  have := h (2 * i + 1)
  rwa [obs_odd, obs_odd] at this
theorem argT_same {st st' : List PV} {x : Arg} (h : Same (hards [x]) st st') : argT st x = argT st' x := by
  cases x with
  | t i =>
    have := h (2 * i + 1) (by simp [hards])
    rw [obs_odd, obs_odd] at this
    simp only [argT, List.getD_eq_getElem?_getD, this]
  | c v => rfl
mutual
theorem lend_lend : ∀ v : PV, lend (lend v) = lend v
  | .agg cs => by simp only [lend, lendL_lendL cs]
  | .tup cs => by simp only [lend, lendL_lendL cs]
  | .lst _ _ _ => by simp [lend]
  | .nlit _ _ => by simp [lend]
  | .xl _ _ _ => by simp [lend]
  | .sh _ => by simp [lend]
  | .int _ _ => by simp [lend]
  | .bool _ => by simp [lend]
  | .str _ => by simp [lend]
  | .unit => by simp [lend]
  | .ptr _ => by simp [lend]
  | .ip _ _ _ _ => by simp [lend]
  | .row _ _ _ _ => by simp [lend]
  | .map _ => by simp [lend]
  | .fn _ _ _ => by simp [lend]
  | .nilf => by simp [lend]
  | .mpI .. => by simp [lend]
theorem lendL_lendL : ∀ vs : List PV, lendL (lendL vs) = lendL vs
  | [] => by simp [lendL]
  | v :: vs => by simp only [lendL, lend_lend v, lendL_lendL vs]
end
theorem lend_getD {st st' : List PV} {i : Nat} (h : (st[i]?).map lend = (st'[i]?).map lend) : lend (st.getD i .unit) = lend (st'.getD i .unit) := by
  simp only [List.getD_eq_getElem?_getD]
  cases h1 : st[i]? <;> cases h2 : st'[i]? <;> simp_all
theorem arg_same {st st' : List PV} {x : Arg} (h : Same (softs [x]) st st') : arg st x = arg st' x := by
  cases x with
  | t i =>
    have := h (2 * i) (by simp [softs])
    rw [obs_even, obs_even] at this
    exact lend_getD this
  | c v => rfl
theorem Same.sub {l l' : List Nat} {st st' : List PV} (h : Same l st st') (hs : ∀ t ∈ l', t ∈ l) : Same l' st st' := fun t ht => h t (hs t ht)
theorem softs_mem {x : Arg} {l : List Arg} (h : x ∈ l) : ∀ t ∈ softs [x], t ∈ softs l := by
  intro t ht
  cases x with
  | t i =>
    simp [softs] at ht
    subst ht
    exact List.mem_filterMap.2 ⟨.t i, h, rfl⟩
  | c v => simp [softs] at ht
theorem hards_mem {x : Arg} {l : List Arg} (h : x ∈ l) : ∀ t ∈ hards [x], t ∈ hards l := by
  intro t ht
  cases x with
  | t i =>
    simp [hards] at ht
    subst ht
    exact List.mem_filterMap.2 ⟨.t i, h, rfl⟩
  | c v => simp [hards] at ht
theorem soft_of {st st' : List PV} {k : PK} (h : Same (needs k) st st') : Same (softs (argsOf k)) st st' := h.sub fun t ht => by simp only [needs, List.mem_append]; exact .inl ht
theorem hard_of {st st' : List PV} {k : PK} (h : Same (needs k) st st') : Same (hards (hardOf k)) st st' := h.sub fun t ht => by simp only [needs, List.mem_append]; exact .inr ht
theorem arg_of {st st' : List PV} {x : Arg} {k : PK} (h : Same (needs k) st st') (hx : x ∈ argsOf k) : arg st x = arg st' x := arg_same ((soft_of h).sub (softs_mem hx))
theorem argT_of {st st' : List PV} {x : Arg} {k : PK} (h : Same (needs k) st st') (hx : x ∈ hardOf k) : argT st x = argT st' x := argT_same ((hard_of h).sub (hards_mem hx))
theorem opt_of {st st' : List PV} {x : Option Arg} {k : PK} (h : Same (needs k) st st') (hx : ∀ y ∈ x.toList, y ∈ argsOf k) : x.map (arg st) = x.map (arg st') := by
  cases x with
  | none => rfl
  | some x => simp only [Option.map_some, arg_of h (hx x (by simp))]
theorem map_of {st st' : List PV} {xs : List Arg} {k : PK} (h : Same (needs k) st st') (hx : ∀ y ∈ xs, y ∈ argsOf k) : xs.map (arg st) = xs.map (arg st') := List.map_congr_left fun y hy => arg_of h (hx y hy)
def isLd : PK → Bool
  | .ld _ _ false _ => true
  | _ => false
structure Slotwise (f : List PV → List PV) (ws : List Nat) : Prop where
  slot : ∀ (st st' : List PV) (t : Nat), obs st t = obs st' t → obs (f st) t = obs (f st') t
  rest : ∀ (st : List PV) (t : Nat), t ∉ ws → obs (f st) t = obs st t
theorem Slotwise.id : Slotwise (fun st => st) [] := ⟨fun _ _ _ h => h, fun _ _ _ => rfl⟩
theorem Slotwise.sub {f : List PV → List PV} {ws ws' : List Nat} (h : Slotwise f ws) (hs : ∀ t ∈ ws, t ∈ ws') : Slotwise f ws' := ⟨h.slot, fun st t ht => h.rest st t fun h2 => ht (hs t h2)⟩
theorem Slotwise.comp {f f' : List PV → List PV} {ws ws' : List Nat} (h : Slotwise f ws) (h' : Slotwise f' ws') : Slotwise (fun st => f' (f st)) (ws ++ ws') :=
  ⟨fun st st' t e => h'.slot _ _ t (h.slot _ _ t e), fun st t ht => by
    simp only [List.mem_append, not_or] at ht
    rw [h'.rest _ t ht.2, h.rest st t ht.1]⟩
theorem obs_set (st : List PV) (i : Nat) (x : PV) (n : Nat) : obs (st.set i x) n = if n / 2 = i then (if i < st.length then some (if n % 2 = 0 then lend x else x) else none) else obs st n := by
  unfold obs
  by_cases h : n / 2 = i
  · subst h
    rw [if_pos rfl, List.getElem?_set, if_pos rfl]
    by_cases h2 : n / 2 < st.length
    · rw [if_pos h2, if_pos h2]
      by_cases h3 : n % 2 = 0
      · rw [if_pos h3, if_pos h3]; rfl
      · rw [if_neg h3, if_neg h3]
    · rw [if_neg h2, if_neg h2]; split <;> rfl
  · have : (st.set i x)[n / 2]? = st[n / 2]? := by rw [List.getElem?_set, if_neg (fun e => h e.symm)]
    rw [if_neg h, this]
theorem obs_some {st : List PV} {n : Nat} : (obs st n).isSome = true ↔ n / 2 < st.length := by
  unfold obs
  by_cases h : n / 2 < st.length
  · rw [List.getElem?_eq_getElem h]; split <;> simp [h]
  · rw [List.getElem?_eq_none (by omega)]; split <;> simp [h]
theorem obs_lt {st st' : List PV} {n : Nat} (h : obs st n = obs st' n) : n / 2 < st.length ↔ n / 2 < st'.length := by rw [← obs_some, ← obs_some, h]
theorem local_core {F : PV → PV} (hF : ∀ v v', lend v = lend v' → lend (F v) = lend (F v')) (i : Nat) (st st' : List PV) (n : Nat) (e : obs st n = obs st' n) : obs (st.set i (F (st.getD i .unit))) n = obs (st'.set i (F (st'.getD i .unit))) n := by
  rw [obs_set, obs_set]
  by_cases h : n / 2 = i
  · rw [if_pos h, if_pos h]
    have hl := obs_lt e
    rw [h] at hl
    by_cases h2 : i < st.length
    · rw [if_pos h2, if_pos (hl.1 h2)]
      unfold obs at e
      by_cases h3 : n % 2 = 0
      · rw [if_pos h3, if_pos h3, h] at e
        rw [if_pos h3, if_pos h3, hF _ _ (lend_getD e)]
      · rw [if_neg h3, if_neg h3, h] at e
        rw [if_neg h3, if_neg h3, List.getD_eq_getElem?_getD, List.getD_eq_getElem?_getD, e]
    · rw [if_neg h2, if_neg (fun h3 => h2 (hl.2 h3))]
  · rw [if_neg h, if_neg h, e]
theorem local_set (i : Nat) (F : PV → PV) (hF : ∀ v v', lend v = lend v' → lend (F v) = lend (F v')) : Slotwise (fun st => st.set i (F (st.getD i .unit))) [2 * i, 2 * i + 1] := by
  refine ⟨local_core hF i, fun st t ht => ?_⟩
  simp only [List.mem_cons, List.not_mem_nil, or_false, not_or] at ht
  rw [obs_set, if_neg (by omega)]
theorem local_take (i : Nat) (F : PV → PV) (hF : ∀ v, lend (F v) = lend v) : Slotwise (fun st => st.set i (F (st.getD i .unit))) [2 * i + 1] := by
  refine ⟨local_core (fun v v' e => by rw [hF, hF, e]) i, fun st t ht => ?_⟩
  simp only [List.mem_singleton] at ht
  rw [obs_set]
  by_cases h : t / 2 = i
  · have h3 : t % 2 = 0 := by omega
    rw [if_pos h, if_pos h3, hF]
    unfold obs
    rw [if_pos h3, h]
    by_cases h2 : i < st.length
    · rw [if_pos h2, List.getElem?_eq_getElem h2, List.getD_eq_getElem?_getD, List.getElem?_eq_getElem h2]
      rfl
    · rw [if_neg h2, List.getElem?_eq_none (by omega)]
      rfl
  · rw [if_neg h]
theorem local_put (d : Option Nat) (v : PV) : Slotwise (fun st => putSt st d v) (dstW d) := by
  cases d with
  | none => exact Slotwise.id
  | some i => exact local_set i (fun _ => v) (fun _ _ _ => rfl)
theorem local_takeAt (x : Arg) : Slotwise (fun st => takeAt st x) (hards [x]) := by
  cases x with
  | t i => exact local_take i lend lend_lend
  | c v => exact Slotwise.id
theorem lendL_set : ∀ (vs : List PV) (i : Nat), lendL (vs.set i (lend (vs.getD i .unit))) = lendL vs
  | [], i => by simp [lendL]
  | v :: vs, 0 => by simp [lendL, lend_lend]
  | v :: vs, i + 1 => by
    have := lendL_set vs i
    simp only [List.set_cons_succ, lendL, List.getD_cons_succ, this]
theorem local_extTake (x : Arg) (i : Nat) : Slotwise (fun st => extTake st x i) (hards [x]) := by
  cases x with
  | t t =>
    have h := local_take t (fun v => match v with | .tup vs => .tup (vs.set i (lend (vs.getD i .unit))) | v => v) (fun v => by
      cases v <;> first | rfl | (simp only [lend, lendL_set]))
    have e : (fun st => extTake st (.t t) i) = fun st => st.set t ((fun v => match v with | .tup vs => .tup (vs.set i (lend (vs.getD i .unit))) | v => v) (st.getD t .unit)) := by
      funext st
      have self : st.set t (st.getD t .unit) = st := by
        by_cases ht : t < st.length
        · have : st.getD t .unit = st[t] := by simp [List.getD, List.getElem?_eq_getElem ht]
          rw [this, List.set_getElem_self]
        · rw [List.set_eq_of_length_le (by omega)]
      cases hv : st.getD t .unit <;> simp only [extTake, hv] <;> first | rfl | (rw [← hv]; exact self.symm)
    rw [e]
    exact h
  | c v => exact Slotwise.id
theorem hards_cons (x : Arg) (xs : List Arg) : hards (x :: xs) = hards [x] ++ hards xs := by
  cases x <;> simp [hards]
theorem softs_cons (x : Arg) (xs : List Arg) : softs (x :: xs) = softs [x] ++ softs xs := by
  cases x <;> simp [softs]
theorem local_callTake : ∀ (xs : List Arg) (tk : List Bool), Slotwise (fun st => callTake st xs tk) (hards (takenArgs xs tk))
  | [], tk => by
    have : (fun st => callTake st [] tk) = fun st => st := by funext st; simp [callTake]
    rw [this]
    exact Slotwise.id.sub (fun t ht => by cases ht)
  | x :: xs, [] => (local_callTake xs []).sub fun t ht => by
      cases xs <;> simp [takenArgs, hards] at ht
  | x :: xs, false :: tk => local_callTake xs tk
  | x :: xs, true :: tk => by
    rw [takenArgs, hards_cons]
    exact (local_takeAt x).comp (local_callTake xs tk)
theorem callArgs_same : ∀ (xs : List Arg) (tk : List Bool) {st st' : List PV}, Same (softs xs) st st' → Same (hards (takenArgs xs tk)) st st' → callArgs st xs tk = callArgs st' xs tk
  | [], _, _, _, _, _ => by simp [callArgs]
  | x :: xs, [], st, st', h, h' => by
    rw [softs_cons] at h
    simp only [callArgs, arg_same (x := x) (h.sub fun t ht => by simp [ht]), callArgs_same xs [] (h.sub fun t ht => by simp [ht]) (fun t ht => by cases xs <;> simp [takenArgs, hards] at ht)]
  | x :: xs, false :: tk, st, st', h, h' => by
    rw [softs_cons] at h
    simp only [callArgs, arg_same (x := x) (h.sub fun t ht => by simp [ht]), callArgs_same xs tk (h.sub fun t ht => by simp [ht]) h']
  | x :: xs, true :: tk, st, st', h, h' => by
    rw [softs_cons] at h
    rw [takenArgs, hards_cons] at h'
    have h2 : Same (softs xs) (takeAt st x) (takeAt st' x) := fun t ht => (local_takeAt x).slot st st' t (h t (by simp [ht]))
    have h3 : Same (hards (takenArgs xs tk)) (takeAt st x) (takeAt st' x) := fun t ht => (local_takeAt x).slot st st' t (h' t (by simp [ht]))
    simp only [callArgs, argT_same (x := x) (h'.sub fun t ht => by simp [ht]), callArgs_same xs tk h2 h3]
theorem pev_same {st st' : List PV} {H H' : Heap} {k : PK} (h : Same (needs k) st st') (hl : isLd k = false ∨ H = H') : pev st H k = pev st' H' k := by
  cases k with
  | mv tk x => cases tk with
    | true => simp only [pev, argT_of h (x := x) (by simp [hardOf]), if_true]
    | false => simp only [pev, arg_of h (x := x) (by simp [argsOf]), Bool.false_eq_true, if_false]
  | pick c a b => simp only [pev, arg_of h (x := c) (by simp [argsOf]), arg_of h (x := a) (by simp [argsOf]), arg_of h (x := b) (by simp [argsOf])]
  | bin op x y => simp only [pev, arg_of h (x := x) (by simp [argsOf]), arg_of h (x := y) (by simp [argsOf])]
  | binB ne x y => simp only [pev, arg_of h (x := x) (by simp [argsOf]), arg_of h (x := y) (by simp [argsOf])]
  | eqS ne ks x y => simp only [pev, arg_of h (x := x) (by simp [argsOf]), arg_of h (x := y) (by simp [argsOf])]
  | eqN ne x => rfl
  | bad => rfl
  | cvM x => simp only [pev, argT_of h (x := x) (by simp [hardOf])]
  | mvc n x => simp only [pev, argT_of h (x := x) (by simp [hardOf])]
  | nl s n ag z ps =>
    have e : elemParts s st ps = elemParts s st' ps := List.map_congr_left fun p hp => by rw [arg_of h (x := p.2) (by simp only [argsOf]; exact List.mem_map.2 ⟨p, hp, rfl⟩)]
    simp only [pev, e]
  | un op x => simp only [pev, arg_of h (x := x) (by simp [argsOf])]
  | cvI k x => simp only [pev, arg_of h (x := x) (by simp [argsOf])]
  | cvS x => simp only [pev, arg_of h (x := x) (by simp [argsOf])]
  | cvB x => simp only [pev, arg_of h (x := x) (by simp [argsOf])]
  | idc x => simp only [pev, arg_of h (x := x) (by simp [argsOf])]
  | fld o s ag x => simp only [pev, arg_of h (x := x) (by simp [argsOf])]
  | build z ps =>
    have e : partsOf st ps = partsOf st' ps := List.map_congr_left fun p hp => by rw [arg_of h (x := p.2.2) (by simp only [argsOf]; exact List.mem_map.2 ⟨p, hp, rfl⟩)]
    simp only [pev, e]
  | bldT z ps =>
    have e : bparts st ps = bparts st' ps := by
      unfold bparts
      have h1 : Same (softs (ps.map (·.2.2))) st st' := soft_of h
      have h2 : Same (hards (takenArgs (ps.map (·.2.2)) (ps.map fun _ => true))) st st' := hard_of h
      rw [callArgs_same _ _ h1 h2]
    simp only [pev, e]
  | bsl s n ag z ps mu =>
    have e : elemParts s st ps = elemParts s st' ps := List.map_congr_left fun p hp => by rw [arg_of h (x := p.2) (by simp only [argsOf]; exact List.mem_map.2 ⟨p, hp, rfl⟩)]
    cases mu <;> simp only [pev, e]
  | idx x i => simp only [pev, arg_of h (x := x) (by simp [argsOf]), arg_of h (x := i) (by simp [argsOf])]
  | iad s x i => simp only [pev, arg_of h (x := x) (by simp [argsOf]), arg_of h (x := i) (by simp [argsOf])]
  | fad o x => simp only [pev, arg_of h (x := x) (by simp [argsOf])]
  | ld s ag tk x =>
    cases tk with
    | true => rfl
    | false =>
      rcases hl with hl | hl
      · cases hl
      · subst hl
        simp only [pev, arg_of h (x := x) (by simp [argsOf])]
  | sto s x v => rfl
  | sli s x lo hi mx =>
    simp only [pev, arg_of h (x := x) (by simp [argsOf]), opt_of h (x := lo) (fun y hy => by simp [argsOf]; simp at hy; simp [hy]), opt_of h (x := hi) (fun y hy => by simp [argsOf]; simp at hy; simp [hy]), opt_of h (x := mx) (fun y hy => by simp [argsOf]; simp at hy; simp [hy])]
  | sls x lo hi =>
    simp only [pev, arg_of h (x := x) (by simp [argsOf]), opt_of h (x := lo) (fun y hy => by simp [argsOf]; simp at hy; simp [hy]), opt_of h (x := hi) (fun y hy => by simp [argsOf]; simp at hy; simp [hy])]
  | app s b x y => simp only [pev, argT_of h (x := x) (by simp [hardOf]), arg_of h (x := y) (by simp [argsOf])]
  | len s x => simp only [pev, arg_of h (x := x) (by simp [argsOf])]
  | mm m x y => simp only [pev, arg_of h (x := x) (by simp [argsOf]), arg_of h (x := y) (by simp [argsOf])]
  | mk s b ag z l c mu => cases mu <;> simp only [pev, arg_of h (x := l) (by simp [argsOf]), arg_of h (x := c) (by simp [argsOf])]
  | al z => rfl
  | bx s x => rfl
  | bxI s x => simp only [pev, arg_of h (x := x) (by simp [argsOf])]
  | appR s b z x y => rfl
  | cpy s x y => rfl
  | clr s z x => rfl
  | cap x => rfl
  | mkf f a c => simp only [pev, map_of h (xs := a) (fun y hy => by simp [argsOf, hy]), map_of h (xs := c) (fun y hy => by simp [argsOf, hy])]
  | callF f as tk => rfl
  | callV f as => rfl
  | ext tk x i => cases tk with
    | true => simp only [pev, argT_of h (x := x) (by simp [hardOf]), if_true]
    | false => simp only [pev, arg_of h (x := x) (by simp [argsOf]), Bool.false_eq_true, if_false]
  | nck x => simp only [pev, arg_of h (x := x) (by simp [argsOf])]
theorem local_ptake (k : PK) : Slotwise (fun st => ptake st k) (takenTmps k) := by
  cases k with
  | mv tk x =>
    cases tk with
    | true => exact local_takeAt _
    | false => exact Slotwise.id
  | ext tk x i =>
    cases tk with
    | true => exact local_extTake _ _
    | false => exact Slotwise.id
  | app s b x y => exact local_takeAt _
  | cvM x => exact local_takeAt _
  | mvc n x => exact local_takeAt _
  | bldT z ps => exact local_callTake _ _
  | _ => exact Slotwise.id.sub (fun t ht => by cases ht)
end Go.Proofs.YtjcjbpbkakfjdaaDoor.E
/- A logic of plain values, part 22: a region whose order is drawn. -/
namespace Go.Proofs.YtjcjbpbkakfjdaaDoor.E
open Go Go.RowKit
set_option linter.unusedVariables false
set_option linter.unusedSimpArgs false
variable {dq : List Deferred}
def ldCells (st : List PV) : PK → Option (Nat × Nat × Nat)
  | .ld sz ag false x => match arg st x with
    | .ptr (some (b, off)) => some (b, off, if ag then sz else 1)
    | _ => none
  | _ => none
def apartC (p q : Nat × Nat × Nat) : Prop := p.1 ≠ q.1 ∨ p.2.1 + p.2.2 ≤ q.2.1 ∨ q.2.1 + q.2.2 ≤ p.2.1
def Ev0 (P : Program) (op : POp) (st : List PV) (H : Heap) (f : List PV → List PV) (H' : Heap) : Prop :=
  match op.k with
  | .al _ => False
  | .bx _ _ => False
  | .ld sz ag true x => ∃ b off cs r, arg st x = .ptr (some (b, off)) ∧ hget H b = some cs ∧ partP sz ag cs off = some r ∧ off + sz ≤ cs.length ∧
      f = (fun s => putSt s op.dst r) ∧ H' = hset H b (cs.take off ++ lendL ((cs.drop off).take sz) ++ cs.drop (off + sz))
  | .mk _ _ _ _ _ _ true => False
  | .bsl _ _ _ _ _ true => False
  | .sto sz x v => ∃ b off cs, arg st x = .ptr (some (b, off)) ∧ hget H b = some cs ∧ (cellsOf (argT st v)).length = sz ∧ off + sz ≤ cs.length ∧ (cellsOf (argT st v)).all PV.isCell = true ∧
      f = (fun s => putSt (takeAt s v) op.dst .unit) ∧ H' = hset H b (cs.take off ++ cellsOf (argT st v) ++ cs.drop (off + sz))
  | .appR _ _ _ _ _ => False
  | .clr _ _ _ => False
  | .cap _ => False
  | .cpy sz x y => ∃ b off n cap cs ys m, arg st x = .row b off n cap ∧ hget H b = some cs ∧ off + n * sz ≤ cs.length ∧ cellsY sz H (arg st y) = some (ys, m) ∧
      f = (fun s => putSt s op.dst (.int .i64 (min m n : Nat))) ∧ H' = hset H b (cs.take off ++ ys.take (min m n * sz) ++ cs.drop (off + min m n * sz))
  | .callF n as tk => ∃ r, PSpec P n (callArgs st as tk) r ∧ f = (fun s => putSt (callTake s as tk) op.dst r) ∧ H' = H
  | .callV fx as => ∃ n first cap r, arg st fx = .fn (.func n) first cap ∧ PSpec P n (lendL first ++ as.map (arg st) ++ lendL cap) r ∧ f = (fun s => putSt s op.dst r) ∧ H' = H
  | k => ∃ r, pev st H k = some r ∧ f = (fun s => putSt (ptake s k) op.dst r) ∧ H' = H
def Ev (P : Program) (op : POp) (st : List PV) (H : Heap) (f : List PV → List PV) (H' : Heap) : Prop :=
  match op.gd with
  | none => Ev0 P op st H f H'
  | some (t, want) => ∃ b, gval (st.getD t .unit) = some b ∧ if b = some want then Ev0 P op st H f H' else (f = (fun s => putSt s op.dst (.tup [])) ∧ H' = H)
section
variable {P : Program} {hint : Hint} {out : List Nat} {st : List PV} {H H' : Heap} {a : Act} {w : World} {g : Ghost} {op : POp} {f : List PV → List PV}
theorem Ev0_step {o : Oper} {QQ : Exit → Act → World → Prop} {K : List PV → Heap → Prop} (hk : compOp P hint o = some op.k) (hd : op.dst = o.dst) (h : Rel dq out st H a w g) (hE : Ev0 P op st H f H') (hK : K (f st) H') : o.wp P a w (After dq out w g K) QQ := by
  refine step_sound hk hd h ?_
  obtain ⟨d, gd, k⟩ := op
  unfold Ev0 at hE
  have pure_ : (∃ r, pev st H k = some r ∧ f = (fun s => putSt (ptake s k) d r) ∧ H' = H) → ∃ r, pev st H k = some r ∧ K (putSt (ptake st k) d r) H := by
    rintro ⟨r, h1, rfl, rfl⟩
    exact ⟨r, h1, hK⟩
  cases k with
  | al z => exact hE.elim
  | bx s x => exact hE.elim
  | appR s b z x y => exact hE.elim
  | clr s z x => exact hE.elim
  | cap x => exact hE.elim
  | ld s ag tk x =>
    cases tk with
    | true =>
      obtain ⟨b, off, cs, r, h1, h2, h3, h4, rfl, rfl⟩ := hE
      exact ⟨b, off, cs, r, h1, h2, h3, hK⟩
    | false => exact pure_ hE
  | mk s b ag z l c mu =>
    cases mu with
    | true => exact hE.elim
    | false => exact pure_ hE
  | bsl s n ag z ps mu =>
    cases mu with
    | true => exact hE.elim
    | false => exact pure_ hE
  | sto s x v =>
    obtain ⟨b, off, cs, h1, h2, h3, h4, h5, rfl, rfl⟩ := hE
    exact ⟨b, off, cs, h1, h2, h3, h4, h5, hK⟩
  | cpy s x y =>
    obtain ⟨b, off, n, cap, cs, ys, m, h1, h2, h3, h4, rfl, rfl⟩ := hE
    exact ⟨b, off, n, cap, cs, ys, m, h1, h2, h3, h4, hK⟩
  | callF n xs tk =>
    obtain ⟨r, h1, rfl, rfl⟩ := hE
    exact ⟨_, h1 H', fun r' H2 ⟨e1, e2⟩ => by subst e1 e2; exact hK⟩
  | callV fx xs =>
    obtain ⟨n, first, cap, r, h1, h2, rfl, rfl⟩ := hE
    exact ⟨n, first, cap, _, h1, h2 H', fun r' H2 ⟨e1, e2⟩ => by subst e1 e2; exact hK⟩
  | eqN ne x =>
    obtain ⟨r, h1, _⟩ := hE
    cases h1
  | _ => exact pure_ hE
theorem Ev0_local (hE : Ev0 P op st H f H') : Slotwise f (writesOf op) := by
  obtain ⟨d, gd, k⟩ := op
  unfold Ev0 at hE
  have pure_ : (∃ r, pev st H k = some r ∧ f = (fun s => putSt (ptake s k) d r) ∧ H' = H) → Slotwise f (writesOf ⟨d, gd, k⟩) := by
    rintro ⟨r, h1, rfl, rfl⟩
    exact ((local_ptake k).comp (local_put d r)).sub fun t ht => by simp only [List.mem_append] at ht; simp only [writesOf, List.mem_append]; exact ht.symm
  cases k with
  | al z => exact hE.elim
  | bx s x => exact hE.elim
  | appR s b z x y => exact hE.elim
  | clr s z x => exact hE.elim
  | cap x => exact hE.elim
  | ld s ag tk x =>
    cases tk with
    | true =>
      obtain ⟨b, off, cs, r, h1, h2, h3, h4, rfl, rfl⟩ := hE
      exact (local_put d _).sub fun t ht => by simp only [writesOf, List.mem_append]; exact .inl ht
    | false => exact pure_ hE
  | mk s b ag z l c mu =>
    cases mu with
    | true => exact hE.elim
    | false => exact pure_ hE
  | bsl s n ag z ps mu =>
    cases mu with
    | true => exact hE.elim
    | false => exact pure_ hE
  | sto s x v =>
    obtain ⟨b, off, cs, h1, h2, h3, h4, h5, rfl, rfl⟩ := hE
    exact ((local_takeAt v).comp (local_put d .unit)).sub fun t ht => by simp only [List.mem_append] at ht; simp only [writesOf, List.mem_append]; exact ht.symm
  | cpy s x y =>
    obtain ⟨b, off, n, cap, cs, ys, m, h1, h2, h3, h4, rfl, rfl⟩ := hE
    exact (local_put d _).sub fun t ht => by simp only [writesOf, List.mem_append]; exact .inl ht
  | callF n xs tk =>
    obtain ⟨r, h1, rfl, rfl⟩ := hE
    exact ((local_callTake xs tk).comp (local_put d r)).sub fun t ht => by simp only [List.mem_append] at ht; simp only [writesOf, List.mem_append]; exact ht.symm
  | callV fx xs =>
    obtain ⟨n, first, cap, r, h1, h2, rfl, rfl⟩ := hE
    exact (local_put d r).sub fun t ht => by simp only [writesOf, List.mem_append]; exact .inl ht
  | _ => exact pure_ hE
theorem Ev_local (hE : Ev P op st H f H') : Slotwise f (writesOf op) := by
  unfold Ev at hE
  split at hE
  · exact Ev0_local hE
  · obtain ⟨b, hb, hE⟩ := hE
    split at hE
    · exact Ev0_local hE
    · obtain ⟨rfl, rfl⟩ := hE
      exact (local_put op.dst (.tup [])).sub fun t ht => by simp only [writesOf, List.mem_append]; exact .inl ht
def isSto : PK → Bool
  | .sto _ _ _ => true
  | .cpy _ _ _ => true
  | .ld _ _ true _ => true
  | _ => false
def isCpy : PK → Bool
  | .cpy _ _ _ => true
  | _ => false
theorem Ev0_same {st' : List PV} {H2 : Heap} (h : Same (readsOf op) st st') (hE : Ev0 P op st H f H') (hs : isSto op.k = true → H = H2) (hl : isLd op.k = true → ∀ r, pev st H op.k = some r → pev st H2 op.k = some r) :
    ∃ H2', Ev0 P op st' H2 f H2' ∧ (isSto op.k = false → H' = H ∧ H2' = H2) ∧ (isSto op.k = true → H2' = H') := by
  obtain ⟨d, gd, k⟩ := op
  have h1 : Same (needs k) st st' := h.sub fun t ht => by simp only [readsOf, List.mem_append]; exact .inl ht
  simp only at hs hl
  have pure_ : isSto k = false → (isLd k = false ∨ isLd k = true) → (∃ r, pev st H k = some r ∧ f = (fun s => putSt (ptake s k) d r) ∧ H' = H) → ∃ r, pev st' H2 k = some r ∧ f = (fun s => putSt (ptake s k) d r) := by
    rintro hn hld ⟨r, q1, rfl, rfl⟩
    refine ⟨r, ?_, rfl⟩
    rcases hld with hld | hld
    · rw [← pev_same (H := H') (H' := H2) h1 (.inl hld)]; exact q1
    · rw [← pev_same (H := H2) (H' := H2) h1 (.inr rfl)]; exact hl hld r q1
  have fin : isSto k = false → (isLd k = false ∨ isLd k = true) → (∃ r, pev st H k = some r ∧ f = (fun s => putSt (ptake s k) d r) ∧ H' = H) → ∃ H2', (∃ r, pev st' H2 k = some r ∧ f = (fun s => putSt (ptake s k) d r) ∧ H2' = H2) ∧ (isSto k = false → H' = H ∧ H2' = H2) ∧ (isSto k = true → H2' = H') := by
    intro hn hld hq
    obtain ⟨r, q1, q2⟩ := pure_ hn hld hq
    obtain ⟨_, _, _, q3⟩ := hq
    exact ⟨H2, ⟨r, q1, q2, rfl⟩, fun _ => ⟨q3, rfl⟩, fun e => by rw [hn] at e; cases e⟩
  unfold Ev0 at hE ⊢
  cases k with
  | al z => exact hE.elim
  | bx s x => exact hE.elim
  | appR s b z x y => exact hE.elim
  | clr s z x => exact hE.elim
  | cap x => exact hE.elim
  | ld s ag tk x =>
    cases tk with
    | true =>
      have := hs rfl
      subst this
      obtain ⟨b, off, cs, r, q1, q2, q3, q4, q5, q6⟩ := hE
      have ex : arg st x = arg st' x := arg_of h1 (by simp [argsOf])
      exact ⟨H', ⟨b, off, cs, r, by rw [← ex]; exact q1, q2, q3, q4, q5, q6⟩, (fun e => by cases e), fun _ => rfl⟩
    | false => exact fin rfl (.inr rfl) hE
  | mk s b ag z l c mu =>
    cases mu with
    | true => exact hE.elim
    | false => exact fin rfl (.inl rfl) hE
  | bsl s n ag z ps mu =>
    cases mu with
    | true => exact hE.elim
    | false => exact fin rfl (.inl rfl) hE
  | sto s x v =>
    have := hs rfl
    subst this
    obtain ⟨b, off, cs, q1, q2, q3, q4, q5, q6, q7⟩ := hE
    have ex : arg st x = arg st' x := arg_of h1 (by simp [argsOf])
    have ev : argT st v = argT st' v := argT_of h1 (by simp [hardOf])
    refine ⟨H', ⟨b, off, cs, by rw [← ex]; exact q1, q2, by rw [← ev]; exact q3, q4, by rw [← ev]; exact q5, q6, by rw [← ev]; exact q7⟩, (fun e => by cases e), fun _ => rfl⟩
  | cpy s x y =>
    have := hs rfl
    subst this
    obtain ⟨b, off, n, cap, cs, ys, m, q1, q2, q3, q4, q5, q6⟩ := hE
    have ex : arg st x = arg st' x := arg_of h1 (by simp [argsOf])
    have ey : arg st y = arg st' y := arg_of h1 (by simp [argsOf])
    exact ⟨H', ⟨b, off, n, cap, cs, ys, m, by rw [← ex]; exact q1, q2, q3, by rw [← ey]; exact q4, q5, q6⟩, (fun e => by cases e), fun _ => rfl⟩
  | callF n xs tk =>
    obtain ⟨r, q1, q2, rfl⟩ := hE
    have e : callArgs st xs tk = callArgs st' xs tk := callArgs_same xs tk (soft_of h1) (hard_of h1)
    exact ⟨H2, ⟨r, by rw [← e]; exact q1, q2, rfl⟩, (fun _ => ⟨rfl, rfl⟩), fun e => by cases e⟩
  | callV fx xs =>
    obtain ⟨n, first, cap, r, q1, q2, q3, rfl⟩ := hE
    have e1 : arg st fx = arg st' fx := arg_of h1 (by simp [argsOf])
    have e2 : xs.map (arg st) = xs.map (arg st') := map_of h1 fun y hy => by simp [argsOf, hy]
    exact ⟨H2, ⟨n, first, cap, r, by rw [← e1]; exact q1, by rw [← e2]; exact q2, q3, rfl⟩, (fun _ => ⟨rfl, rfl⟩), fun e => by cases e⟩
  | _ => exact fin rfl (.inl rfl) hE
def liveAt (st : List PV) (op : POp) : Prop :=
  match op.gd with
  | none => True
  | some (t, want) => gval (st.getD t .unit) = some (some want)
theorem Ev_same {st' : List PV} {H2 : Heap} (h : Same (readsOf op) st st') (hE : Ev P op st H f H') (hs : isSto op.k = true → H = H2) (hl : liveAt st op → isLd op.k = true → ∀ r, pev st H op.k = some r → pev st H2 op.k = some r) :
    ∃ H2', Ev P op st' H2 f H2' ∧ (isSto op.k = false → H' = H ∧ H2' = H2) ∧ (isSto op.k = true → H2' = H') := by
  unfold Ev at hE ⊢
  unfold liveAt at hl
  cases hg : op.gd with
  | none => rw [hg] at hE hl; exact Ev0_same h hE hs (hl trivial)
  | some p =>
    obtain ⟨t, want⟩ := p
    rw [hg] at hE hl
    obtain ⟨b, hb, hE⟩ := hE
    have ht : st.getD t .unit = st'.getD t .unit := by
      have := h (2 * t + 1) (by simp [readsOf, hg])
      rw [obs_odd, obs_odd] at this
      simp only [List.getD_eq_getElem?_getD, this]
    by_cases hbw : b = some want
    · rw [if_pos hbw] at hE
      obtain ⟨H2', q1, q2⟩ := Ev0_same h hE hs (hl (by show gval (st.getD t .unit) = some (some want); rw [hb, hbw]))
      exact ⟨H2', ⟨b, by rw [← ht]; exact hb, by rw [if_pos hbw]; exact q1⟩, q2⟩
    · rw [if_neg hbw] at hE
      obtain ⟨e1, e2⟩ := hE
      exact ⟨H2, ⟨b, by rw [← ht]; exact hb, by rw [if_neg hbw]; exact ⟨e1, rfl⟩⟩, fun _ => ⟨e2, rfl⟩, fun hs' => by rw [e2, hs hs']⟩
theorem ld_hset {b off : Nat} {cs ds : List PV} (hb : hget H b = some cs) (hle : off + ds.length ≤ cs.length) {k : PK} (hk : isLd k = true) {r : PV}
    (hap : ∀ c, ldCells st k = some c → apartC c (b, off, ds.length)) : pev st H k = some r ↔ pev st (hset H b (cs.take off ++ ds ++ cs.drop (off + ds.length))) k = some r := by
  cases k with
  | ld sz ag tk x =>
    cases tk with
    | true => exact Iff.rfl
    | false =>
      simp only [pev, ldP]
      cases hx : arg st x with
      | ptr q =>
        cases q with
        | none => exact Iff.rfl
        | some q =>
          obtain ⟨c, o⟩ := q
          have hap := hap (c, o, if ag then sz else 1) (by simp [ldCells, hx])
          simp only
          by_cases hcb : c = b
          · subst hcb
            rw [hb, hget_hset_same hb]
            simp only [Option.bind_some]
            have hlen : (cs.take off ++ ds ++ cs.drop (off + ds.length)).length = cs.length := by
              simp only [List.length_append, List.length_take, List.length_drop]; omega
            have hget : ∀ n, apartC (c, o, n) (c, off, ds.length) → ∀ i, o ≤ i → i < o + n → (cs.take off ++ ds ++ cs.drop (off + ds.length))[i]? = cs[i]? := by
              intro n hap i h1 h2
              have ht : (cs.take off).length = off := by rw [List.length_take]; omega
              rcases hap with hap | hap | hap
              · exact absurd rfl hap
              · simp only at hap
                rw [List.append_assoc, List.getElem?_append_left (by omega), List.getElem?_take, if_pos (by omega)]
              · simp only at hap
                rw [List.getElem?_append_right (by rw [List.length_append]; omega), List.getElem?_drop]
                congr 1
                rw [List.length_append]; omega
            have e : partP sz ag (cs.take off ++ ds ++ cs.drop (off + ds.length)) o = partP sz ag cs o := by
              unfold partP
              rw [hlen]
              by_cases hfit : o + sz ≤ cs.length
              · rw [if_pos hfit, if_pos hfit]
                cases ag with
                | true =>
                  simp only [if_true] at hap ⊢
                  have e1 : ((cs.take off ++ ds ++ cs.drop (off + ds.length)).drop o).take sz = (cs.drop o).take sz := by
                    apply List.ext_getElem?
                    intro i
                    rw [List.getElem?_take, List.getElem?_take]
                    split
                    · rw [List.getElem?_drop, List.getElem?_drop, hget sz hap _ (by omega) (by omega)]
                    · rfl
                  rw [e1]
                | false =>
                  simp only [Bool.false_eq_true, if_false] at hap ⊢
                  exact hget 1 hap o (Nat.le_refl _) (by omega)
              · rw [if_neg hfit, if_neg hfit]
            rw [e]
          · rw [hget_hset_ne hcb]
      | _ => exact Iff.rfl
  | _ => cases hk
end
end Go.Proofs.YtjcjbpbkakfjdaaDoor.E
/- A logic of plain values, part 23: .. (2): any order that the edges leave comes to the same. -/
namespace Go.Proofs.YtjcjbpbkakfjdaaDoor.E
open Go Go.RowKit
set_option linter.unusedVariables false
set_option linter.unusedSimpArgs false
abbrev Uses := List (Nat × Nat × Nat × Nat)
def planOp (P : Program) (late : List (Nat × Nat)) (op : POp) (i : Nat) (rd wr : Uses) (K : Uses → Uses → List PV → Heap → Prop) (st : List PV) (H : Heap) : Prop :=
  match op.k with
  | .al _ => False
  | .bx _ _ => False
  | .ld sz ag true x => ∃ b off cs r, arg st x = .ptr (some (b, off)) ∧ hget H b = some cs ∧ partP sz ag cs off = some r ∧ off + sz ≤ cs.length ∧
      (∀ e ∈ rd, (e.1, i) ∈ late → apartC e.2 (b, off, sz)) ∧
      K rd ((i, b, off, sz) :: wr) (putSt st op.dst r) (hset H b (cs.take off ++ lendL ((cs.drop off).take sz) ++ cs.drop (off + sz)))
  | .mk _ _ _ _ _ _ true => False
  | .bsl _ _ _ _ _ true => False
  | .sto sz x v => ∃ b off cs, arg st x = .ptr (some (b, off)) ∧ hget H b = some cs ∧ (cellsOf (argT st v)).length = sz ∧ off + sz ≤ cs.length ∧ (cellsOf (argT st v)).all PV.isCell = true ∧
      (∀ e ∈ rd, (e.1, i) ∈ late → apartC e.2 (b, off, sz)) ∧
      K rd ((i, b, off, sz) :: wr) (putSt (takeAt st v) op.dst .unit) (hset H b (cs.take off ++ cellsOf (argT st v) ++ cs.drop (off + sz)))
  | .appR _ _ _ _ _ => False
  | .clr _ _ _ => False
  | .cap _ => False
  | .cpy sz x y => ∃ b off n cap cs ys m, arg st x = .row b off n cap ∧ hget H b = some cs ∧ off + n * sz ≤ cs.length ∧ cellsY sz H (arg st y) = some (ys, m) ∧
      K rd wr (putSt st op.dst (.int .i64 (min m n : Nat))) (hset H b (cs.take off ++ ys.take (min m n * sz) ++ cs.drop (off + min m n * sz)))
  | .callF n as tk => ∃ r, PSpec P n (callArgs st as tk) r ∧ K rd wr (putSt (callTake st as tk) op.dst r) H
  | .callV fx as => ∃ n first cap r, arg st fx = .fn (.func n) first cap ∧ PSpec P n (lendL first ++ as.map (arg st) ++ lendL cap) r ∧ K rd wr (putSt st op.dst r) H
  | k => ∃ r, pev st H k = some r ∧ (∀ c, ldCells st k = some c → ∀ e ∈ wr, (i, e.1) ∈ late → apartC c e.2) ∧
      K (match ldCells st k with | some c => (i, c) :: rd | none => rd) wr (putSt (ptake st k) op.dst r) H
def planOps (P : Program) (late : List (Nat × Nat)) : List POp → Nat → Uses → Uses → (List PV → Heap → Prop) → List PV → Heap → Prop
  | [], _, _, _, K, st, H => K st H
  | op :: ops, i, rd, wr, K, st, H =>
    match op.gd with
    | none => planOp P late op i rd wr (fun rd' wr' st' H' => planOps P late ops (i + 1) rd' wr' K st' H') st H
    | some (t, want) => ∃ b, gval (st.getD t .unit) = some b ∧
        if b = some want then planOp P late op i rd wr (fun rd' wr' st' H' => planOps P late ops (i + 1) rd' wr' K st' H') st H else planOps P late ops (i + 1) rd wr K (putSt st op.dst (.tup [])) H
abbrev Trc := List ((List PV → List PV) × Heap)
def stAt (tr : Trc) (st : List PV) (i : Nat) : List PV := (tr.take i).foldl (fun s p => p.1 s) st
def hpAt : Trc → Heap → Nat → Heap
  | _, H, 0 => H
  | [], H, _ + 1 => H
  | p :: tr, _, i + 1 => hpAt tr p.2 i
def stCells (st : List PV) : PK → Option (Nat × Nat × Nat)
  | .sto sz x _ => match arg st x with
    | .ptr (some (b, off)) => some (b, off, sz)
    | _ => none
  | .ld sz _ true x => match arg st x with
    | .ptr (some (b, off)) => some (b, off, sz)
    | _ => none
  | _ => none
structure Told (P : Program) (late : List (Nat × Nat)) (ops : List POp) (i : Nat) (rd wr : Uses) (K : List PV → Heap → Prop) (st : List PV) (H : Heap) (tr : Trc) : Prop where
  len : tr.length = ops.length
  ev : ∀ k op, ops[k]? = some op → ∃ f H', tr[k]? = some (f, H') ∧ Ev P op (stAt tr st k) (hpAt tr H k) f H'
  fin : K (stAt tr st ops.length) (hpAt tr H ops.length)
  rd : ∀ e ∈ rd, ∀ s op, ops[s]? = some op → liveAt (stAt tr st s) op → ∀ d, stCells (stAt tr st s) op.k = some d → (e.1, i + s) ∈ late → apartC e.2 d
  wr : ∀ e ∈ wr, ∀ k op, ops[k]? = some op → liveAt (stAt tr st k) op → ∀ c, ldCells (stAt tr st k) op.k = some c → (i + k, e.1) ∈ late → apartC c e.2
  pr : ∀ k s op op', ops[k]? = some op → ops[s]? = some op' → liveAt (stAt tr st k) op → liveAt (stAt tr st s) op' → ∀ c d, ldCells (stAt tr st k) op.k = some c → stCells (stAt tr st s) op'.k = some d → (i + k, i + s) ∈ late → apartC c d
theorem stAt_succ (p : (List PV → List PV) × Heap) (tr : Trc) (st : List PV) (k : Nat) : stAt (p :: tr) st (k + 1) = stAt tr (p.1 st) k := by simp [stAt]
theorem told_cons {P : Program} {late : List (Nat × Nat)} {op : POp} {ops : List POp} {i : Nat} {rd wr rd' wr' : Uses} {K : List PV → Heap → Prop} {st : List PV} {H H' : Heap} {f : List PV → List PV} {tr : Trc}
    (hE : Ev P op st H f H') (hT : Told P late ops (i + 1) rd' wr' K (f st) H' tr) (hrd : ∀ e ∈ rd, e ∈ rd') (hwr : ∀ e ∈ wr, e ∈ wr')
    (hl : liveAt st op → ∀ c, ldCells st op.k = some c → (i, c) ∈ rd' ∧ ∀ e ∈ wr, (i, e.1) ∈ late → apartC c e.2)
    (hs : liveAt st op → ∀ d, stCells st op.k = some d → (i, d) ∈ wr' ∧ ∀ e ∈ rd, (e.1, i) ∈ late → apartC e.2 d) : Told P late (op :: ops) i rd wr K st H ((f, H') :: tr) := by
  have eq : ∀ k, i + (k + 1) = i + 1 + k := fun k => by omega
  refine ⟨by simp [hT.len], fun k o ho => ?_, ?_, fun e he s o ho hlv d hd hlt => ?_, fun e he k o ho hlv c hc hlt => ?_, fun k s o o' ho ho' hlk hls c d hc hd hlt => ?_⟩
  · cases k with
    | zero =>
      simp at ho
      subst ho
      exact ⟨f, H', rfl, hE⟩
    | succ k =>
      obtain ⟨f2, H2, q1, q2⟩ := hT.ev k o (by simpa using ho)
      exact ⟨f2, H2, by simpa using q1, by rw [stAt_succ]; exact q2⟩
  · have := hT.fin
    rw [List.length_cons, stAt_succ]
    exact this
  · cases s with
    | zero =>
      simp at ho
      subst ho
      exact (hs hlv d hd).2 e he (by simpa using hlt)
    | succ s =>
      rw [stAt_succ] at hlv hd
      exact hT.rd e (hrd e he) s o (by simpa using ho) hlv d hd (by rw [← eq]; exact hlt)
  · cases k with
    | zero =>
      simp at ho
      subst ho
      exact (hl hlv c hc).2 e he (by simpa using hlt)
    | succ k =>
      rw [stAt_succ] at hlv hc
      exact hT.wr e (hwr e he) k o (by simpa using ho) hlv c hc (by rw [← eq]; exact hlt)
  · cases k with
    | zero =>
      simp at ho
      subst ho
      cases s with
      | zero =>
        simp at ho'
        subst ho'
        -- no operation is both
        exfalso
        unfold ldCells at hc
        unfold stCells at hd
        split at hc
        · rename_i e
          rw [e] at hd
          cases hd
        · cases hc
      | succ s =>
        rw [stAt_succ] at hls hd
        exact hT.rd (i, c) (hl hlk c hc).1 s o' (by simpa using ho') hls d hd (by rw [← eq]; simpa using hlt)
    | succ k =>
      rw [stAt_succ] at hlk hc
      cases s with
      | zero =>
        simp at ho'
        subst ho'
        exact hT.wr (i, d) (hs hls d hd).1 k o (by simpa using ho) hlk c hc (by rw [← eq]; simpa using hlt)
      | succ s =>
        rw [stAt_succ] at hls hd
        exact hT.pr k s o o' (by simpa using ho) (by simpa using ho') hlk hls c d hc hd (by rw [← eq, ← eq]; exact hlt)
theorem plan_told {P : Program} {late : List (Nat × Nat)} {K : List PV → Heap → Prop} : ∀ {ops : List POp} {i : Nat} {rd wr : Uses} {st : List PV} {H : Heap}, planOps P late ops i rd wr K st H → ∃ tr, Told P late ops i rd wr K st H tr
  | [], i, rd, wr, st, H, h => ⟨[], rfl, fun k op e => by simp at e, h, fun _ _ _ _ e => by simp at e, fun _ _ _ _ e => by simp at e, fun _ _ _ _ e => by simp at e⟩
  | op :: ops, i, rd, wr, st, H, h => by
    obtain ⟨d, gd, k⟩ := op
    -- the operation itself
    have go : ∀ (hlive : liveAt st ⟨d, gd, k⟩) (hEv : ∀ f H', Ev0 P ⟨d, gd, k⟩ st H f H' → Ev P ⟨d, gd, k⟩ st H f H'),
        planOp P late ⟨d, gd, k⟩ i rd wr (fun rd' wr' st' H' => planOps P late ops (i + 1) rd' wr' K st' H') st H → ∃ tr, Told P late (⟨d, gd, k⟩ :: ops) i rd wr K st H tr := by
      intro hlive hEv hg
      unfold planOp at hg
      have pure_ : (∀ f H', (∃ r, pev st H k = some r ∧ f = (fun s => putSt (ptake s k) d r) ∧ H' = H) → Ev0 P ⟨d, gd, k⟩ st H f H') → (∀ c, stCells st k ≠ some c) →
          (∃ r, pev st H k = some r ∧ (∀ c, ldCells st k = some c → ∀ e ∈ wr, (i, e.1) ∈ late → apartC c e.2) ∧
              planOps P late ops (i + 1) (match ldCells st k with | some c => (i, c) :: rd | none => rd) wr K (putSt (ptake st k) d r) H) → ∃ tr, Told P late (⟨d, gd, k⟩ :: ops) i rd wr K st H tr := by
        rintro hq hns ⟨r, q1, q2, q3⟩
        obtain ⟨tr, hT⟩ := plan_told q3
        refine ⟨_, told_cons (f := fun s => putSt (ptake s k) d r) (hEv _ _ (hq _ _ ⟨r, q1, rfl, rfl⟩)) hT (fun e he => ?_) (fun _ h => h) (fun _ c hc => ⟨?_, q2 c hc⟩) (fun _ c hc => absurd hc (hns c))⟩
        · cases hl : ldCells st k with
          | none => rw [hl] at hT; exact he
          | some c => simp [he]
        · simp only at hc
          rw [hc]
          simp
      cases k with
      | al z => exact hg.elim
      | bx s x => exact hg.elim
      | appR s b z x y => exact hg.elim
      | clr s z x => exact hg.elim
      | cap x => exact hg.elim
      | cpy s x y =>
        obtain ⟨b, off, n, cap, cs, ys, m, q1, q2, q3, q4, q5⟩ := hg
        obtain ⟨tr, hT⟩ := plan_told q5
        exact ⟨_, told_cons (f := fun s => putSt s d (.int .i64 (min m n : Nat))) (hEv _ _ ⟨b, off, n, cap, cs, ys, m, q1, q2, q3, q4, rfl, rfl⟩) hT (fun _ h => h) (fun _ h => h) (fun _ c hc => by simp [ldCells] at hc) (fun _ c hc => by simp [stCells] at hc)⟩
      | ld s ag tk x =>
        cases tk with
        | true =>
          obtain ⟨b, off, cs, r, q1, q2, q3, q4, q5, q6⟩ := hg
          obtain ⟨tr, hT⟩ := plan_told q6
          refine ⟨_, told_cons (f := fun s => putSt s d r) (hEv _ _ ⟨b, off, cs, r, q1, q2, q3, q4, rfl, rfl⟩) hT (fun _ h => h) (fun _ h => by simp [h]) (fun _ c hc => by simp [ldCells] at hc) (fun _ c hc => ?_)⟩
          simp only [stCells, q1, Option.some.injEq] at hc
          subst hc
          exact ⟨by simp, q5⟩
        | false => exact pure_ (fun f H' h => h) (fun c e => by simp [stCells] at e) hg
      | mk s b ag z l c mu =>
        cases mu with
        | true => exact hg.elim
        | false => exact pure_ (fun f H' h => h) (fun c e => by simp [stCells] at e) hg
      | bsl s n ag z ps mu =>
        cases mu with
        | true => exact hg.elim
        | false => exact pure_ (fun f H' h => h) (fun c e => by simp [stCells] at e) hg
      | sto s x v =>
        obtain ⟨b, off, cs, q1, q2, q3, q4, q5, q6, q7⟩ := hg
        obtain ⟨tr, hT⟩ := plan_told q7
        refine ⟨_, told_cons (f := fun s => putSt (takeAt s v) d .unit) (hEv _ _ ⟨b, off, cs, q1, q2, q3, q4, q5, rfl, rfl⟩) hT (fun _ h => h) (fun _ h => by simp [h]) (fun _ c hc => by simp [ldCells] at hc) (fun _ c hc => ?_)⟩
        simp only [stCells, q1, Option.some.injEq] at hc
        subst hc
        exact ⟨by simp, q6⟩
      | callF n xs tk =>
        obtain ⟨r, q1, q2⟩ := hg
        obtain ⟨tr, hT⟩ := plan_told q2
        exact ⟨_, told_cons (f := fun s => putSt (callTake s xs tk) d r) (hEv _ _ ⟨r, q1, rfl, rfl⟩) hT (fun _ h => h) (fun _ h => h) (fun _ c hc => by simp [ldCells] at hc) (fun _ c hc => by simp [stCells] at hc)⟩
      | callV fx xs =>
        obtain ⟨n, first, cap, r, q1, q2, q3⟩ := hg
        obtain ⟨tr, hT⟩ := plan_told q3
        exact ⟨_, told_cons (f := fun s => putSt s d r) (hEv _ _ ⟨n, first, cap, r, q1, q2, rfl, rfl⟩) hT (fun _ h => h) (fun _ h => h) (fun _ c hc => by simp [ldCells] at hc) (fun _ c hc => by simp [stCells] at hc)⟩
      | _ => exact pure_ (fun f H' h => h) (fun c e => by simp [stCells] at e) hg
    unfold planOps at h
    cases gd with
    | none => exact go trivial (fun f H' h => h) h
    | some p =>
      obtain ⟨t, want⟩ := p
      obtain ⟨b, hb, h⟩ := h
      by_cases hbw : b = some want
      · subst hbw
        rw [if_pos rfl] at h
        exact go hb (fun f H' h => ⟨_, hb, by rw [if_pos rfl]; exact h⟩) h
      · rw [if_neg hbw] at h
        obtain ⟨tr, hT⟩ := plan_told h
        have hnl : ¬ liveAt st ⟨d, some (t, want), k⟩ := fun hl => by
          simp only [liveAt, hb, Option.some.injEq] at hl
          exact hbw hl
        exact ⟨_, told_cons (f := fun s => putSt s d (.tup [])) ⟨b, hb, by rw [if_neg hbw]; exact ⟨rfl, rfl⟩⟩ hT (fun _ h => h) (fun _ h => h) (fun hl => absurd hl hnl) (fun hl => absurd hl hnl)⟩
end Go.Proofs.YtjcjbpbkakfjdaaDoor.E
/- A logic of plain values, part 24: .. (3). -/
namespace Go.Proofs.YtjcjbpbkakfjdaaDoor.E
open Go Go.RowKit
set_option linter.unusedVariables false
set_option linter.unusedSimpArgs false
def edgesOf (o : Oper) : List Nat := (o.after.toList.filter (Region.binds .any)).map (·.on)
def beforeOf (acc : List Nat) (es : List Nat) : Nat := es.foldl (fun s e => s ||| 2 ^ e ||| acc.getD e 0) 0
def befores : List Oper → List Nat → List Nat
  | [], acc => acc
  | o :: os, acc => befores os (acc ++ [beforeOf acc (edgesOf o)])
def apartB (ws rs : List Nat) : Bool := ws.all fun t => !rs.contains t
def indepB (pj pk : POp) : Bool := apartB (writesOf pj) (readsOf pk ++ writesOf pk) && apartB (writesOf pk) (readsOf pj) && !(isSto pj.k && isSto pk.k) && !(isLd pj.k && isCpy pk.k) && !(isCpy pj.k && isLd pk.k)
def latePairs (j k : Nat) (pj pk : POp) : List (Nat × Nat) := (if isLd pj.k && isSto pk.k then [(j, k)] else []) ++ (if isSto pj.k && isLd pk.k then [(k, j)] else [])
def drawLate (os : List Oper) (ps : List POp) : Option (List (Nat × Nat)) :=
  let bs := befores os []
  let n := os.length
  if (List.range n).all (fun k => (edgesOf (os.getD k default)).all fun e => decide (e < k)) && (List.range n).all (fun k => (List.range k).all fun j => (bs.getD k 0).testBit j || indepB (ps.getD j default) (ps.getD k default)) then
    some ((List.range n).flatMap fun k => (List.range k).flatMap fun j => if (bs.getD k 0).testBit j then [] else latePairs j k (ps.getD j default) (ps.getD k default))
  else none
theorem beforeOf_bit {acc : List Nat} {j : Nat} : ∀ (es : List Nat) (s : Nat), (es.foldl (fun s e => s ||| 2 ^ e ||| acc.getD e 0) s).testBit j = true → s.testBit j = true ∨ ∃ e ∈ es, j = e ∨ (acc.getD e 0).testBit j = true
  | [], s, h => .inl h
  | e :: es, s, h => by
    simp only [List.foldl_cons] at h
    rcases beforeOf_bit es _ h with h | ⟨e', he, h⟩
    · rw [Nat.testBit_or, Nat.testBit_or, Bool.or_eq_true, Bool.or_eq_true] at h
      rcases h with (h | h) | h
      · exact .inl h
      · rw [Nat.testBit_two_pow] at h
        exact .inr ⟨e, by simp, .inl (by simpa using (of_decide_eq_true h).symm)⟩
      · exact .inr ⟨e, by simp, .inr h⟩
    · exact .inr ⟨e', by simp [he], h⟩
theorem befores_spec : ∀ (os : List Oper) (acc : List Nat), (∃ t, befores os acc = acc ++ t ∧ t.length = os.length) ∧
    ∀ k o, os[k]? = some o → (befores os acc)[acc.length + k]? = some (beforeOf ((befores os acc).take (acc.length + k)) (edgesOf o))
  | [], acc => ⟨⟨[], by simp [befores]⟩, fun k o h => by simp at h⟩
  | o :: os, acc => by
    obtain ⟨⟨t, h1, h2⟩, h3⟩ := befores_spec os (acc ++ [beforeOf acc (edgesOf o)])
    refine ⟨⟨beforeOf acc (edgesOf o) :: t, by simp [befores, h1], by simp [h2]⟩, fun k q hk => ?_⟩
    simp only [befores]
    cases k with
    | zero =>
      simp at hk
      subst hk
      rw [h1]
      simp
    | succ k =>
      have := h3 k q (by simpa using hk)
      rw [List.length_append] at this
      simp only [List.length_cons, List.length_nil] at this
      rw [show acc.length + (k + 1) = acc.length + (0 + 1) + k by omega]
      exact this
theorem before_closed {os : List Oper} {p : Nat → Bool} (hp : ∀ k o, os[k]? = some o → p k = true → ∀ e ∈ edgesOf o, p e = true) : ∀ k j, k < os.length → p k = true → ((befores os []).getD k 0).testBit j = true → p j = true := by
  intro k
  induction k using Nat.strongRecOn with
  | _ k ih =>
    intro j hk hpk hj
    obtain ⟨⟨t, h1, h2⟩, h3⟩ := befores_spec os []
    have h4 := h3 k os[k] (List.getElem?_eq_getElem hk)
    simp only [List.length_nil, Nat.zero_add] at h4
    rw [List.getD_eq_getElem?_getD, h4, Option.getD_some] at hj
    rcases beforeOf_bit _ _ hj with hj | ⟨e, he, hj⟩
    · simp at hj
    · have hpe := hp k os[k] (List.getElem?_eq_getElem hk) hpk e he
      rcases hj with rfl | hj
      · exact hpe
      · by_cases hek : e < k
        · refine ih e hek j (by omega) hpe ?_
          rw [List.getD_eq_getElem?_getD] at hj ⊢
          rwa [List.getElem?_take, if_pos hek] at hj
        · rw [List.getD_eq_getElem?_getD, List.getElem?_take, if_neg hek] at hj
          simp at hj
def selL (F : Nat → List PV → List PV) (p : Nat → Bool) (l : List Nat) (s : List PV) : List PV := l.foldl (fun s i => if p i then F i s else s) s
theorem range_split {n j : Nat} (h : j < n) : List.range n = List.range j ++ j :: (List.range' (j + 1) (n - (j + 1))) := by
  rw [List.range_eq_range', List.range_eq_range', show n = j + (1 + (n - (j + 1))) by omega, ← List.range'_append_1, ← List.range'_append_1]
  simp [List.range', Nat.add_comm]
  omega
theorem selL_append {F : Nat → List PV → List PV} (p : Nat → Bool) (l m : List Nat) (s : List PV) : selL F p (l ++ m) s = selL F p m (selL F p l s) := by simp [selL]
section
variable {F : Nat → List PV → List PV} {W : Nat → List Nat} (hF : ∀ i, Slotwise (F i) (W i))
include hF
theorem sel_rest {p : Nat → Bool} {t : Nat} : ∀ (l : List Nat) (s : List PV), (∀ i ∈ l, p i = true → t ∉ W i) → obs (selL F p l s) t = obs s t
  | [], s, _ => rfl
  | i :: l, s, h => by
    simp only [selL, List.foldl_cons]
    have := sel_rest l (if p i then F i s else s) (fun i hi => h i (by simp [hi]))
    simp only [selL] at this
    rw [this]
    split
    · rename_i hp
      exact (hF i).rest s t (h i (by simp) hp)
    · rfl
theorem sel_alike {p q : Nat → Bool} {t : Nat} : ∀ (l : List Nat) (s s' : List PV), obs s t = obs s' t → (∀ i ∈ l, p i = q i ∨ t ∉ W i) → obs (selL F p l s) t = obs (selL F q l s') t
  | [], s, s', e, _ => e
  | i :: l, s, s', e, h => by
    simp only [selL, List.foldl_cons]
    refine sel_alike l _ _ ?_ (fun i hi => h i (by simp [hi]))
    rcases h i (by simp) with hpq | hw
    · rw [hpq]
      split
      · exact (hF i).slot s s' t e
      · exact e
    · have r1 : obs (if p i then F i s else s) t = obs s t := by split; exact (hF i).rest s t hw; rfl
      have r2 : obs (if q i then F i s' else s') t = obs s' t := by split; exact (hF i).rest s' t hw; rfl
      rw [r1, r2, e]
theorem sel_step {p : Nat → Bool} {n j : Nat} (hj : j < n) (hpj : p j = false) (s : List PV) (hw : ∀ i, j < i → i < n → p i = true → ∀ t ∈ W j, t ∉ W i) :
    F j (selL F p (List.range n) s) = selL F (fun i => p i || i == j) (List.range n) s := by
  apply ext_obs
  intro t
  by_cases ht : t ∈ W j
  · rw [range_split hj, selL_append, selL_append]
    have hx : selL F (fun i => p i || i == j) (List.range j) s = selL F p (List.range j) s := by
      have : ∀ (l : List Nat) (s : List PV), (∀ i ∈ l, i < j) → selL F (fun i => p i || i == j) l s = selL F p l s := by
        intro l
        induction l with
        | nil => intro s _; rfl
        | cons i l ih =>
          intro s h
          have hi : (i == j) = false := by have := h i (by simp); simp; omega
          have := ih (if p i then F i s else s) (fun i hi => h i (by simp [hi]))
          simp only [selL, List.foldl_cons, hi, Bool.or_false] at this ⊢
          exact this
      exact this _ s (fun i hi => List.mem_range.1 hi)
    rw [hx]
    generalize selL F p (List.range j) s = X
    have e1 : selL F p (j :: List.range' (j + 1) (n - (j + 1))) X = selL F p (List.range' (j + 1) (n - (j + 1))) X := by simp [selL, hpj]
    have e2 : selL F (fun i => p i || i == j) (j :: List.range' (j + 1) (n - (j + 1))) X = selL F (fun i => p i || i == j) (List.range' (j + 1) (n - (j + 1))) (F j X) := by simp [selL]
    rw [e1, e2, sel_rest hF _ _ (fun i hi hp => ?_)]
    · refine (hF j).slot _ _ t (sel_rest hF _ _ fun i hi hp => ?_)
      obtain ⟨q1, q2⟩ := List.mem_range'_1.1 hi
      exact hw i (by omega) (by omega) hp t ht
    · obtain ⟨q1, q2⟩ := List.mem_range'_1.1 hi
      have hij : (i == j) = false := by simp; omega
      simp only [hij, Bool.or_false] at hp
      exact hw i (by omega) (by omega) hp t ht
  · rw [(hF j).rest _ t ht]
    refine sel_alike hF _ _ _ rfl fun i hi => ?_
    by_cases hij : i = j
    · subst hij; exact .inr ht
    · left
      have : (i == j) = false := by simp [hij]
      simp [this]
theorem sel_reads {p : Nat → Bool} {n j t : Nat} (hj : j < n) (hpj : p j = false) (s : List PV) (h1 : ∀ i, i < j → p i = true ∨ t ∉ W i) (h2 : ∀ i, j < i → i < n → p i = true → t ∉ W i) :
    obs (selL F (fun _ => true) (List.range j) s) t = obs (selL F p (List.range n) s) t := by
  rw [range_split hj, selL_append]
  have e1 : ∀ X, selL F p (j :: List.range' (j + 1) (n - (j + 1))) X = selL F p (List.range' (j + 1) (n - (j + 1))) X := fun X => by simp [selL, hpj]
  rw [e1, sel_rest hF (List.range' _ _) _ (fun i hi hp => ?_)]
  · refine sel_alike hF _ _ _ rfl fun i hi => ?_
    rcases h1 i (List.mem_range.1 hi) with h | h
    · exact .inl h.symm
    · exact .inr h
  · obtain ⟨q1, q2⟩ := List.mem_range'_1.1 hi
    exact h2 i (by omega) (by omega) hp
end
end Go.Proofs.YtjcjbpbkakfjdaaDoor.E
/- A logic of plain values, part 25: .. (4): the model's region. -/
namespace Go.Proofs.YtjcjbpbkakfjdaaDoor.E
open Go Go.RowKit
set_option linter.unusedVariables false
set_option linter.unusedSimpArgs false
variable {dq : List Deferred}
theorem hpAt_succ : ∀ {tr : Trc} {H : Heap} {k : Nat} {f : List PV → List PV} {H' : Heap}, tr[k]? = some (f, H') → hpAt tr H (k + 1) = H'
  | [], H, k, f, H', h => by simp at h
  | p :: tr, H, 0, f, H', h => by
    simp at h
    subst h
    simp [hpAt]
  | p :: tr, H, k + 1, f, H', h => by
    simp at h
    simp only [hpAt]
    exact hpAt_succ h
theorem isLd_nsto {k : PK} (h : isLd k = true) : isSto k = false := by
  cases k with
  | ld s ag tk x => cases tk <;> first | rfl | cases h
  | _ => cases h
theorem Ev_nonsto {P : Program} {op : POp} {st : List PV} {H H' : Heap} {f : List PV → List PV} (h : Ev P op st H f H') (hs : isSto op.k = false) : H' = H := by
  obtain ⟨H2, _, q, _⟩ := Ev_same (st' := st) (H2 := H) (fun _ _ => rfl) h (fun e => absurd e (by rw [hs]; simp)) (fun _ _ r hr => hr)
  exact (q hs).1
theorem stAt_sel (tr : Trc) (st : List PV) (j : Nat) (hj : j ≤ tr.length) : stAt tr st j = selL (fun i => (tr.getD i ((fun s => s), [])).1) (fun _ => true) (List.range j) st := by
  induction j with
  | zero => rfl
  | succ j ih =>
    have hlt : j < tr.length := by omega
    rw [List.range_succ, selL_append, ← ih (by omega)]
    unfold stAt
    rw [List.take_succ_eq_append_getElem hlt, List.foldl_append]
    simp [selL, List.getD, List.getElem?_eq_getElem hlt]
section
variable {P : Program} {hint : Hint} {out : List Nat} {st : List PV} {H : Heap} {K : List PV → Heap → Prop}
theorem compOps_get : ∀ {all : Array Oper} {os : List Oper} {ps : List POp}, compOps P hint all os = some ps → ps.length = os.length ∧ ∀ (k : Nat) (o : Oper), os[k]? = some o → ∃ q : POp, ps[k]? = some q ∧ compOp P (rh P hint all) o = some q.k ∧ compGd all o.guard = some q.gd ∧ q.dst = o.dst
  | all, [], ps, h => by cases h; exact ⟨rfl, fun k o e => by simp at e⟩
  | all, o :: os, ps, h => by
    obtain ⟨k, hk, h⟩ := bind_spec h
    obtain ⟨gd, hg, h⟩ := bind_spec h
    obtain ⟨qs, hq, rfl⟩ := map_spec h
    obtain ⟨i1, i2⟩ := compOps_get hq
    refine ⟨by simp [i1], fun j o' e => ?_⟩
    cases j with
    | zero =>
      simp at e
      subst e
      exact ⟨_, rfl, hk, hg, rfl⟩
    | succ j => exact i2 j o' (by simpa using e)
theorem drew_rel {a : Act} {w : World} {g : Ghost} (h : Rel dq out st H a w g) : Rel dq out st H a { w with drawn := w.drawn + 1 } g ∧ Evol out w g { w with drawn := w.drawn + 1 } g := by
  have hE : ∀ o : List Nat, Evol o w g { w with drawn := w.drawn + 1 } g := fun o => ⟨rfl, rfl, rfl, Nat.le_refl _, fun _ _ h => ⟨rfl, h⟩, fun b f c e fz _ h hc => ⟨c, fz, hc, rfl, .inr ⟨f, Nat.le_refl _, h⟩⟩, fun _ _ => ⟨rfl, rfl⟩⟩
  obtain ⟨q1, q2⟩ := HRel.keep (hE (toksH w H)) (fun b hb => ⟨rfl, hb⟩) h.hp (fun _ h => h)
  exact ⟨⟨⟨h.wr.fresh, h.wr.tl, h.wr.outT⟩, q1, VRl_mono (hE (toksL st a.tmps.toList)) true st _ (fun _ _ h => h) h.tm, fun b => by rw [q2]; exact h.un b, h.df⟩, hE out⟩
theorem draw_core {all : Array Oper} {pops : List POp} {late : List (Nat × Nat)} (hlen : pops.length = all.size) (hd : drawLate all.toList pops = some late) (hplan : planOps P late pops 0 [] [] K st H)
    {a0 : Act} {w0 : World} {QQ : Exit → Act → World → Prop} {R : (Nat → Bool) → List PV → Heap → Act → World → Prop} (h0 : R (fun _ => false) st H a0 w0)
    (hstp : ∀ (j : Nat) (o : Oper) (q : POp) (l : Nat → Bool) (st : List PV) (H : Heap) (f : List PV → List PV) (H' : Heap) (a : Act) (w : World) (N : Act → World → Prop), all[j]? = some o → pops[j]? = some q → R l st H a w → Ev P q st H f H' → l j = false →
      (∀ i p, i < j → pops[i]? = some p → indepB p q = false → l i = true) → (∀ i p, j < i → i < all.size → pops[i]? = some p → indepB q p = false → l i = false) →
      (∀ a' w', R (fun k => l k || k == j) (f st) H' a' w' → N a' w') → wpOp P all QQ j N a w)
    (hQ : ∀ l a' w' st' H', (∀ k, k < all.size → l k = true) → K st' H' → R l st' H' a' w' → QQ .normal a' w') :
    wpAny P .any all QQ all.size (Array.replicate all.size false) a0 w0 := by
  obtain ⟨tr, hT⟩ := plan_told hplan
  have hn : pops.length = all.size := hlen
  have htl : tr.length = all.size := by rw [hT.len, hn]
  -- the looks at the edges
  unfold drawLate at hd
  simp only at hd
  obtain ⟨hchk, hlate⟩ := ite_spec hd
  simp only [Option.some.injEq] at hlate
  simp only [Bool.and_eq_true, List.all_eq_true, List.mem_range, decide_eq_true_eq, Bool.or_eq_true] at hchk
  obtain ⟨hedge, hord⟩ := hchk
  have hsz : all.toList.length = all.size := rfl
  rw [hsz] at hedge hord hlate
  have opOf : ∀ j, j < all.size → ∃ o q, all[j]? = some o ∧ pops[j]? = some q ∧ True := fun j hj => ⟨all[j], pops[j]'(by omega), Array.getElem?_eq_getElem hj, List.getElem?_eq_getElem (by omega), trivial⟩
  have popD : ∀ j q, pops[j]? = some q → pops.getD j default = q := fun j q h => by rw [List.getD_eq_getElem?_getD, h]; rfl
  have hbefore : ∀ (p : Nat → Bool), (∀ k o, all.toList[k]? = some o → p k = true → ∀ e ∈ edgesOf o, p e = true) → ∀ k j, k < all.size → p k = true → ((befores all.toList []).getD k 0).testBit j = true → p j = true := fun p hp k j hk => before_closed hp k j hk
  -- what two operations without an order between them have apart
  have hind : ∀ j k qj qk, j < k → k < all.size → pops[j]? = some qj → pops[k]? = some qk → ((befores all.toList []).getD k 0).testBit j = false →
      (∀ t ∈ writesOf qj, t ∉ readsOf qk ∧ t ∉ writesOf qk) ∧ (∀ t ∈ writesOf qk, t ∉ readsOf qj) ∧ ¬ (isSto qj.k = true ∧ isSto qk.k = true) ∧ (isLd qj.k = true → isSto qk.k = true → (j, k) ∈ late) ∧ (isSto qj.k = true → isLd qk.k = true → (k, j) ∈ late) := by
    intro j k qj qk hjk hk e1 e2 hb
    have h1 := (hord k hk j hjk).resolve_left (by rw [hb]; simp)
    rw [popD j qj e1, popD k qk e2] at h1
    simp only [indepB, apartB, Bool.and_eq_true, List.all_eq_true, Bool.not_eq_true', List.contains_eq_mem, decide_eq_false_iff_not, List.mem_append, not_or] at h1
    obtain ⟨⟨⟨⟨i1, i2⟩, i3⟩, _⟩, _⟩ := h1
    have hl : ∀ p ∈ latePairs j k qj qk, p ∈ late := fun p hp => by
      rw [← hlate]
      refine List.mem_flatMap.2 ⟨k, List.mem_range.2 hk, List.mem_flatMap.2 ⟨j, List.mem_range.2 hjk, ?_⟩⟩
      rw [hb, popD j qj e1, popD k qk e2]
      simpa using hp
    refine ⟨i1, i2, fun ⟨s1, s2⟩ => ?_, fun l s => hl _ ?_, fun s l => hl _ ?_⟩
    · rw [s1, s2] at i3; cases i3
    · simp [latePairs, l, s]
    · simp [latePairs, l, s]
  have hnc : ∀ j s qs, (j, s) ∈ late → pops[s]? = some qs → isCpy qs.k = false := by
    intro j s qs h e
    rw [← hlate] at h
    obtain ⟨k, hk, h⟩ := List.mem_flatMap.1 h
    obtain ⟨i, hi, h⟩ := List.mem_flatMap.1 h
    rw [List.mem_range] at hk hi
    split at h
    · cases h
    · rename_i hb
      have h1 := (hord k hk i hi).resolve_left hb
      simp only [indepB, Bool.and_eq_true, Bool.not_eq_true'] at h1
      obtain ⟨⟨⟨_, _⟩, i4⟩, i5⟩ := h1
      simp only [latePairs, List.mem_append] at h
      rcases h with h | h
      · split at h
        · rename_i hc
          simp only [List.mem_singleton, Prod.mk.injEq] at h
          obtain ⟨rfl, rfl⟩ := h
          rw [popD _ qs e] at i4
          simp only [Bool.and_eq_true] at hc
          rw [hc.1] at i4
          simpa using i4
        · cases h
      · split at h
        · rename_i hc
          simp only [List.mem_singleton, Prod.mk.injEq] at h
          obtain ⟨rfl, rfl⟩ := h
          rw [popD _ qs e] at i5
          simp only [Bool.and_eq_true] at hc
          rw [hc.2] at i5
          simpa using i5
        · cases h
  generalize hF : (fun i => (tr.getD i ((fun s => s), [])).1) = F
  have hFi : ∀ i f H', tr[i]? = some (f, H') → F i = f := fun i f H' h => by rw [← hF]; simp only [List.getD_eq_getElem?_getD, h, Option.getD_some]
  have hW : ∀ i, Slotwise (F i) (writesOf (pops.getD i default)) := fun i => by
    by_cases hi : i < all.size
    · obtain ⟨o, q, _, q1, _⟩ := opOf i hi
      obtain ⟨f, H', t1, t2⟩ := hT.ev i q q1
      rw [hFi i f H' t1, popD i q q1]
      exact Ev_local t2
    · have : tr[i]? = none := List.getElem?_eq_none (by omega)
      rw [← hF]
      simp only [List.getD_eq_getElem?_getD, this, Option.getD_none]
      exact Slotwise.id.sub (by simp)
  -- the blocks between stores
  have hconst' : ∀ d m, m + d ≤ all.size → (∀ s q, m ≤ s → s < m + d → pops[s]? = some q → isSto q.k = false) → hpAt tr H m = hpAt tr H (m + d) := by
    intro d
    induction d with
    | zero => intro m _ _; rfl
    | succ d ih =>
      intro m hm hs
      rw [ih m (by omega) (fun s q h1 h2 => hs s q h1 (by omega))]
      obtain ⟨o, q, _, q1, _⟩ := opOf (m + d) (by omega)
      obtain ⟨f, H', t1, t2⟩ := hT.ev (m + d) q q1
      rw [← Nat.add_assoc, hpAt_succ t1]
      exact (Ev_nonsto t2 (hs (m + d) q (by omega) (by omega) q1)).symm
  have hconst : ∀ m m', m ≤ m' → m' ≤ all.size → (∀ s q, m ≤ s → s < m' → pops[s]? = some q → isSto q.k = false) → hpAt tr H m = hpAt tr H m' := fun m m' h1 h2 h3 => by
    have := hconst' (m' - m) m (by omega) (fun s q q1 q2 => h3 s q q1 (by omega))
    rwa [show m + (m' - m) = m' by omega] at this
  -- what a load sees while stores that no edge orders pass
  have hload : ∀ j qj, j < all.size → pops[j]? = some qj → isLd qj.k = true → liveAt (stAt tr st j) qj → ∀ d m, m + d ≤ all.size →
      (∀ s q, m ≤ s → s < m + d → pops[s]? = some q → isSto q.k = true → (j, s) ∈ late) → ∀ r, pev (stAt tr st j) (hpAt tr H m) qj.k = some r ↔ pev (stAt tr st j) (hpAt tr H (m + d)) qj.k = some r := by
    intro j qj hj hqj hld hlv d
    induction d with
    | zero => intro m _ _ r; exact Iff.rfl
    | succ d ih =>
      intro m hm hs r
      rw [ih m (by omega) (fun s q h1 h2 => hs s q h1 (by omega)) r]
      obtain ⟨o, q, _, q1, _⟩ := opOf (m + d) (by omega)
      obtain ⟨f, H', t1, t2⟩ := hT.ev (m + d) q q1
      rw [← Nat.add_assoc, hpAt_succ t1]
      by_cases hsq : isSto q.k = true
      · have hlt := hs (m + d) q (by omega) (by omega) q1 hsq
        -- a store
        have key : ∀ (hE0 : Ev0 P q (stAt tr st (m + d)) (hpAt tr H (m + d)) f H'), liveAt (stAt tr st (m + d)) q → (pev (stAt tr st j) (hpAt tr H (m + d)) qj.k = some r ↔ pev (stAt tr st j) H' qj.k = some r) := by
          intro hE0 hlvs
          unfold Ev0 at hE0
          have hncq := hnc _ _ _ hlt q1
          cases hk : q.k <;> rw [hk] at hsq hE0 hncq <;> (first | (cases hsq; done) | (cases hncq; done) | skip)
          case ld s ag tk x =>
            cases tk with
            | false => cases hsq
            | true =>
              obtain ⟨b, off, cs, r2, p1, p2, p3, p4, p5, rfl⟩ := hE0
              have hll : (lendL ((cs.drop off).take s)).length = s := by rw [lendL_eq_map, List.length_map, List.length_take, List.length_drop]; omega
              have := ld_hset (st := stAt tr st j) (ds := lendL ((cs.drop off).take s)) p2 (by rw [hll]; exact p4) hld (r := r) fun c hcc => by
                rw [hll]
                exact hT.pr j (m + d) qj q hqj q1 hlv hlvs c _ hcc (by rw [hk]; simp [stCells, p1]) (by simpa using hlt)
              rw [hll] at this
              exact this
          obtain ⟨b, off, cs, p1, p2, p3, p4, p5, p6, rfl⟩ := hE0
          subst p3
          refine ld_hset p2 p4 hld fun c hcc => ?_
          exact hT.pr j (m + d) qj q hqj q1 hlv hlvs c _ hcc (by rw [hk]; simp [stCells, p1]) (by simpa using hlt)
        unfold Ev at t2
        split at t2
        · rename_i hg
          exact key t2 (by unfold liveAt; rw [hg]; trivial)
        · rename_i t want hg
          obtain ⟨b, hb, t2⟩ := t2
          split at t2
          · rename_i hbw
            exact key t2 (by unfold liveAt; rw [hg]; show _ = _; rw [hb, hbw])
          · rw [t2.2]
      · rw [Ev_nonsto t2 (by simpa using hsq)]
  -- the induction over what has been done
  have main : ∀ (fuel : Nat) (listed : Array Bool) (a : Act) (w : World), listed.size = all.size → fuel + listed.toList.count true = all.size →
      (∀ k o, all.toList[k]? = some o → listed.getD k false = true → ∀ e ∈ edgesOf o, listed.getD e false = true) →
      (∃ m, R (fun k => listed.getD k false) (selL F (fun i => listed.getD i false) (List.range all.size) st) (hpAt tr H m) a w ∧ m ≤ all.size ∧ ∀ s q, pops[s]? = some q → isSto q.k = true → (s < m ↔ listed.getD s false = true)) →
      wpAny P .any all QQ fuel listed a w := by
    have getDt : ∀ (l : Array Bool) k, l.size = all.size → k < all.size → l.getD k true = l.getD k false := fun l k hl hk => by
      simp [Array.getD_eq_getD_getElem?, Array.getElem?_eq_getElem (show k < l.size by omega)]
    have allTrue : ∀ (l : Array Bool), l.size = all.size → Region.ready .any all l = [] → ∀ k, k < all.size → l.getD k false = true := by
      intro l hl hr k
      induction k using Nat.strongRecOn with
      | _ k ih =>
        intro hk
        cases hf : l.getD k false with
        | true => rfl
        | false =>
          have : k ∈ Region.ready .any all l := by
            refine mem_ready.2 ⟨by rw [getDt l k hl hk]; exact hf, all[k], Array.getElem?_eq_getElem hk, fun e he hb => ?_⟩
            have hee : e.on ∈ edgesOf all[k] := List.mem_map.2 ⟨e, List.mem_filter.2 ⟨Array.mem_toList_iff.2 he, hb⟩, rfl⟩
            have hlt := hedge k hk e.on (by
              rw [List.getD_eq_getElem?_getD, Array.getElem?_toList, Array.getElem?_eq_getElem hk]
              exact hee)
            exact ih e.on hlt (by omega)
          rw [hr] at this
          cases this
    have finish : ∀ (l : Array Bool) (a : Act) (w : World), l.size = all.size → (∀ k, k < all.size → l.getD k false = true) →
        (∃ m, R (fun k => l.getD k false) (selL F (fun i => l.getD i false) (List.range all.size) st) (hpAt tr H m) a w ∧ m ≤ all.size ∧ ∀ s q, pops[s]? = some q → isSto q.k = true → (s < m ↔ l.getD s false = true)) → QQ .normal a w := by
      rintro l a w hl hall ⟨m, hR, hm, hst⟩
      refine hQ _ a w _ _ hall ?_ hR
      have e1 : selL F (fun i => l.getD i false) (List.range all.size) st = stAt tr st pops.length := by
        rw [stAt_sel tr st pops.length (by omega), hF, hn]
        have : ∀ (r : List Nat) (s : List PV), (∀ i ∈ r, i < all.size) → selL F (fun i => l.getD i false) r s = selL F (fun _ => true) r s := by
          intro r
          induction r with
          | nil => intro s _; rfl
          | cons i r ih =>
            intro s hr
            have := ih (F i s) (fun i hi => hr i (by simp [hi]))
            simp only [selL, List.foldl_cons, hall i (hr i (by simp)), if_true] at this ⊢
            exact this
        exact this _ _ (fun i hi => List.mem_range.1 hi)
      have e2 : hpAt tr H m = hpAt tr H pops.length := by
        rw [hn]
        refine hconst m all.size hm (Nat.le_refl _) fun s q h1 h2 h3 => ?_
        cases hs : isSto q.k with
        | false => rfl
        | true => exact absurd ((hst s q h3 hs).2 (hall s h2)) (by omega)
      rw [e1, e2]
      exact hT.fin
    intro fuel
    induction fuel with
    | zero =>
      intro listed a w hl hcnt hdown hJ
      have hall : ∀ k, k < all.size → listed.getD k false = true := by
        intro k hk
        have h1 : listed.toList.count true = listed.toList.length := by
          show _ = listed.size
          omega
        have h2 := List.count_eq_length.1 h1 listed[k] (Array.mem_toList_iff.2 (Array.getElem_mem _))
        simp [Array.getD_eq_getD_getElem?, Array.getElem?_eq_getElem (show k < listed.size by omega), ← h2]
      refine ⟨?_, finish listed a w hl hall hJ⟩
      apply List.eq_nil_iff_forall_not_mem.2
      intro k hk
      obtain ⟨h1, o, ho, _⟩ := mem_ready.1 hk
      have hlt : k < all.size := (Array.getElem?_eq_some_iff.1 ho).1
      rw [getDt listed k hl hlt, hall k hlt] at h1
      cases h1
    | succ fuel ih =>
      intro listed a w hl hcnt hdown hJ
      refine ⟨fun hr => finish listed a w hl (allTrue listed hl hr) hJ, fun j hj => ?_⟩
      obtain ⟨hjun, o', ho', hjall⟩ := mem_ready.1 hj
      have hjlt : j < all.size := (Array.getElem?_eq_some_iff.1 ho').1
      rw [getDt listed j hl hjlt] at hjun
      obtain ⟨oo, q, ho, hq, _⟩ := opOf j hjlt
      have hoo : o' = oo := by rw [ho] at ho'; exact (Option.some.inj ho').symm
      obtain rfl : oo = o' := hoo.symm
      generalize oo = o at *
      obtain ⟨f, H', t1, t2⟩ := hT.ev j q hq
      obtain ⟨m, hR, hm, hst⟩ := hJ
      have hjdown : ∀ e ∈ edgesOf o, listed.getD e false = true := fun e he => by
        obtain ⟨e', h1, rfl⟩ := List.mem_map.1 he
        obtain ⟨h1, h2⟩ := List.mem_filter.1 h1
        exact hjall e' (Array.mem_toList_iff.1 h1) h2
      -- with j done, too
      have hbj : ∀ i, i < all.size → ((befores all.toList []).getD j 0).testBit i = true → i ≠ j → listed.getD i false = true := fun i hi hb hne => by
        have := hbefore (fun k => listed.getD k false || k == j) (fun k o2 hk2 hp e he => by
          simp only [Bool.or_eq_true, beq_iff_eq] at hp ⊢
          rcases hp with hp | rfl
          · exact .inl (hdown k o2 hk2 hp e he)
          · have : o2 = o := by rw [Array.getElem?_toList, ho] at hk2; exact (Option.some.inj hk2).symm
            subst this
            exact .inl (hjdown e he)) j i hjlt (by simp) hb
        simpa [hne] using this
      have hnj : ∀ k, j < k → k < all.size → listed.getD k false = true → ((befores all.toList []).getD k 0).testBit j = false := fun k hjk hk hlk => by
        cases hb : ((befores all.toList []).getD k 0).testBit j with
        | false => rfl
        | true =>
          have := hbefore (fun k => listed.getD k false) hdown k j hk hlk hb
          rw [hjun] at this
          cases this
      -- what j reads is as in the text's order
      have hreads : Same (readsOf q) (stAt tr st j) (selL F (fun i => listed.getD i false) (List.range all.size) st) := by
        intro t ht
        rw [stAt_sel tr st j (by omega), hF]
        refine sel_reads hW hjlt hjun st (fun i hi => ?_) (fun i hji hi hli => ?_)
        · cases hb : ((befores all.toList []).getD j 0).testBit i with
          | true => exact .inl (hbj i (by omega) hb (by omega))
          | false =>
            obtain ⟨oi, qi, _, hqi, _⟩ := opOf i (by omega)
            rw [popD i qi hqi]
            exact .inr fun hw => ((hind i j qi q hi hjlt hqi hq hb).1 t hw).1 ht
        · obtain ⟨oi, qi, _, hqi, _⟩ := opOf i hi
          rw [popD i qi hqi]
          exact fun hw => (hind j i q qi hji hi hq hqi (hnj i hji hi hli)).2.1 t hw ht
      have hstore : isSto q.k = true → hpAt tr H j = hpAt tr H m ∧ m ≤ j := by
        intro hs
        have hmj : m ≤ j := by
          rcases Nat.lt_or_ge j m with h | h
          · have := (hst j q hq hs).1 h
            rw [hjun] at this
            cases this
          · exact h
        refine ⟨(hconst m j hmj (by omega) fun s qs h1 h2 h3 => ?_).symm, hmj⟩
        cases hss : isSto qs.k with
        | false => rfl
        | true =>
          -- stores are in order
          cases hb : ((befores all.toList []).getD j 0).testBit s with
          | true => exact absurd ((hst s qs h3 hss).2 (hbj s (by omega) hb (by omega))) (by omega)
          | false => exact absurd ⟨hss, hs⟩ (hind s j qs q h2 hjlt h3 hq hb).2.2.1
      have hld : liveAt (stAt tr st j) q → isLd q.k = true → ∀ r, pev (stAt tr st j) (hpAt tr H j) q.k = some r → pev (stAt tr st j) (hpAt tr H m) q.k = some r := by
        intro hlv hl2 r hr
        have hns : isSto q.k = false := isLd_nsto hl2
        rcases Nat.le_total m j with hmj | hmj
        · have := hload j q hjlt hq hl2 hlv (j - m) m (by omega) (fun s qs h1 h2 h3 h4 => by
            cases hb : ((befores all.toList []).getD j 0).testBit s with
            | true => exact absurd ((hst s qs h3 h4).2 (hbj s (by omega) hb (by omega))) (by omega)
            | false => exact (hind s j qs q (by omega) hjlt h3 hq hb).2.2.2.2 h4 hl2) r
          rw [show m + (j - m) = j by omega] at this
          exact this.2 hr
        · have := hload j q hjlt hq hl2 hlv (m - j) j (by omega) (fun s qs h1 h2 h3 h4 => by
            have hne : s ≠ j := fun e => by subst e; rw [hq] at h3; cases h3; rw [hns] at h4; cases h4
            have hls : listed.getD s false = true := (hst s qs h3 h4).1 (by omega)
            exact (hind j s q qs (by omega) (by omega) hq h3 (hnj s (by omega) (by omega) hls)).2.2.2.1 hl2 h4) r
          rw [show j + (m - j) = m by omega] at this
          exact this.1 hr
      obtain ⟨H2', hEv, hEn, hEs⟩ := Ev_same hreads t2 (fun hs => (hstore hs).1) hld
      -- the next state
      have hFj : F j = f := hFi j f H' t1
      have hnext : ∀ (a' : Act) (w' : World), R (fun k => listed.getD k false || k == j) (f (selL F (fun i => listed.getD i false) (List.range all.size) st)) H2' a' w' → wpAny P .any all QQ fuel (listed.setIfInBounds j true) a' w' := by
        intro a' w' hR'
        have hgs : ∀ k, (listed.setIfInBounds j true).getD k false = (listed.getD k false || k == j) := fun k => by
          by_cases hkj : k = j
          · subst hkj
            simp [Array.getD_eq_getD_getElem?, Array.getElem?_setIfInBounds, show k < listed.size by omega]
          · rw [getD_set_ne false (Ne.symm hkj)]
            simp [hkj]
        refine ih _ a' w' (by simp [hl]) ?_ (fun k o2 hk2 hlk e he => ?_) ⟨if isSto q.k then j + 1 else m, ?_, ?_, fun s qs h3 h4 => ?_⟩
        · have hjl : j < listed.toList.length := by show j < listed.size; omega
          have hfalse : listed.toList[j] = false := by
            have : listed[j]'(by omega) = false := by
              simpa [Array.getD_eq_getD_getElem?, Array.getElem?_eq_getElem (show j < listed.size by omega)] using hjun
            simpa using this
          rw [Array.toList_setIfInBounds, List.count_set hjl, hfalse]
          rw [if_neg (by simp), if_pos (by simp)]
          omega
        · rw [hgs] at hlk ⊢
          simp only [Bool.or_eq_true, beq_iff_eq] at hlk ⊢
          rcases hlk with hlk | rfl
          · exact .inl (hdown k o2 hk2 hlk e he)
          · have : o2 = o := by rw [Array.getElem?_toList, ho] at hk2; exact (Option.some.inj hk2).symm
            subst this
            exact .inl (hjdown e he)
        · have e1 : selL F (fun i => (listed.setIfInBounds j true).getD i false) (List.range all.size) st = f (selL F (fun i => listed.getD i false) (List.range all.size) st) := by
            rw [← hFj, sel_step hW hjlt hjun st (fun i hji hi hli t ht => ?_)]
            · congr 1
              funext i
              exact hgs i
            · obtain ⟨oi, qi, _, hqi, _⟩ := opOf i hi
              rw [popD j q hq] at ht
              rw [popD i qi hqi]
              exact ((hind j i q qi hji hi hq hqi (hnj i hji hi hli)).1 t ht).2
          rw [e1, show (fun k => (listed.setIfInBounds j true).getD k false) = fun k => listed.getD k false || k == j from funext hgs]
          cases hs : isSto q.k with
          | true =>
            simp only [if_true]
            rw [hpAt_succ t1, ← hEs hs]
            exact hR'
          | false =>
            simp only [Bool.false_eq_true, if_false]
            rw [← (hEn hs).2]
            exact hR'
        · split <;> omega
        · rw [hgs]
          simp only [Bool.or_eq_true, beq_iff_eq]
          cases hs : isSto q.k with
          | true =>
            simp only [if_true]
            have hmj := (hstore hs).2
            constructor
            · intro h
              by_cases hsj : s = j
              · exact .inr hsj
              · left
                cases hb : ((befores all.toList []).getD j 0).testBit s with
                | true => exact hbj s (by omega) hb hsj
                | false => exact absurd ⟨h4, hs⟩ (hind s j qs q (by omega) hjlt h3 hq hb).2.2.1
            · rintro (h | h)
              · have := (hst s qs h3 h4).2 h
                omega
              · omega
          | false =>
            simp only [Bool.false_eq_true, if_false]
            constructor
            · intro h
              exact .inl ((hst s qs h3 h4).1 h)
            · rintro (h | h)
              · exact (hst s qs h3 h4).2 h
              · subst h
                rw [hq] at h3
                cases h3
                rw [hs] at h4
                cases h4
      exact hstp j o q _ _ _ f H2' a w _ ho hq hR hEv hjun (fun i p hi hp hip => by
        cases hb : ((befores all.toList []).getD j 0).testBit i with
        | true => exact hbj i (by omega) hb (by omega)
        | false =>
          have h1 := (hord j hjlt i hi).resolve_left (by rw [hb]; simp)
          rw [popD i p hp, popD j q hq, hip] at h1
          cases h1) (fun i p hi hia hp hip => by
        cases hli : listed.getD i false with
        | false => rfl
        | true =>
          have hb := hnj i hi hia hli
          have h1 := (hord i hia j hi).resolve_left (by rw [hb]; simp)
          rw [popD i p hp, popD j q hq, hip] at h1
          cases h1) hnext
  refine main all.size (Array.replicate all.size false) a0 w0 (by simp) (by simp [List.count_replicate]) (fun k o _ h => ?_) ⟨0, ?_, Nat.zero_le _, fun s q _ _ => ?_⟩
  · simp [Array.getD_eq_getD_getElem?, Array.getElem?_replicate] at h
    split at h <;> simp at h
  · have : ∀ (l : List Nat), selL F (fun i => (Array.replicate all.size false).getD i false) l st = st := by
      intro l
      have hp : ∀ i, (Array.replicate all.size false).getD i false = false := fun i => by
        simp [Array.getD_eq_getD_getElem?, Array.getElem?_replicate]
        split <;> rfl
      simp only [selL, hp]
      induction l with
      | nil => rfl
      | cons i l ih => simpa using ih
    rw [this, show hpAt tr H 0 = H by cases tr <;> rfl]
    rw [show (fun k => (Array.replicate all.size false).getD k false) = fun _ => false from funext fun k => by
      simp [Array.getD_eq_getD_getElem?, Array.getElem?_replicate]
      split <;> rfl]
    exact h0
  · constructor
    · intro h; omega
    · intro h
      simp [Array.getD_eq_getD_getElem?, Array.getElem?_replicate] at h
      split at h <;> simp at h
theorem op_any {a : Act} {w : World} {g : Ghost} {all : Array Oper} {j : Nat} {o : Oper} {q : POp} {f : List PV → List PV} {H' : Heap} {QQ : Exit → Act → World → Prop} {N : Act → World → Prop} (ho : all[j]? = some o) (hk : compOp P (rh P hint all) o = some q.k) (hgd : compGd all o.guard = some q.gd) (hdst : q.dst = o.dst)
    (hR : Rel dq out st H a w g) (hEv : Ev P q st H f H') (hN : ∀ a' w' g', Rel dq out (f st) H' a' w' g' → Evol out w g w' g' → N a' w') : wpOp P all QQ j N a w := by
  have hstep : Ev0 P q st H f H' → o.wp P a w N QQ := fun hE0 =>
    Oper.wp_mono (fun a' w' ⟨st', H3, g', ⟨q1, q2⟩, q3, q4⟩ => by subst q1 q2; exact hN a' w' g' q3 q4) (Ev0_step (K := fun s2 H3 => s2 = f st ∧ H3 = H') hk hdst hR hE0 ⟨rfl, rfl⟩)
  unfold wpOp
  simp only [ho]
  obtain ⟨w1, w2⟩ := wanted_spec hgd hR.tm
  unfold Ev at hEv
  cases hg : q.gd with
  | none =>
    rw [hg] at hEv
    rw [if_pos (w1 hg)]
    exact .inl (hstep hEv)
  | some p =>
    obtain ⟨t, want⟩ := p
    rw [hg] at hEv
    obtain ⟨b, hb, hEv⟩ := hEv
    have hw := w2 t want b hg hb
    by_cases hbw : b = some want
    · rw [if_pos hbw] at hEv
      rw [if_pos (by rw [hw]; simp [hbw])]
      exact .inl (hstep hEv)
    · rw [if_neg hbw] at hEv
      rw [if_neg (by rw [hw]; simp [hbw])]
      obtain ⟨e1, e2⟩ := hEv
      refine hN _ _ g ?_ (Evol.refl _ _ _)
      rw [e1, e2, hdst]
      exact put_rel hR _
theorem draw_sound {all : Array Oper} {pops : List POp} {late : List (Nat × Nat)} (hc : compOps P hint all all.toList = some pops) (hd : drawLate all.toList pops = some late) (hplan : planOps P late pops 0 [] [] K st H)
    {a0 : Act} {w0 : World} {g0 : Ghost} (h0 : Rel dq out st H a0 w0 g0) {QQ : Exit → Act → World → Prop} (hQ : ∀ a' w', After dq out w0 g0 K a' w' → QQ .normal a' w') :
    wpAny P .any all QQ all.size (Array.replicate all.size false) a0 w0 := by
  obtain ⟨hlen, hget⟩ := compOps_get hc
  refine draw_core (R := fun _ st H a w => ∃ g, Rel dq out st H a w g ∧ Evol out w0 g0 w g) hlen hd hplan ⟨g0, h0, Evol.refl _ _ _⟩ ?_ (fun _ a' w' st' H' _ hK ⟨g, h1, h2⟩ => hQ a' w' ⟨st', H', g, hK, h1, h2⟩)
  rintro j o q _ st H f H' a w N ho hq ⟨g, hR, hE⟩ hEv _ _ _ hN
  have ho2 : all.toList[j]? = some o := by rw [Array.getElem?_toList]; exact ho
  obtain ⟨q', q1, q2, q3, q4⟩ := hget j o ho2
  rw [hq] at q1
  cases q1
  exact op_any ho q2 q3 q4 hR hEv fun a' w' g' h1 h2 => hN a' w' ⟨g', h1, hE.trans h2⟩
end
end Go.Proofs.YtjcjbpbkakfjdaaDoor.E
/- A logic of plain values, part 20: the flow of control, and a function's contract. -/
namespace Go.Proofs.YtjcjbpbkakfjdaaDoor.E
open Go Go.RowKit
set_option linter.unusedVariables false
set_option linter.unusedSimpArgs false
variable {dq : List Deferred}
def isAl : PK → Bool
  | .al _ => true
  | _ => false
def touches (o : POp) (d : Nat) : Bool := (readsOf o ++ writesOf o).contains (2 * d) || (readsOf o ++ writesOf o).contains (2 * d + 1)
def newsOf (ps : List POp) : List (Nat × Nat × Nat × Nat) := (List.range ps.length).filterMap fun j => match ps[j]? with
  | some (POp.mk (some d) none (.al cs)) => match ps.findIdx? (fun o => match o.k with | .sto _ (.t t) _ => t == d | _ => false) with
    | some k => some (j, k, d, cs.length)
    | none => none
  | _ => none
def newOk (ps : List POp) (e : Nat × Nat × Nat × Nat) : Bool := match ps[e.1]?, ps[e.2.1]? with
  | some (POp.mk (some d) none (.al cs)), some (POp.mk none none (.sto sz (.t t) v)) => d == e.2.2.1 && t == e.2.2.1 && cs.length == e.2.2.2 && sz == e.2.2.2 && (match v with | .t x => x != t | .c _ => true) && cs.all PV.isCell && decide (e.1 < e.2.1) &&
      (List.range ps.length).all fun i => i == e.1 || i == e.2.1 || !(touches (ps.getD i default) e.2.2.1)
  | _, _ => false
def virtOp (news : List (Nat × Nat × Nat × Nat)) (i : Nat) (o : POp) : POp :=
  match o.k with
  | .al _ => ⟨o.dst, none, .mv false (.c .unit)⟩
  | .sto sz _ v => match news.find? (fun e => e.2.1 == i) with
    | some e => ⟨some e.2.2.1, none, .mvc sz v⟩
    | none => o
  | _ => o
def virt (news : List (Nat × Nat × Nat × Nat)) (ps : List POp) : List POp := (List.range ps.length).map fun i => virtOp news i (ps.getD i default)
def compD (os : List Oper) (ps : List POp) : Option PCode :=
  if ps.any (fun o => isAl o.k) = true then
    (if (newsOf ps).all (newOk ps) = true ∧ (List.range ps.length).all (fun j => !isAl (ps.getD j default).k || (newsOf ps).any (fun e => e.1 == j)) = true ∧ ((newsOf ps).map (·.2.2.1)).Nodup then (drawLate os (virt (newsOf ps) ps)).map fun l => .drawN (virt (newsOf ps) ps) l (newsOf ps) else none)
  else (drawLate os ps).map (.draw ps)
theorem compD_cases {os : List Oper} {ps : List POp} {pc : PCode} (h : compD os ps = some pc) : (∃ l, drawLate os ps = some l ∧ pc = .draw ps l) ∨ (∃ l, drawLate os (virt (newsOf ps) ps) = some l ∧ pc = .drawN (virt (newsOf ps) ps) l (newsOf ps) ∧
    (∀ e ∈ newsOf ps, newOk ps e = true) ∧ (List.range ps.length).all (fun j => !isAl (ps.getD j default).k || (newsOf ps).any (fun e => e.1 == j)) = true ∧ ((newsOf ps).map (·.2.2.1)).Nodup) := by
  unfold compD at h
  split at h
  · obtain ⟨⟨h1, h2, h3⟩, h⟩ := ite_spec h
    obtain ⟨l, h4, rfl⟩ := map_spec h
    exact .inr ⟨l, h4, rfl, List.all_eq_true.1 h1, h2, h3⟩
  · obtain ⟨l, h4, rfl⟩ := map_spec h
    exact .inl ⟨l, h4, rfl⟩
def compC (P : Program) (h : Hint) : Code → Option PCode
  | .skip => some .skip
  | .region _ ops draw => (compOps P h ops ops.toList).bind fun ps => if draw = true then compD ops.toList ps else some (.region ps)
  | .seq a b => (compC P h a).bind fun a => (compC P h b).map fun b => .seq a b
  | .cond c a b => (compArg c).bind fun c => (compC P h a).bind fun a => (compC P h b).map fun b => .cond c a b
  | .block id b => (compC P h b).map (.block id)
  | .loop b => (compC P h b).map .loop
  | .exit id => some (.exit id)
  | .ret => some .ret
  | .rangeFunc g ps asg b => (compArg g).bind fun g => (compC P h asg).bind fun x => (compC P h b).bind fun y => if noDef asg = true ∧ noDef b = true then some (.rangeF g ps.toList x y) else none
  | _ => none
def pwp (P : Program) (pc : PCode) (Q : PPost) (st : List PV) (H : Heap) : Prop :=
  ∀ h c, compC P h c = some pc → ∀ r, RD r (noDef c) → ∀ dq out a w g, Rel dq out st H a w g → c.wpIn (WR r) 1 P (PostOf dq out w g Q) a w
section
variable {P : Program} {Q : PPost} {st : List PV} {H : Heap}
theorem pwp_mono {pc : PCode} {Q' : PPost} (h : pwp P pc Q st H) (hq : ∀ e st H, Q e st H → Q' e st H) : pwp P pc Q' st H :=
  fun hh c hc rr hrr dq out a w g hR => wpIn_mono (h hh c hc rr hrr dq out a w g hR) fun e a' w' ⟨pe, st', H', g', h1, h2, h3, h4⟩ => ⟨pe, st', H', g', h1, hq _ _ _ h2, h3, h4⟩
theorem pwp_skip (h : Q .normal st H) : pwp P .skip Q st H := by
  intro hh c hc rr hrr dq out a w g hR
  cases c <;> simp only [compC] at hc
  case skip => exact wpIn_skip ⟨.normal, st, H, g, rfl, h, hR.d, Evol.refl _ _ _⟩
  case region => obtain ⟨ps, _, hc⟩ := bind_spec hc; split at hc; (rcases compD_cases hc with ⟨_, _, hc⟩ | ⟨_, _, hc, _⟩ <;> cases hc); cases hc
  case seq => obtain ⟨_, _, hc⟩ := bind_spec hc; obtain ⟨_, _, hc⟩ := map_spec hc; cases hc
  case cond => obtain ⟨_, _, hc⟩ := bind_spec hc; obtain ⟨_, _, hc⟩ := bind_spec hc; obtain ⟨_, _, hc⟩ := map_spec hc; cases hc
  case block => obtain ⟨_, _, hc⟩ := map_spec hc; cases hc
  case loop => obtain ⟨_, _, hc⟩ := map_spec hc; cases hc
  case rangeFunc => obtain ⟨_, _, hc⟩ := bind_spec hc; obtain ⟨_, _, hc⟩ := bind_spec hc; obtain ⟨_, _, hc⟩ := bind_spec hc; obtain ⟨_, hc⟩ := ite_spec hc; cases hc
  all_goals cases hc
theorem pwp_ret (h : Q .ret st H) : pwp P .ret Q st H := by
  intro hh c hc rr hrr dq out a w g hR
  cases c <;> simp only [compC] at hc
  case ret => exact wpIn_ret ⟨.ret, st, H, g, rfl, h, hR.d, Evol.refl _ _ _⟩
  case region => obtain ⟨ps, _, hc⟩ := bind_spec hc; split at hc; (rcases compD_cases hc with ⟨_, _, hc⟩ | ⟨_, _, hc, _⟩ <;> cases hc); cases hc
  case seq => obtain ⟨_, _, hc⟩ := bind_spec hc; obtain ⟨_, _, hc⟩ := map_spec hc; cases hc
  case cond => obtain ⟨_, _, hc⟩ := bind_spec hc; obtain ⟨_, _, hc⟩ := bind_spec hc; obtain ⟨_, _, hc⟩ := map_spec hc; cases hc
  case block => obtain ⟨_, _, hc⟩ := map_spec hc; cases hc
  case loop => obtain ⟨_, _, hc⟩ := map_spec hc; cases hc
  case rangeFunc => obtain ⟨_, _, hc⟩ := bind_spec hc; obtain ⟨_, _, hc⟩ := bind_spec hc; obtain ⟨_, _, hc⟩ := bind_spec hc; obtain ⟨_, hc⟩ := ite_spec hc; cases hc
  all_goals cases hc
theorem pwp_exit {id : Nat} (h : Q (.exit id) st H) : pwp P (.exit id) Q st H := by
  intro hh c hc rr hrr dq out a w g hR
  cases c <;> simp only [compC] at hc
  case exit id' => cases hc; exact wpIn_exit ⟨.exit id, st, H, g, rfl, h, hR.d, Evol.refl _ _ _⟩
  case region => obtain ⟨ps, _, hc⟩ := bind_spec hc; split at hc; (rcases compD_cases hc with ⟨_, _, hc⟩ | ⟨_, _, hc, _⟩ <;> cases hc); cases hc
  case seq => obtain ⟨_, _, hc⟩ := bind_spec hc; obtain ⟨_, _, hc⟩ := map_spec hc; cases hc
  case cond => obtain ⟨_, _, hc⟩ := bind_spec hc; obtain ⟨_, _, hc⟩ := bind_spec hc; obtain ⟨_, _, hc⟩ := map_spec hc; cases hc
  case block => obtain ⟨_, _, hc⟩ := map_spec hc; cases hc
  case loop => obtain ⟨_, _, hc⟩ := map_spec hc; cases hc
  case rangeFunc => obtain ⟨_, _, hc⟩ := bind_spec hc; obtain ⟨_, _, hc⟩ := bind_spec hc; obtain ⟨_, _, hc⟩ := bind_spec hc; obtain ⟨_, hc⟩ := ite_spec hc; cases hc
  all_goals cases hc
theorem pwp_seq {x y : PCode} (h : pwp P x (thenP (pwp P y Q) Q) st H) : pwp P (.seq x y) Q st H := by
  intro hh c hc rr hrr dq out a w g hR
  cases c <;> simp only [compC] at hc
  case seq c1 c2 =>
    obtain ⟨p1, h1, hc⟩ := bind_spec hc
    obtain ⟨p2, h2, hc⟩ := map_spec hc
    cases hc
    refine wpIn_seq (wpIn_mono (h hh c1 h1 rr hrr.and.1 dq out a w g hR) ?_)
    rintro e a' w' ⟨pe, st', H', g', rfl, hQ, hR', hE⟩
    cases pe with
    | normal =>
      obtain ⟨dq1, hR1, hD1⟩ := hR'
      exact wpIn_mono (hQ hh c2 h2 rr hrr.and.2 dq1 out a' w' g' hR1) fun e a2 w2 hp => hp.after hD1 hE
    | exit id => exact ⟨.exit id, st', H', g', rfl, hQ, hR', hE⟩
    | ret => exact ⟨.ret, st', H', g', rfl, hQ, hR', hE⟩
  case region => obtain ⟨ps, _, hc⟩ := bind_spec hc; split at hc; (rcases compD_cases hc with ⟨_, _, hc⟩ | ⟨_, _, hc, _⟩ <;> cases hc); cases hc
  case cond => obtain ⟨_, _, hc⟩ := bind_spec hc; obtain ⟨_, _, hc⟩ := bind_spec hc; obtain ⟨_, _, hc⟩ := map_spec hc; cases hc
  case block => obtain ⟨_, _, hc⟩ := map_spec hc; cases hc
  case loop => obtain ⟨_, _, hc⟩ := map_spec hc; cases hc
  case rangeFunc => obtain ⟨_, _, hc⟩ := bind_spec hc; obtain ⟨_, _, hc⟩ := bind_spec hc; obtain ⟨_, _, hc⟩ := bind_spec hc; obtain ⟨_, hc⟩ := ite_spec hc; cases hc
  all_goals cases hc
theorem pwp_cond {x y : PCode} {p : Arg} {b : Bool} (hb : argT st p = .bool b) (h1 : b = true → pwp P x Q st H) (h2 : b = false → pwp P y Q st H) : pwp P (.cond p x y) Q st H := by
  intro hh c hc rr hrr dq out a w g hR
  cases c <;> simp only [compC] at hc
  case cond q c1 c2 =>
    obtain ⟨p', hp, hc⟩ := bind_spec hc
    obtain ⟨p1, q1, hc⟩ := bind_spec hc
    obtain ⟨p2, q2, hc⟩ := map_spec hc
    cases hc
    have hv := argT_spec hR.tm hp
    rw [hb] at hv
    exact wpIn_cond_split hv (fun e => h1 e hh c1 q1 rr hrr.and.1 dq out a w g hR) (fun e => h2 e hh c2 q2 rr hrr.and.2 dq out a w g hR)
  case region => obtain ⟨ps, _, hc⟩ := bind_spec hc; split at hc; (rcases compD_cases hc with ⟨_, _, hc⟩ | ⟨_, _, hc, _⟩ <;> cases hc); cases hc
  case seq => obtain ⟨_, _, hc⟩ := bind_spec hc; obtain ⟨_, _, hc⟩ := map_spec hc; cases hc
  case block => obtain ⟨_, _, hc⟩ := map_spec hc; cases hc
  case loop => obtain ⟨_, _, hc⟩ := map_spec hc; cases hc
  case rangeFunc => obtain ⟨_, _, hc⟩ := bind_spec hc; obtain ⟨_, _, hc⟩ := bind_spec hc; obtain ⟨_, _, hc⟩ := bind_spec hc; obtain ⟨_, hc⟩ := ite_spec hc; cases hc
  all_goals cases hc
theorem pwp_block {id : Nat} {x : PCode} (h : pwp P x (inBlockP id Q) st H) : pwp P (.block id x) Q st H := by
  intro hh c hc rr hrr dq out a w g hR
  cases c <;> simp only [compC] at hc
  case block id' c1 =>
    obtain ⟨p1, q1, hc⟩ := map_spec hc
    cases hc
    refine wpIn_block (wpIn_mono (h hh c1 q1 rr hrr dq out a w g hR) ?_)
    rintro e a' w' ⟨pe, st', H', g', rfl, hQ, hR', hE⟩
    cases pe with
    | normal => exact ⟨.normal, st', H', g', rfl, hQ, hR', hE⟩
    | ret => exact ⟨.ret, st', H', g', rfl, hQ, hR', hE⟩
    | exit i =>
      simp only [PExit.conv, Exit.inBlock]
      simp only [inBlockP] at hQ
      split
      · rename_i e; rw [if_pos e] at hQ; exact ⟨.normal, st', H', g', rfl, hQ, hR', hE⟩
      · rename_i e; rw [if_neg e] at hQ; exact ⟨.exit i, st', H', g', rfl, hQ, hR', hE⟩
  case region => obtain ⟨ps, _, hc⟩ := bind_spec hc; split at hc; (rcases compD_cases hc with ⟨_, _, hc⟩ | ⟨_, _, hc, _⟩ <;> cases hc); cases hc
  case seq => obtain ⟨_, _, hc⟩ := bind_spec hc; obtain ⟨_, _, hc⟩ := map_spec hc; cases hc
  case cond => obtain ⟨_, _, hc⟩ := bind_spec hc; obtain ⟨_, _, hc⟩ := bind_spec hc; obtain ⟨_, _, hc⟩ := map_spec hc; cases hc
  case loop => obtain ⟨_, _, hc⟩ := map_spec hc; cases hc
  case rangeFunc => obtain ⟨_, _, hc⟩ := bind_spec hc; obtain ⟨_, _, hc⟩ := bind_spec hc; obtain ⟨_, _, hc⟩ := bind_spec hc; obtain ⟨_, hc⟩ := ite_spec hc; cases hc
  all_goals cases hc
theorem pwp_loop {x : PCode} (R : Nat → List PV → Heap → Prop) {n : Nat} (h0 : R n st H) (h : ∀ n st H, R n st H → pwp P x (thenP (fun st' H' => ∃ m, m < n ∧ R m st' H') Q) st H) : pwp P (.loop x) Q st H := by
  intro hh c hc rr hrr dq out a w g hR
  cases c <;> simp only [compC] at hc
  case loop c1 =>
    obtain ⟨p1, q1, hc⟩ := map_spec hc
    cases hc
    refine loop_WR (I := fun n a' w' => ∃ st' H' g', R n st' H' ∧ RelD dq out w st' H' a' w' g' ∧ Evol out w g w' g') (n := n) ⟨st, H, g, h0, hR.d, Evol.refl _ _ _⟩ ?_
    rintro n a1 w1 ⟨st1, H1, g1, r1, ⟨dq1, r2, rD⟩, r3⟩
    refine wpIn_mono (h n st1 H1 r1 hh c1 q1 rr hrr dq1 out a1 w1 g1 r2) ?_
    rintro e a' w' ⟨pe, st', H', g', rfl, hQ, hR', hE⟩
    cases pe with
    | normal =>
      obtain ⟨m, hm, hr⟩ := hQ
      exact ⟨m, hm, st', H', g', hr, hR'.after rD r3 hE, r3.trans hE⟩
    | exit id => exact ⟨.exit id, st', H', g', rfl, hQ, hR'.after rD r3 hE, r3.trans hE⟩
    | ret => exact ⟨.ret, st', H', g', rfl, hQ, hR'.after rD r3 hE, r3.trans hE⟩
  case region => obtain ⟨ps, _, hc⟩ := bind_spec hc; split at hc; (rcases compD_cases hc with ⟨_, _, hc⟩ | ⟨_, _, hc, _⟩ <;> cases hc); cases hc
  case seq => obtain ⟨_, _, hc⟩ := bind_spec hc; obtain ⟨_, _, hc⟩ := map_spec hc; cases hc
  case cond => obtain ⟨_, _, hc⟩ := bind_spec hc; obtain ⟨_, _, hc⟩ := bind_spec hc; obtain ⟨_, _, hc⟩ := map_spec hc; cases hc
  case block => obtain ⟨_, _, hc⟩ := map_spec hc; cases hc
  case rangeFunc => obtain ⟨_, _, hc⟩ := bind_spec hc; obtain ⟨_, _, hc⟩ := bind_spec hc; obtain ⟨_, _, hc⟩ := bind_spec hc; obtain ⟨_, hc⟩ := ite_spec hc; cases hc
  all_goals cases hc
theorem pwp_region {ops : List POp} (h : runOps P ops (fun st' H' => Q .normal st' H') st H) : pwp P (.region ops) Q st H := by
  intro hh c hc rr hrr dq out a w g hR
  cases c <;> simp only [compC] at hc
  case region id os draw =>
    obtain ⟨ps, q1, hc⟩ := bind_spec hc
    split at hc
    · rcases compD_cases hc with ⟨_, _, hc⟩ | ⟨_, _, hc, _⟩ <;> cases hc
    · rename_i hd
      cases hc
      have hd : draw = false := by simpa using hd
      subst hd
      refine reg_WR postOf_in hrr (by
        have := ops_sound (all := os) (QQ := PostOf dq out w g Q) os.size 0 (by omega) (by rw [List.drop_zero]; exact q1) h hR (fun a' w' ⟨st', H', g', h1, h2, h3⟩ => ⟨.normal, st', H', g', rfl, h1, h2.d, h3⟩)
        rwa [List.range_eq_range'])
  case seq => obtain ⟨_, _, hc⟩ := bind_spec hc; obtain ⟨_, _, hc⟩ := map_spec hc; cases hc
  case cond => obtain ⟨_, _, hc⟩ := bind_spec hc; obtain ⟨_, _, hc⟩ := bind_spec hc; obtain ⟨_, _, hc⟩ := map_spec hc; cases hc
  case block => obtain ⟨_, _, hc⟩ := map_spec hc; cases hc
  case loop => obtain ⟨_, _, hc⟩ := map_spec hc; cases hc
  case rangeFunc => obtain ⟨_, _, hc⟩ := bind_spec hc; obtain ⟨_, _, hc⟩ := bind_spec hc; obtain ⟨_, _, hc⟩ := bind_spec hc; obtain ⟨_, hc⟩ := ite_spec hc; cases hc
  all_goals cases hc
theorem pwp_draw (hmix : P.follows .mixedOrders = true) {ops : List POp} {late : List (Nat × Nat)} (h : planOps P late ops 0 [] [] (fun st' H' => Q .normal st' H') st H) : pwp P (.draw ops late) Q st H := by
  intro hh c hc rr hrr dq out a w g hR
  cases c <;> simp only [compC] at hc
  case region id os draw =>
    obtain ⟨ps, q1, hc⟩ := bind_spec hc
    split at hc
    · rename_i hd
      rcases compD_cases hc with ⟨l, q2, hc⟩ | ⟨_, _, hc, _⟩
      rotate_left
      · cases hc
      cases hc
      subst hd
      obtain ⟨d1, d2⟩ := drew_rel hR
      refine any_WR postOf_in hrr hmix (draw_sound q1 q2 h d1 fun a' w' ⟨st', H', g', h1, h2, h3⟩ => ⟨.normal, st', H', g', rfl, h1, h2.d, d2.trans h3⟩)
    · cases hc
  case seq => obtain ⟨_, _, hc⟩ := bind_spec hc; obtain ⟨_, _, hc⟩ := map_spec hc; cases hc
  case cond => obtain ⟨_, _, hc⟩ := bind_spec hc; obtain ⟨_, _, hc⟩ := bind_spec hc; obtain ⟨_, _, hc⟩ := map_spec hc; cases hc
  case block => obtain ⟨_, _, hc⟩ := map_spec hc; cases hc
  case loop => obtain ⟨_, _, hc⟩ := map_spec hc; cases hc
  case rangeFunc => obtain ⟨_, _, hc⟩ := bind_spec hc; obtain ⟨_, _, hc⟩ := bind_spec hc; obtain ⟨_, _, hc⟩ := bind_spec hc; obtain ⟨_, hc⟩ := ite_spec hc; cases hc
  all_goals cases hc
end
inductive RV where
  | t (i : Nat)
  | c (i sz : Nat) (ag : Bool)
  deriving Inhabited
def compRV (P : Program) : ResultVar → Option RV
  | .tmp t => some (.t t)
  | .cell a t => (P.info? t).bind fun i => (P.underlying t).bind fun d => if isAggD d = false → i.size = 1 then some (.c a i.size (isAggD d)) else none
def compRVs (P : Program) : List ResultVar → Option (List RV)
  | [] => some []
  | r :: rs => (compRV P r).bind fun x => (compRVs P rs).map (x :: ·)
def rvTmps (l : List RV) : List Nat := l.filterMap fun | .t i => some i | _ => none
structure PFn where
  ntmps : Nat
  res : List RV
  body : PCode
def compF (P : Program) (h : Hint) (f : Nat) : Option PFn :=
  (P.funcs[f]?).bind fun fn => fn.body.bind fun c => (compC P h c).bind fun b => (compRVs P fn.results.toList).bind fun rs =>
    if callable P f = true ∧ (rvTmps rs).Nodup then some ⟨fn.ntmps, rs, b⟩ else none
def resL (st : List PV) (H : Heap) : List RV → Option (List PV)
  | [] => some []
  | .t i :: rs => (resL st H rs).map (st.getD i .unit :: ·)
  | .c i sz ag :: rs => (match st.getD i .unit with
      | .ptr (some (b, off)) => (hget H b).bind fun cs => (partP sz ag cs off).map lend
      | _ => none).bind fun r => (resL st H rs).map (r :: ·)
def resV : List PV → PV
  | [r] => r
  | rs => .tup rs
section
variable {P : Program}
theorem sub_hget_none : ∀ {H' H : Heap} {b : Nat}, H'.Sublist H → hget H b = none → hget H' b = none
  | _, _, b, .slnil, h => h
  | _, _, b, .cons p hs, h => by
    obtain ⟨c, cs⟩ := p
    simp only [hget] at h
    split at h
    · cases h
    · exact sub_hget_none hs h
  | _, _, b, .cons_cons p hs, h => by
    obtain ⟨c, cs⟩ := p
    simp only [hget] at h ⊢
    split at h
    · cases h
    · rename_i hne
      rw [if_neg hne]
      exact sub_hget_none hs h
theorem sub_HRel {w : World} {g : Ghost} : ∀ {H' H : Heap}, H'.Sublist H → HRel w g H → HRel w g H' ∧ ∀ b, (toksH w H').count b ≤ (toksH w H).count b
  | _, _, .slnil, h => ⟨h, fun b => Nat.le_refl _⟩
  | _, _, .cons p hs, h => by
    obtain ⟨c, cs⟩ := p
    obtain ⟨_, _, _, _, h4⟩ := h
    obtain ⟨i1, i2⟩ := sub_HRel hs h4
    exact ⟨i1, fun b => by simp only [toksH, List.count_append]; have := i2 b; omega⟩
  | _, _, .cons_cons p hs, h => by
    obtain ⟨c, cs⟩ := p
    obtain ⟨h0, h1, h2, h3, h4⟩ := h
    obtain ⟨i1, i2⟩ := sub_HRel hs h4
    exact ⟨⟨sub_hget_none hs h0, h1, h2, h3, i1⟩, fun b => by simp only [toksH, List.count_append]; have := i2 b; omega⟩
def resSem (tmps : Array Value) : ResultVar → Sem Value
  | .tmp t => pure (tmps.getD t undef)
  | .cell a t => do loadVar t (← asAddr (tmps.getD a undef))
theorem results_eq (fn : Func) (tmps : Array Value) : results fn tmps = (do let vs ← fn.results.mapM (resSem tmps); pure (if h : vs.size = 1 then vs[0] else .tuple vs)) := by
  unfold results
  congr 1
theorem toks_slots {w : World} {g : Ghost} {st : List PV} {a : Act} (h : VRl true w g st a.tmps.toList) (b : Nat) : ∀ (l : List Nat), l.Nodup →
    ((l.flatMap fun i => toks (st.getD i .unit) (a.tmps.getD i undef)).count b) ≤ (toksL st a.tmps.toList).count b := by
  -- take one slot after the other
  intro l
  induction l generalizing st with
  | nil => intro _; simp
  | cons i l ih =>
    intro hn
    have hni := List.nodup_cons.1 hn
    obtain ⟨t1, t2⟩ := take_spec h (x := .tmp i) (p := .t i) rfl
    have := ih t1 hni.2
    have t3 := t2 b
    simp only [List.flatMap_cons, List.count_append]
    have e : (l.flatMap fun j => toks ((takeAt st (.t i)).getD j .unit) (a.tmps.getD j undef)) = l.flatMap fun j => toks (st.getD j .unit) (a.tmps.getD j undef) := by
      rw [List.flatMap_def, List.flatMap_def]
      congr 1
      refine List.map_congr_left fun j hj => ?_
      have hne : i ≠ j := fun e => hni.1 (e ▸ hj)
      simp only [takeAt, List.getD_eq_getElem?_getD, List.getElem?_set_ne hne]
    rw [e] at this
    simp only [argT, Act.eval] at t3
    omega
theorem resL_spec {w : World} {g : Ghost} {st : List PV} {H : Heap} {a : Act} (h : VRl true w g st a.tmps.toList) (hH : HRel w g H) : ∀ {rvs : List ResultVar} {rs : List RV} {vs : List PV}, compRVs P rvs = some rs → resL st H rs = some vs →
    ∃ us, (rvs.mapM (resSem a.tmps)).run P w = .ok us w ∧ VRl true w g vs us ∧
      ∀ b, (toksL vs us).count b ≤ ((rvTmps rs).flatMap fun i => toks (st.getD i .unit) (a.tmps.getD i undef)).count b
  | [], rs, vs, hc, hr => by
    cases hc
    cases hr
    exact ⟨[], by simp, rfl, fun b => by simp [toksL]⟩
  | .tmp t :: rvs, rs, vs, hc, hr => by
    obtain ⟨x, hx, hc⟩ := bind_spec hc
    obtain ⟨xs, hxs, rfl⟩ := map_spec hc
    cases hx
    obtain ⟨vs', hv, rfl⟩ := map_spec hr
    obtain ⟨us, i1, i2, i3⟩ := resL_spec h hH hxs hv
    have h1 := argT_spec h (x := .tmp t) (p := .t t) rfl
    refine ⟨a.tmps.getD t undef :: us, ?_, ⟨_, _, rfl, h1, i2⟩, fun b => ?_⟩
    · simp only [List.mapM_cons, resSem, Sem.run_bind, Sem.run_pure, Result.andThen_ok, i1]
    · have := i3 b
      simp only [toksL, rvTmps, List.filterMap_cons, List.flatMap_cons, List.count_append] at this ⊢
      omega
  | .cell x t :: rvs, rs, vs, hc, hr => by
    obtain ⟨q, hx, hc⟩ := bind_spec hc
    obtain ⟨xs, hxs, rfl⟩ := map_spec hc
    unfold compRV at hx
    obtain ⟨i, hi, hx⟩ := bind_spec hx
    obtain ⟨d, hd, hx⟩ := bind_spec hx
    obtain ⟨h0, hx⟩ := ite_spec hx
    cases hx
    obtain ⟨r, hr1, hr⟩ := bind_spec hr
    obtain ⟨vs', hv, rfl⟩ := map_spec hr
    obtain ⟨us, i1, i2, i3⟩ := resL_spec h hH hxs hv
    have h1 := argT_spec h (x := .tmp x) (p := .t x) rfl
    simp only [argT, Act.eval] at h1
    have hld : ldP i.size (isAggD d) H (st.getD x .unit) = some r := by
      unfold ldP
      split at hr1
      · rename_i b off e
        rw [e]
        exact hr1
      · cases hr1
    obtain ⟨z, z1, z2, z3⟩ := ldP_run (P := P) hd hi h0 hH hld h1
    have hptr : ∃ b off, st.getD x .unit = .ptr (some (b, off)) := by
      split at hr1
      · exact ⟨_, _, by assumption⟩
      · cases hr1
    obtain ⟨b, off, hp⟩ := hptr
    rw [hp] at h1
    simp only [VR, Option.map_some] at h1
    refine ⟨z :: us, ?_, ⟨_, _, rfl, z2, i2⟩, fun b => ?_⟩
    · rw [h1] at z1
      simp only [Instr.loadAt, Instr.sureAddr, Sem.run_bind, Sem.run_pure, Result.andThen_ok] at z1
      simp only [List.mapM_cons, resSem, Sem.run_bind, h1, asAddr, Sem.run_pure, Result.andThen_ok, z1, i1]
    · have := i3 b
      simp only [toksL, z3, List.nil_append, rvTmps, List.filterMap_cons] at this ⊢
      exact this
structure Aside (n : Nat) (w w' : World) : Prop where
  os : w'.os = w.os
  tape : w'.tape = w.tape
  output : w'.output = w.output
  size : w.heap.size ≤ w'.heap.size
  cells : ∀ (b : Nat) (c : Array Value) (e : TypeId) (fz : Nat × Nat), w.heap[b]? = some (Obj.cells c e fz) → w'.heap[b]? = w.heap[b]?
  low : ∀ b : Nat, b < n → b < w.heap.size → w'.heap[b]? = w.heap[b]?
  maps : ∀ (b : Nat) (es : Array MapEntry) (cl : Nat), w.heap[b]? = some (Obj.map es cl) → w'.heap[b]? = w.heap[b]?
section
variable {n : Nat} {out : List Nat} {w w' : World} {g : Ghost} {st : List PV} {H : Heap} {a : Act}
theorem Aside.refl (n : Nat) (w : World) : Aside n w w := ⟨rfl, rfl, rfl, Nat.le_refl _, fun _ _ _ _ _ => rfl, fun _ _ _ => rfl, fun _ _ _ _ => rfl⟩
theorem Aside.trans {w1 : World} (h : Aside n w w1) (k : Aside n w1 w') : Aside n w w' :=
  ⟨k.os.trans h.os, k.tape.trans h.tape, k.output.trans h.output, Nat.le_trans h.size k.size, fun b c e fz hc => (k.cells b c e fz ((h.cells b c e fz hc).trans hc)).trans (h.cells b c e fz hc),
    fun b hb hs => (k.low b hb (Nat.lt_of_lt_of_le hs h.size)).trans (h.low b hb hs), fun b es cl hc => (k.maps b es cl ((h.maps b es cl hc).trans hc)).trans (h.maps b es cl hc)⟩
theorem Aside.grown {row : Option Nat} (hg : w.grownBy w' row) (hr : ∀ r, row = some r → n ≤ r ∧ ∃ o : Obj, w.heap[r]? = some o ∧ (∀ c e fz, o ≠ .cells c e fz) ∧ ∀ es cl, o ≠ .map es cl) : Aside n w w' := by
  refine ⟨hg.os, hg.tape, hg.output, hg.size, fun b c e fz hc => hg.block b (lt_of_heap hc) fun he => ?_, fun b hb hs => hg.block b hs fun he => ?_, fun b es cl hc => hg.block b (lt_of_heap hc) fun he => ?_⟩
  · obtain ⟨_, o, ho, hne, _⟩ := hr b he.symm
    rw [hc] at ho
    cases ho
    exact hne _ _ _ rfl
  · have := (hr b he.symm).1
    omega
  · obtain ⟨_, o, ho, _, hne⟩ := hr b he.symm
    rw [hc] at ho
    cases ho
    exact hne _ _ rfl
theorem Aside.putObj {l : Nat} {o o' : Obj} (hl : w.heap[l]? = some o) (ho : (∀ c e fz, o ≠ .cells c e fz) ∧ ∀ es cl, o ≠ .map es cl) (hn : n ≤ l) : Aside n w (w.putObj l o') :=
  .grown (row := some l) ⟨rfl, rfl, rfl, by simp, fun k _ hk => World.putObj_heap_other (fun e => hk (by rw [e]))⟩ fun r e => by cases e; exact ⟨hn, o, hl, ho⟩
theorem Aside.evolC {out' : List Nat} (h : Aside n w w') (hw : WRel out' w g) (ho : ∀ b ∈ out, ∃ f, g b = .tail f) : EvolC out w g w' g := by
  refine ⟨fun b c e fz hc hi => ⟨h.cells b c e fz hc, hi⟩, fun b f c e fz _ hf hc => ⟨c, fz, (h.cells b c e fz hc).trans hc, rfl, .inr ⟨f, Nat.le_refl _, hf⟩⟩, fun b hb => ⟨?_, rfl⟩, fun b es cl hc hi => ⟨h.maps b es cl hc, hi⟩⟩
  obtain ⟨f, hf⟩ := ho b hb
  obtain ⟨c, e, hc, _⟩ := hw.tl b f hf
  exact h.cells b c e _ hc
theorem Aside.wrel (h : Aside n w w') (hw : WRel out w g) : WRel out w' g :=
  ⟨fun b hb => hw.fresh b (Nat.le_trans h.size hb), fun b f hf => by obtain ⟨c, e, h1, h2⟩ := hw.tl b f hf; exact ⟨c, e, (h.cells b c e _ h1).trans h1, h2⟩, hw.outT⟩
theorem Aside.hrel (h : Aside n w w') (hw : WRel out w g) : ∀ {H : Heap}, HRel w g H → HRel w' g H ∧ toksH w' H = toksH w H
  | [], hg => ⟨fun k hk => by obtain ⟨h1, m, e, fz, h2⟩ := hg k hk; exact ⟨h1, m, e, fz, (h.cells k _ _ _ h2).trans h2⟩, rfl⟩
  | (b, cs) :: H, hh => by
    obtain ⟨h0, h1, h2, ⟨c, e, hc, hv⟩, hH⟩ := hh
    obtain ⟨i1, i2⟩ := h.hrel hw hH
    have hc' := h.cells b c e _ hc
    have ht : toksB w' b cs = toksB w b cs := by simp only [toksB, hc']
    exact ⟨⟨h0, h1, h2, ⟨c, e, hc'.trans hc, VRl_monoC (h.evolC hw (out := toksL cs c.toList) (fun b hb => toksL_tail cs _ hv b hb)) true cs _ (fun _ b hb => hb) hv⟩, i1⟩, by simp only [toksH, ht, i2]⟩
theorem Aside.rel (h : Aside n w w') (hR : Rel dq out st H a w g) : Rel dq out st H a w' g := by
  obtain ⟨h1, h2⟩ := h.hrel hR.wr hR.hp
  exact ⟨h.wrel hR.wr, h1, VRl_monoC (h.evolC hR.wr (out := toksL st a.tmps.toList) (fun b hb => toksL_tail st _ hR.tm b hb)) true st _ (fun _ b hb => hb) hR.tm, fun b => by rw [h2]; exact hR.un b, hR.df⟩
theorem Aside.evol {w0 : World} {g0 : Ghost} (h : Aside n w w') (hE : Evol out w0 g0 w g) (hw : WRel out w0 g0) (hn : w0.heap.size ≤ n) : Evol out w0 g0 w' g := by
  refine ⟨h.os.trans hE.os, h.tape.trans hE.tape, h.output.trans hE.output, Nat.le_trans hE.size h.size, fun b hb hi => ?_, fun b f c e fz h0 hf hc => ?_, fun b hb => ?_⟩
  · obtain ⟨k1, k2⟩ := hE.imm b hb hi
    exact ⟨(h.low b (by omega) (Nat.lt_of_lt_of_le hb hE.size)).trans k1, k2⟩
  · obtain ⟨c', fz', k1, k2, k3⟩ := hE.tail b f c e fz h0 hf hc
    exact ⟨c', fz', (h.cells b _ _ _ k1).trans k1, k2, k3⟩
  · obtain ⟨f, hf⟩ := hw.outT b hb
    obtain ⟨c, e, hc, _⟩ := hw.tl b f hf
    obtain ⟨k1, k2⟩ := hE.out b hb
    exact ⟨(h.cells b _ _ _ (k1.trans hc)).trans k1, k2⟩
end
theorem leaves_marks {P : Program} {F : Fence} {k n : Nat} {fn : Func} {tmps : Array Value} {R : Ending → World → Prop} : ∀ (M : List Nat) (w : World), M.Nodup → (∀ D ∈ M, n ≤ D ∧ w.heap[D]? = some (.deferred (some []))) →
    (∀ w', Aside n w w' → LeavesIn F k P fn tmps R [] .returning w') → LeavesInM F k P fn tmps R (M.map mark) .returning w
  | [], w, _, _, h => h w (Aside.refl _ _)
  | D :: M, w, hn, hM, h => by
    have hn := List.nodup_cons.1 hn
    obtain ⟨h1, h2⟩ := hM D (List.mem_cons_self ..)
    refine ⟨by simp, .inl ⟨D, _, rfl, run_takeDeferred h2, leaves_marks M _ hn.2 (fun E hE => ?_) fun w' hA => h w' ((Aside.putObj h2 ⟨(fun _ _ _ e => by cases e), (fun _ _ e => by cases e)⟩ h1).trans hA)⟩⟩
    obtain ⟨k1, k2⟩ := hM E (List.mem_cons_of_mem _ hE)
    exact ⟨k1, (World.putObj_heap_other (fun e => hn.1 (by rw [← e]; exact hE))).trans k2⟩
theorem spec_of_body {h : Hint} {f : Nat} {p : PFn} {args : List PV} {H : Heap} {Q : PV → Heap → Prop} (hf : compF P h f = some p)
    (hb : pwp P p.body (fun e st' H' => (e = .normal ∨ e = .ret) ∧ ∃ rs H2, resL st' H' p.res = some rs ∧ H2.Sublist H' ∧ Q (resV rs) H2) (args ++ List.replicate (p.ntmps - args.length) .unit) H) : SpecH P f H args Q := by
  unfold compF at hf
  obtain ⟨fn, hfn, hf⟩ := bind_spec hf
  obtain ⟨c, hbody, hf⟩ := bind_spec hf
  obtain ⟨b, hcomp, hf⟩ := bind_spec hf
  obtain ⟨rs, hrs, hf⟩ := bind_spec hf
  obtain ⟨⟨hcall, hnd⟩, hf⟩ := ite_spec hf
  cases hf
  refine ⟨trivial, fun out w g vals hw hH ha hu => .inl ⟨hcall, ?_⟩⟩
  have hal := VRl_length ha
  have htm : (vals ++ Array.replicate (fn.ntmps - vals.size) undef).toList = vals.toList ++ List.replicate (fn.ntmps - args.length) undef := by
    rw [Array.toList_append, Array.toList_replicate]
    have : vals.toList.length = vals.size := rfl
    rw [← hal, this]
  have hR : Rel [] out (args ++ List.replicate (fn.ntmps - args.length) .unit) H { tmps := vals ++ Array.replicate (fn.ntmps - vals.size) undef, defers := [] } w g := by
    refine ⟨hw, hH, ?_, fun b => ?_, rfl⟩
    · rw [htm]
      exact VRl_append ha (VRl_unit _ _ (by simp))
    · show (toksL _ (vals ++ Array.replicate (fn.ntmps - vals.size) undef).toList).count b + _ + _ ≤ 1
      rw [htm, toksL_append _ _ _ _ hal, toksL_unit, List.append_nil]
      exact hu b
  refine (callsIn_wide (n := 1)).1 (callsIn_of_wp_marks hfn hbody trivial (wpIn_mono (hb h c hcomp none (.inl rfl) [] out _ w g hR) ?_))
  rintro e a' w1 ⟨pe, st', H', g', rfl, ⟨he, rsv, H2, hres, hsub, hQ⟩, ⟨dq', hR1, ⟨M, hM1, hM2, hM3⟩⟩, hE1⟩
  have hdf : a'.defers = M.map mark := by rw [hR1.df, hM1, List.append_nil]
  have hfin : ∀ w', Aside w.heap.size w1 w' → ∃ v, (results fn a'.tmps).run P w' = .ok v w' ∧ ∃ v2 r H' g', Ending.returned v = .returned v2 ∧ Q r H' ∧ WRel out w' g' ∧ HRel w' g' H' ∧ VR true w' g' r v2 ∧ (∀ b, (toks r v2).count b + (toksH w' H').count b + out.count b ≤ 1) ∧ Evol out w g w' g' := by
    intro w' hA
    have hR' := hA.rel hR1
    have hE := hA.evol hE1 hw (Nat.le_refl _)
    obtain ⟨us, u1, u2, u3⟩ := resL_spec (P := P) hR'.tm hR'.hp hrs hres
    obtain ⟨s1, s2⟩ := sub_HRel hsub hR'.hp
    have hmap : (fn.results.mapM (resSem a'.tmps)).run P w' = .ok us.toArray w' := by
      rw [Array.mapM_eq_mapM_toList]
      simp only [Sem.run_map, u1, Result.andThen_ok]
    have hcnt : ∀ b, (toksL rsv us).count b + (toksH w' H2).count b + out.count b ≤ 1 := fun b => by
      have q1 := u3 b
      have q2 := toks_slots hR'.tm b (rvTmps rs) hnd
      have q3 := s2 b
      have q4 := hR'.un b
      omega
    rw [results_eq]
    simp only [Sem.run_bind, hmap, Result.andThen_ok, Sem.run_pure]
    refine ⟨_, rfl, _, resV rsv, H2, g', rfl, hQ, hR'.wr, s1, ?_, ?_, hE⟩
    · have hl := VRl_length u2
      by_cases h1 : us.length = 1
      · obtain ⟨u, rfl⟩ := List.length_eq_one_iff.1 h1
        obtain ⟨r, rfl⟩ := List.length_eq_one_iff.1 (show rsv.length = 1 by omega)
        obtain ⟨v, vs, e1, e2, _⟩ := u2
        cases e1
        simpa [resV] using e2
      · have h2 : ¬ (us.toArray.size = 1) := by simpa using h1
        rw [dif_neg h2]
        have : resV rsv = .tup rsv := by
          match rsv, hl with
          | [], _ => rfl
          | [r], hl => exact absurd (by simpa using hl) h1
          | _ :: _ :: _, _ => rfl
        rw [this]
        exact ⟨_, rfl, u2⟩
    · intro b
      have hl := VRl_length u2
      by_cases h1 : us.length = 1
      · obtain ⟨u, rfl⟩ := List.length_eq_one_iff.1 h1
        obtain ⟨r, rfl⟩ := List.length_eq_one_iff.1 (show rsv.length = 1 by omega)
        have := hcnt b
        simpa [resV, toksL] using this
      · have h2 : ¬ (us.toArray.size = 1) := by simpa using h1
        rw [dif_neg h2]
        have : resV rsv = .tup rsv := by
          match rsv, hl with
          | [], _ => rfl
          | [r], hl => exact absurd (by simpa using hl) h1
          | _ :: _ :: _, _ => rfl
        rw [this]
        simpa [toks] using hcnt b
  rcases he with rfl | rfl
  · show LeavesInM _ _ _ _ a'.tmps _ a'.defers .returning w1
    rw [hdf]
    exact leaves_marks M w1 hM2 (fun D hD => ⟨(hM3 D hD).1, (hM3 D hD).2.1⟩) hfin
  · show LeavesInM _ _ _ _ a'.tmps _ a'.defers .returning w1
    rw [hdf]
    exact leaves_marks M w1 hM2 (fun D hD => ⟨(hM3 D hD).1, (hM3 D hD).2.1⟩) hfin
end
end Go.Proofs.YtjcjbpbkakfjdaaDoor.E
/- A logic of plain values, part 26: what a row hands over, read as plain values. -/
namespace Go.Proofs.YtjcjbpbkakfjdaaDoor.E
open Go Go.RowKit Go.ChangeShapes Go.WideShapes
set_option linter.unusedVariables false
set_option linter.unusedSimpArgs false
variable {dq : List Deferred}
theorem pwp_drop {P : Program} {Q : PPost} {st : List PV} {H H2 : Heap} {pc : PCode} (hs : H2.Sublist H) (h : pwp P pc Q st H2) : pwp P pc Q st H := by
  intro hh c hc rr hrr dq out a w g hR
  obtain ⟨s1, s2⟩ := sub_HRel hs hR.hp
  refine h hh c hc rr hrr dq out a w g ⟨hR.wr, s1, hR.tm, fun b => ?_, hR.df⟩
  have := hR.un b
  have := s2 b
  omega
abbrev gI : Ghost := fun _ => .imm
structure OpnV (P : Program) (t : TypeId) (sz : Nat) (ok : List PV → Prop) : Prop where
  cells : P.cellsOf t = sz
  op : ∀ {H : Type} {enc : TypeId × Value → H} {w : World} {base : Nat} {spare : Nat → Bool} {held : Bool} {fuel : Nat} {cs : List Value} {x : DataW H × List MemPlace},
    DataW.trod enc P w base spare held fuel t cs = some x → (∀ n ∈ x.1.weights P t, n ≤ reachBytes) →
      ∃ ps, ps.all PV.isCell = true ∧ VRl true w gI ps cs ∧ toksL ps cs = [] ∧ ok ps
theorem OpnV.int {P : Program} {t : TypeId} {k : IntKind} (ht : P.underlying t = some (.int k)) (hc : P.cellsOf t = 1) : OpnV P t 1 (fun ps => ∃ n, ps = [.int k n] ∧ (Lit.int k n).wf = true) :=
  ⟨hc, fun h _ => by
    obtain ⟨n, rfl, _, hw⟩ := DataW.trod_int ht h
    exact ⟨[.int k n], rfl, ⟨_, _, rfl, rfl, rfl⟩, by simp [toksL, toks], n, rfl, hw⟩⟩
theorem OpnV.bool {P : Program} {t : TypeId} (ht : P.underlying t = some .bool) (hc : P.cellsOf t = 1) : OpnV P t 1 (fun ps => ∃ b, ps = [.bool b]) :=
  ⟨hc, fun h _ => by
    obtain ⟨b, rfl, _⟩ := DataW.trod_bool ht h
    exact ⟨[.bool b], rfl, ⟨_, _, rfl, rfl, rfl⟩, by simp [toksL, toks], b, rfl⟩⟩
theorem OpnV.string {P : Program} {t : TypeId} (ht : P.underlying t = some .string) (hc : P.cellsOf t = 1) : OpnV P t 1 (fun ps => ∃ s : ByteArray, ps = [.str (bytesOf s)] ∧ s.size ≤ 140737488351232) :=
  ⟨hc, fun h hz => by
    obtain ⟨s, rfl, rfl, _⟩ := DataW.trod_string ht h
    refine ⟨[.str (bytesOf s)], rfl, ⟨_, _, rfl, ⟨s, rfl, rfl⟩, rfl⟩, by simp [toksL, toks], s, rfl, ?_⟩
    have := hz s.data.toList.length (by simp [DataW.weights])
    rw [Array.length_toList] at this
    exact this⟩
theorem exists_row {α : Type} {p : Nat → α → Prop} : ∀ n : Nat, (∀ i, i < n → ∃ a, p i a) → ∃ l : List α, l.length = n ∧ ∀ i a, l[i]? = some a → p i a
  | 0, _ => ⟨[], rfl, fun i a h => by simp at h⟩
  | n + 1, h => by
    obtain ⟨l, hl, hp⟩ := exists_row n (fun i hi => h i (by omega))
    obtain ⟨a, ha⟩ := h n (by omega)
    refine ⟨l ++ [a], by simp [hl], fun i b hb => ?_⟩
    rcases Nat.lt_or_ge i l.length with hi | hi
    · rw [List.getElem?_append_left hi] at hb; exact hp i b hb
    · rw [List.getElem?_append_right hi] at hb
      have h0 : i - l.length = 0 := by
        rcases Nat.eq_zero_or_pos (i - l.length) with h0 | h0
        · exact h0
        · rw [List.getElem?_eq_none (by simp; omega)] at hb; cases hb
      rw [h0] at hb
      simp at hb
      subst hb
      rw [show i = n by omega]
      exact ha
theorem weights_mem_all {H : Type} {P : Program} {e : TypeId} : ∀ {ds : List (DataW H)} {d : DataW H}, d ∈ ds → ∀ n ∈ d.weights P e, n ∈ DataW.weightsAll P e ds
  | d0 :: ds, d, hd, n, hn => by
    simp only [DataW.weightsAll, List.mem_append]
    rcases List.mem_cons.1 hd with rfl | hd
    · exact Or.inl hn
    · exact Or.inr (weights_mem_all hd n hn)
theorem VRe_of {w : World} {g : Ghost} {sz : Nat} : ∀ (xs : List PV) (vs : List Value), vs.length = xs.length * sz → (∀ i x, xs[i]? = some x → VRc w g sz x ((vs.drop (i * sz)).take sz)) → VRe w g sz xs vs
  | [], vs, h, _ => by
    simp at h
    subst h
    rfl
  | x :: xs, vs, h, hx => by
    refine VRe_cons.2 ⟨vs.take sz, vs.drop sz, (List.take_append_drop _ _).symm, by simpa using hx 0 x rfl, VRe_of xs _ ?_ fun i y hy => ?_⟩
    · rw [List.length_drop, h, List.length_cons, Nat.succ_mul]
      omega
    · have := hx (i + 1) y (by simpa using hy)
      rwa [Nat.succ_mul, Nat.add_comm, ← List.drop_drop] at this
theorem cells_block {w : World} {a : Addr} (h : (w.cell? a).isSome = true) : ∃ b off c e fz, a = ⟨b, off, none⟩ ∧ w.heap[b]? = some (.cells c e fz) ∧ ∀ j, w.cell? (a.add j) = c[off + j]? := by
  obtain ⟨b, off, sp⟩ := a
  unfold World.cell? at h
  split at h
  · rename_i c e fz hc
    simp only at hc h
    cases sp with
    | some s => simp at h
    | none =>
      refine ⟨b, off, c, e, fz, rfl, hc, fun j => ?_⟩
      unfold World.cell? Addr.add
      by_cases hj : j = 0
      · subst hj; simp [hc]
      · simp [hj, hc]
  · simp at h
def el (ag : Bool) (ok : List PV → Prop) (x : PV) : Prop := if ag then ∃ cs, x = .agg cs ∧ ok cs else ok [x]
theorem OpnV.slice {P : Program} {t e : TypeId} {B sz : Nat} {ok : List PV → Prop} (ag : Bool) (ht : P.underlying t = some (.slice e)) (hc : P.cellsOf t = 1) (hB : P.bytesOf e = B) (h : OpnV P e sz ok) (hag : ag = false → sz = 1) (hsz0 : 0 < sz) :
    OpnV P t 1 (fun ps => ∃ xs, ps = [.lst sz xs false] ∧ xs.length * B ≤ 140737488351232 ∧ xs.length ≤ maxLen ∧ ∀ x ∈ xs, el ag ok x) :=
  ⟨hc, fun {H enc w base spare held fuel cs x} hx hz => by
    rcases DataW.trod_slice ht hx with ⟨rfl, rfl⟩ | ⟨a, len, cap, elems, rest, n, _, rfl, rfl, hb, hl, hm, hlen, hel, _, _⟩
    · exact ⟨[.lst sz [] false], rfl, ⟨_, _, rfl, ⟨none, 0, rfl, Nat.le_refl _, Nat.zero_le _, .inl rfl, fun _ h => by cases h⟩, rfl⟩, by simp [toksL, toks], [], rfl, by simp, Nat.zero_le _, fun x hx => by cases hx⟩
    · have each : ∀ i, i < len → ∃ y : PV, (∃ c, VRc w gI sz y c ∧ ∀ j u, c[j]? = some u → w.cell? (a.add (i * sz + j)) = some u) ∧ el ag ok y := by
        intro i hi
        have h1 := hel i hi
        rw [List.getElem?_eq_getElem (by omega)] at h1
        obtain ⟨cs', hcs, hy⟩ := Option.bind_eq_some_iff.1 h1
        obtain ⟨_, hlen', hcell⟩ := World.cells?_some hcs
        obtain ⟨ps, p1, p2, p3, p4⟩ := h.op hy (fun m hm => hz m (by
          simp only [DataW.weights, ht]
          exact List.mem_cons_of_mem _ (List.mem_append_left _ (weights_mem_all (List.mem_map_of_mem (List.getElem_mem _)) m hm))))
        have hcl : ∀ j u, cs'[j]? = some u → w.cell? (a.add (i * sz + j)) = some u := fun j u hj => by
          have hjlt : j < P.cellsOf e := by
            rw [← hlen']
            exact (List.getElem?_eq_some_iff.1 hj).1
          have := hcell j hjlt
          rw [hj] at this
          rw [← h.cells, ← Go.Addr.add_add]
          exact this
        have hl1 := VRl_length p2
        rw [h.cells] at hlen'
        cases ag with
        | true => exact ⟨.agg ps, ⟨cs', ⟨hlen', .inl ⟨ps, rfl, p1, VRl_weak _ _ p2⟩⟩, hcl⟩, ps, rfl, p4⟩
        | false =>
          have h1 := hag rfl
          subst h1
          rcases ps with _ | ⟨y, ps⟩
          · simp only [List.length_nil] at hl1; omega
          · have : ps = [] := List.eq_nil_of_length_eq_zero (by simp only [List.length_cons] at hl1; omega)
            subst this
            obtain ⟨v, vs', rfl, q1, rfl⟩ := p2
            simp only [List.all_cons, List.all_nil, Bool.and_true] at p1
            exact ⟨y, ⟨[v], ⟨rfl, .inr ⟨p1, v, rfl, VR_weak _ _ q1⟩⟩, hcl⟩, p4⟩
      obtain ⟨xs, hxl, hp⟩ := exists_row len each
      have hsz := hz ((elems.length + rest.length) * P.bytesOf e) (by simp [DataW.weights, ht])
      have hle : len ≤ maxLen := Nat.le_trans hl hm
      refine ⟨[.lst sz xs false], rfl, ⟨_, _, rfl, ⟨some a, cap, by rw [hxl], by omega, hm, ?_, fun _ h => by cases h⟩, rfl⟩, by simp [toksL, toks], xs, rfl, ?_, by omega, ?_⟩
      · rcases Nat.eq_zero_or_pos len with hl0 | hl0
        · exact .inl (List.eq_nil_of_length_eq_zero (by omega))
        · right
          have hcell : ∀ i j, i < len → j < sz → (w.cell? (a.add (i * sz + j))).isSome = true := fun i j hi hj => by
            obtain ⟨⟨c, ⟨hcl, _⟩, hcc⟩, _⟩ := hp i xs[i] (List.getElem?_eq_getElem (by omega))
            rw [hcc j c[j] (List.getElem?_eq_getElem (by omega))]
            rfl
          have h00 := hcell 0 0 hl0 hsz0
          have ha0 : a.add (0 * sz + 0) = a := by simp [Addr.add]
          rw [ha0] at h00
          obtain ⟨b, off, c, e', fz, rfl, hblk, hcc⟩ := cells_block h00
          have hget : ∀ k, k < len * sz → ∃ u, c[off + k]? = some u := fun k hk => by
            have h1 := hcell (k / sz) (k % sz) ((Nat.div_lt_iff_lt_mul hsz0).2 hk) (Nat.mod_lt _ hsz0)
            rw [Nat.mul_comm, Nat.div_add_mod, hcc] at h1
            exact Option.isSome_iff_exists.1 h1
          have hfit : off + len * sz ≤ c.size := by
            have hpos : 0 < len * sz := Nat.mul_pos hl0 hsz0
            obtain ⟨u, hu⟩ := hget (len * sz - 1) (by omega)
            have := (Array.getElem?_eq_some_iff.1 hu).1
            omega
          have hvl : ((c.toList.drop off).take (len * sz)).length = len * sz := by
            rw [List.length_take, List.length_drop]
            have : c.toList.length = c.size := rfl
            omega
          refine ⟨b, off, (c.toList.drop off).take (xs.length * sz), rfl, readable_mk c e' fz hblk rfl (by rw [hxl]; exact hvl) (.inl rfl), VRe_of _ _ (by rw [hxl]; exact hvl) fun i x hx => ?_⟩
          obtain ⟨⟨cs', hv, hcx⟩, _⟩ := hp i x hx
          have hil : i < len := by rw [← hxl]; exact (List.getElem?_eq_some_iff.1 hx).1
          have : (((List.drop off c.toList).take (xs.length * sz)).drop (i * sz)).take sz = cs' := by
            apply List.ext_getElem?
            intro j
            rw [List.getElem?_take]
            by_cases hj : j < sz
            · have hjc : j < cs'.length := by rw [hv.1]; exact hj
              rw [if_pos hj, List.getElem?_drop, List.getElem?_take]
              have hlt : i * sz + j < xs.length * sz := by
                have : (i + 1) * sz ≤ xs.length * sz := Nat.mul_le_mul_right _ (by omega)
                rw [Nat.succ_mul] at this
                omega
              rw [if_pos hlt, List.getElem?_drop, List.getElem?_eq_getElem (l := cs') hjc]
              have h2 := hcx j (cs'[j]'hjc) (List.getElem?_eq_getElem hjc)
              rw [hcc, ← Array.getElem?_toList] at h2
              exact h2
            · rw [if_neg hj, List.getElem?_eq_none (by rw [hv.1]; omega)]
          rw [this]
          exact hv
      · rw [hB] at hsz
        rw [hxl]
        exact Nat.le_trans (Nat.mul_le_mul_right _ (by omega)) hsz
      · intro y hy
        obtain ⟨i, hi⟩ := List.getElem?_of_mem hy
        exact (hp i y hi).2⟩
theorem OpnV.weaken {P : Program} {t : TypeId} {sz : Nat} {ok ok' : List PV → Prop} (h : OpnV P t sz ok) (hw : ∀ a, ok a → ok' a) : OpnV P t sz ok' :=
  ⟨h.cells, fun hx hz => by
    obtain ⟨a, h1, h2, h3, h4⟩ := h.op hx hz
    exact ⟨a, h1, h2, h3, hw a h4⟩⟩
structure OpnVF (P : Program) (fs : List Field) (off sz : Nat) (ok : List PV → Prop) : Prop where
  op : ∀ {H : Type} {enc : TypeId × Value → H} {w : World} {base : Nat} {spare : Nat → Bool} {held : Bool} {n : Nat} {cs : List Value} {xs : List (DataW H × List MemPlace)},
    (∀ (i : Nat) (f : Field), fs[i]? = some f → DataW.trod enc P w base spare held n f.type ((cs.drop f.offset).take (P.cellsOf f.type)) = xs[i]?) → xs.length = fs.length →
    (∀ m ∈ DataW.weightsEach P (fs.map (·.type)) (xs.map (·.1)), m ≤ reachBytes) →
      ∃ ps, ps.all PV.isCell = true ∧ VRl true w gI ps ((cs.drop off).take sz) ∧ toksL ps ((cs.drop off).take sz) = [] ∧ ok ps
theorem OpnVF.one {P : Program} {f : Field} {off sz : Nat} {ok : List PV → Prop} (hoff : f.offset = off) (h : OpnV P f.type sz ok) : OpnVF P [f] off sz ok :=
  ⟨fun {H enc w base spare held n cs xs} hx hl hz => by
    match xs, hl with
    | [y], _ =>
      have h1 := hx 0 f rfl
      rw [h.cells, hoff] at h1
      exact h.op h1 (fun m hm => hz m (by simp only [List.map_cons, DataW.weightsEach, List.mem_append]; exact Or.inl hm))⟩
theorem OpnVF.cons {P : Program} {f : Field} {fs : List Field} {off sz sz' : Nat} {ok ok' : List PV → Prop} (hoff : f.offset = off) (h : OpnV P f.type sz ok) (hs : OpnVF P fs (off + sz) sz' ok') :
    OpnVF P (f :: fs) off (sz + sz') (fun ps => ∃ p q, ps = p ++ q ∧ ok p ∧ ok' q) :=
  ⟨fun {H enc w base spare held n cs xs} hx hl hz => by
    match xs, hl with
    | y :: ys, hl =>
      have h1 := hx 0 f rfl
      rw [h.cells, hoff] at h1
      obtain ⟨p, p1, p2, p3, p4⟩ := h.op h1 (fun m hm => hz m (by simp only [List.map_cons, DataW.weightsEach, List.mem_append]; exact Or.inl hm))
      obtain ⟨q, q1, q2, q3, q4⟩ := hs.op (xs := ys) (fun i f' hf => by simpa using hx (i + 1) f' (by simpa using hf)) (by simpa using hl) (fun m hm => hz m (by simp only [List.map_cons, DataW.weightsEach, List.mem_append]; exact Or.inr hm))
      have e : (cs.drop off).take (sz + sz') = (cs.drop off).take sz ++ (cs.drop (off + sz)).take sz' := by rw [List.take_add, List.drop_drop]
      refine ⟨p ++ q, by rw [List.all_append, p1, q1]; rfl, ?_, ?_, p, q, rfl, p4, q4⟩
      · rw [e]; exact VRl_append p2 q2
      · rw [e, toksL_append _ _ _ _ (VRl_length p2), p3, q3]; rfl⟩
theorem OpnV.struct {P : Program} {t : TypeId} {fs : Array Field} {sz : Nat} {ok : List PV → Prop} (ht : P.underlying t = some (.struct fs)) (hc : P.cellsOf t = sz) (h : OpnVF P fs.toList 0 sz ok) : OpnV P t sz ok :=
  ⟨hc, fun {H enc w base spare held fuel cs x} hx hz => by
    obtain ⟨xs, n, _, rfl, hl, hlen, hf⟩ := DataW.trod_struct ht hx
    obtain ⟨a, h1, h2, h3, h4⟩ := h.op (cs := cs) (xs := xs) (fun i f hi => hf i f (by simpa using hi)) (by simpa using hlen) (fun m hm => hz m (by simp only [DataW.weights, ht]; exact hm))
    rw [List.drop_zero, List.take_of_length_le (by omega)] at h2 h3
    exact ⟨a, h1, h2, h3, h4⟩⟩
theorem OpnV.arg {P : Program} {t : TypeId} {ok : List PV → Prop} (h : OpnV P t 1 ok) {H : Type} {enc : TypeId × Value → H} {W : World} {base : Nat} {spare : Nat → Bool} {held : Bool} {v : Value} {x : DataW H} {ps : List MemPlace} {ts : List TypeId} {ds : List (DataW H)} {j : Nat}
    (hT : DataW.Trod enc P W base spare held t v x ps) (hsz : (DataW.weightsEach P ts ds).all (· ≤ reachBytes) = true) (ht : ts[j]? = some t) (hd : ds[j]? = some x) (hv : v.cells.toList = [v]) : ∃ p, VR true W gI p v ∧ toks p v = [] ∧ ok [p] := by
  obtain ⟨fuel, hf⟩ := hT
  obtain ⟨ps, h1, h2, h3, h4⟩ := h.op hf (fun n hn => by simpa using List.all_eq_true.1 hsz n (DataW.weights_mem_each ht hd n hn))
  rw [hv] at h2 h3
  have hl := VRl_length h2
  rcases ps with _ | ⟨p, ps⟩
  · simp at hl
  · have : ps = [] := List.eq_nil_of_length_eq_zero (by simp only [List.length_cons, List.length_nil] at hl; omega)
    subst this
    obtain ⟨v', vs', e, q1, q2⟩ := h2
    cases e
    exact ⟨p, q1, by simpa [toksL] using h3, h4⟩
theorem Evol.below {w w' : World} {g' : Ghost} (h : Evol [] w gI w' g') : Below w.heap.size w w' := ⟨h.os, h.tape, h.output, h.size, fun k hk => (h.imm k hk rfl).1⟩
theorem row_of {P : Program} {f : Nat} {args : List PV} {vals : Array Value} {W : World} (h : PSpec P f args (.bool true)) (hv : VRl true W gI args vals.toList) (ht : toksL args vals.toList = []) (hc : callable P f = true := by kernel_rfl) (hG : GL W gI := by intro n hn; simp [globTab] at hn) :
    Calls P f vals W fun e w' => e = .returned (.bool true) ∧ Below W.heap.size W w' := by
  refine (((h []).2 [] W gI vals ⟨fun _ _ => rfl, fun _ _ h => (by cases h), fun b hb => (by cases hb)⟩ hG hv (fun b => by rw [ht]; simp [toksH])).calls hc).mono ?_
  rintro e w' ⟨v, r, H', g', rfl, ⟨rfl, _⟩, _, _, hr, _, hE⟩
  cases hr
  exact ⟨rfl, hE.below⟩
end Go.Proofs.YtjcjbpbkakfjdaaDoor.E
