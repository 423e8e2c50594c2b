/- A logic of plain values, part 13: .. and the model's operation does. -/
import Derived.Test.YtkjibelcaeanjaaE12
import Derived.Laws.StructEq
namespace Go.Proofs.Ytkjibelcaeanjaa.E
open Go Go.RowKit
set_option linter.unusedVariables false
set_option linter.unusedSimpArgs false
/-- What the model does at a pure operation. -/
def Does (P : Program) (o : Oper) (k : PK) (st : List PV) (a : Act) (w : World) (g : Ghost) (r : PV) : Prop :=
  ∃ v w' g' tk, (execOp a.eval o).run P w = .ok (.value v) w' ∧ Step tk w g w' g' r v ∧ VRl true w g (ptake st k) a.tmps.toList ∧
    ∀ b, (toksL (ptake st k) a.tmps.toList).count b + tk.count b ≤ (toksL st a.tmps.toList).count b
section
variable {P : Program} {o : Oper} {k : PK} {out : List Nat} {st : List PV} {H : Heap} {a : Act} {w : World} {g : Ghost} {r : PV}
theorem Does.same (h : Rel out st H a w g) (hp : ptake st k = st) (hr : ∃ v, (execOp a.eval o).run P w = .ok (.value v) w ∧ VR true w g r v ∧ toks r v = []) : Does P o k st a w g r := by
  obtain ⟨v, h1, h2, h3⟩ := hr
  exact ⟨v, w, g, [], h1, Step.same h.wr h2 h3, by rw [hp]; exact h.tm, fun b => by rw [hp]; simp⟩
theorem run_v {s : Sem Value} {z : Value} {w' : World} (h : s.run P w = .ok z w') : (do pure (Next.value (← s)) : Sem Next).run P w = .ok (.value z) w' := by
  simp only [Sem.run_bind, h, Result.andThen_ok, Sem.run_pure]
end
theorem bind_spec {α β : Type} {x : Option α} {f : α → Option β} {b : β} (h : x.bind f = some b) : ∃ a, x = some a ∧ f a = some b := Option.bind_eq_some_iff.mp h
theorem map_spec {α β : Type} {x : Option α} {f : α → β} {b : β} (h : x.map f = some b) : ∃ a, x = some a ∧ f a = b := Option.map_eq_some_iff.mp h
theorem ite_spec {c : Prop} [Decidable c] {α : Type} {x : Option α} {b : α} (h : (if c then x else none) = some b) : c ∧ x = some b := by
  split at h
  · exact ⟨‹_›, h⟩
  · cases h
section
variable {P : Program} {hint : Hint} {k : PK} {out : List Nat} {st : List PV} {H : Heap} {a : Act} {w : World} {g : Ghost} {r : PV} {d : Option Tmp} {ty : TypeId} {pos : String} {af : Array Edge} {gd : Option (Nat × Bool)}
theorem does_mv (h : Rel out st H a w g) {x : Operand} {p : Arg} (hp : compArg x = some p) {op : Op} (hop : ∀ ρ, execOp ρ ⟨d, op, ty, pos, af, gd⟩ = pure (.value (ρ x))) {tk : Bool} (hv : pev st H (.mv tk p) = some r) : Does P ⟨d, op, ty, pos, af, gd⟩ (.mv tk p) st a w g r := by
  cases tk with
  | false =>
    cases hv
    exact Does.same h rfl ⟨a.eval x, by rw [hop]; rfl, arg_spec h.tm hp, arg_toks⟩
  | true =>
  cases hv
  have h1 := argT_spec h.tm hp
  obtain ⟨h2, h3⟩ := take_spec h.tm hp
  refine ⟨a.eval x, w, g, toks (argT st p) (a.eval x), by rw [hop]; rfl, Step.move h.wr h1 fun b => ?_, h2, h3⟩
  have := h3 b
  have := h.un b
  omega
theorem does_pick (h : Rel out st H a w g) {c x y : Operand} {c' x' y' : Arg} (hc : compArg c = some c') (hx : compArg x = some x') (hy : compArg y = some y') (hv : pev st H (.pick c' x' y') = some r) :
    Does P ⟨d, .pick c x y, ty, pos, af, gd⟩ (.pick c' x' y') st a w g r := by
  refine Does.same h rfl ?_
  have h1 := arg_spec h.tm hc
  simp only [pev] at hv
  split at hv
  · rename_i q hq
    rw [hq] at h1
    simp only [VR] at h1
    cases hv
    refine ⟨if q then a.eval x else a.eval y, ?_, ?_, ?_⟩
    · simp only [execOp, h1, asBool, Sem.run_bind, Sem.run_pure, Result.andThen_ok]
    · cases q
      · exact arg_spec h.tm hy
      · exact arg_spec h.tm hx
    · cases q
      · exact arg_toks
      · exact arg_toks
  · cases hv
theorem eqCells_nil {cs ds : List PV} {r : Bool} (he : eqCells [] cs ds = some r) : r = true := by
  cases cs <;> cases ds <;> simp [eqCells] at he
  exact he
theorem eqCells0 {ks : List Nat} {cs ds : List PV} {r : Bool} (he : eqCells (0 :: ks) cs ds = some r) : ∃ k a cs' b ds' q, cs = .int k a :: cs' ∧ ds = .int k b :: ds' ∧ eqCells ks cs' ds' = some q ∧ (decide (a = b) && q) = r := by
  rcases cs with _ | ⟨c, cs⟩
  · simp [eqCells] at he
  rcases ds with _ | ⟨e, ds⟩
  · simp [eqCells] at he
  cases c with
  | int k a =>
    cases e with
    | int k2 b =>
      simp only [eqCells] at he
      obtain ⟨hkk, he⟩ := ite_spec he
      obtain ⟨q, h1, h2⟩ := map_spec he
      subst hkk
      exact ⟨_, _, _, _, _, q, rfl, rfl, h1, by first | exact h2 | exact h2.symm⟩
    | _ => simp [eqCells] at he
  | _ => simp [eqCells] at he
theorem eqCells1 {ks : List Nat} {cs ds : List PV} {r : Bool} (he : eqCells (1 :: ks) cs ds = some r) : ∃ a cs' b ds' q, cs = .bool a :: cs' ∧ ds = .bool b :: ds' ∧ eqCells ks cs' ds' = some q ∧ (a == b && q) = r := by
  rcases cs with _ | ⟨c, cs⟩
  · simp [eqCells] at he
  rcases ds with _ | ⟨e, ds⟩
  · simp [eqCells] at he
  cases c with
  | bool a =>
    cases e with
    | bool b =>
      simp only [eqCells] at he
      obtain ⟨q, h1, h2⟩ := map_spec he
      exact ⟨_, _, _, _, q, rfl, rfl, h1, by first | exact h2 | exact h2.symm⟩
    | _ => simp [eqCells] at he
  | _ => simp [eqCells] at he
theorem eqCells2 {ks : List Nat} {cs ds : List PV} {r : Bool} (he : eqCells (2 :: ks) cs ds = some r) : ∃ a cs' b ds' q, cs = .str a :: cs' ∧ ds = .str b :: ds' ∧ eqCells ks cs' ds' = some q ∧ (decide (a = b) && q) = r := by
  rcases cs with _ | ⟨c, cs⟩
  · simp [eqCells] at he
  rcases ds with _ | ⟨e, ds⟩
  · simp [eqCells] at he
  cases c with
  | str a =>
    cases e with
    | str b =>
      simp only [eqCells] at he
      obtain ⟨q, h1, h2⟩ := map_spec he
      exact ⟨_, _, _, _, q, rfl, rfl, h1, by first | exact h2 | exact h2.symm⟩
    | _ => simp [eqCells] at he
  | _ => simp [eqCells] at he
theorem eqFields_run {d : Nat} {xs ys : Array Value} {o o' : Bool} : ∀ {fs : List Field} {i : Nat} {ks : List Nat} {cs ds : List PV} {r : Bool}, plainKinds P i fs = some ks → eqCells ks cs ds = some r → VRl o w g cs (xs.toList.drop i) → VRl o' w g ds (ys.toList.drop i) →
    (Op.eqFields (d + 1) xs ys fs).run P w = .ok r w
  | [], i, ks, cs, ds, r, hk, he, hx, hy => by
    cases hk
    have := eqCells_nil he
    subst this
    simp [Op.eqFields, Sem.run_pure]
  | f :: fs, i, ks, cs, ds, r, hk, he, hx, hy => by
    unfold plainKinds at hk
    obtain ⟨⟨hoff, hname⟩, hk⟩ := ite_spec hk
    have part_ : ∀ (zs : Array Value) (v : Value) (vs : List Value) (dd : TypeDesc), P.underlying f.type = some dd → isAggD dd = false → zs.toList.drop i = v :: vs → (part f.type zs f.offset).run P w = .ok v w := by
      intro zs v vs dd hd ha hz
      have : zs[f.offset]? = some v := by
        rw [hoff, ← Array.getElem?_toList]
        have := congrArg (fun l => l[0]?) hz
        simpa [List.getElem?_drop] using this
      simp only [part, Sem.run_bind, run_isAgg hd, Result.andThen_ok, ha, Bool.false_eq_true, if_false, this, Sem.run_pure]
    have drop_ : ∀ (zs : Array Value) (v : Value) (vs : List Value), zs.toList.drop i = v :: vs → zs.toList.drop (i + 1) = vs := fun zs v vs hz => by
      have := congrArg List.tail hz
      simpa [List.tail_drop] using this
    simp only [Op.eqFields, ne_eq, hname, not_false_eq_true, if_true, Sem.run_bind]
    split at hk
    · rename_i k hd
      obtain ⟨ks', hk', rfl⟩ := map_spec hk
      obtain ⟨k1, a, cs', b, ds', q, rfl, rfl, he2, rfl⟩ := eqCells0 he
      obtain ⟨v, vs, hz1, h1, h2⟩ := hx
      obtain ⟨u, us, hz2, h3, h4⟩ := hy
      cases h1
      cases h3
      have ih := eqFields_run (d := d) (xs := xs) (ys := ys) hk' he2 (by rw [drop_ xs _ _ hz1]; exact h2) (by rw [drop_ ys _ _ hz2]; exact h4)
      rw [part_ xs _ _ _ hd rfl hz1, Result.andThen_ok, part_ ys _ _ _ hd rfl hz2, Result.andThen_ok, run_equalIn_int w d f.type k1 k a b hd, Result.andThen_ok]
      by_cases hab : a = b
      · subst hab; simp [ih]
      · simp [hab]
    · rename_i hd
      obtain ⟨ks', hk', rfl⟩ := map_spec hk
      obtain ⟨a, cs', b, ds', q, rfl, rfl, he2, rfl⟩ := eqCells1 he
      obtain ⟨v, vs, hz1, h1, h2⟩ := hx
      obtain ⟨u, us, hz2, h3, h4⟩ := hy
      cases h1
      cases h3
      have ih := eqFields_run (d := d) (xs := xs) (ys := ys) hk' he2 (by rw [drop_ xs _ _ hz1]; exact h2) (by rw [drop_ ys _ _ hz2]; exact h4)
      rw [part_ xs _ _ _ hd rfl hz1, Result.andThen_ok, part_ ys _ _ _ hd rfl hz2, Result.andThen_ok, run_equalIn_bool' w d f.type a b hd, Result.andThen_ok]
      cases a <;> cases b <;> simp [ih]
    · rename_i hd
      obtain ⟨ks', hk', rfl⟩ := map_spec hk
      obtain ⟨a, cs', b, ds', q, rfl, rfl, he2, rfl⟩ := eqCells2 he
      obtain ⟨v, vs, hz1, ⟨s, rfl, rfl⟩, h2⟩ := hx
      obtain ⟨u, us, hz2, ⟨s', rfl, rfl⟩, h4⟩ := hy
      have ih := eqFields_run (d := d) (xs := xs) (ys := ys) hk' he2 (by rw [drop_ xs _ _ hz1]; exact h2) (by rw [drop_ ys _ _ hz2]; exact h4)
      rw [part_ xs _ _ _ hd rfl hz1, Result.andThen_ok, part_ ys _ _ _ hd rfl hz2, Result.andThen_ok, run_equalIn_string w d f.type s s' hd, Result.andThen_ok, strEq]
      by_cases hab : bytesOf s = bytesOf s'
      · simp [hab, ih]
      · simp [hab]
    · cases hk
theorem eqSP_run {t : TypeId} {fields : Array Field} {ne : Bool} {ks : List Nat} {x y r : PV} {v u : Value} {X Y : Operand} {o o' : Bool} (ht : P.underlying t = some (.struct fields)) (hg : P.eqGuardType P.depth t = false) (hs : P.stoodInHeld t = false)
    (hk : plainKinds P 0 fields.toList = some ks) (h : eqSP ne ks x y = some r) (hx : VR o w g x v) (hy : VR o' w g y u) :
    ∃ z, (do eqGuard (if ne then .neq else .eql) t X Y v u; binOp (if ne then .neq else .eql) t v u : Sem Value).run P w = .ok z w ∧ VR true w g r z ∧ toks r z = [] := by
  unfold eqSP at h
  split at h
  · rename_i cs ds
    obtain ⟨q, h1, rfl⟩ := map_spec h
    obtain ⟨_, xs, rfl, hx⟩ := hx
    obtain ⟨_, ys, rfl, hy⟩ := hy
    have hf : P.fieldsOf t = fields := by unfold Program.fieldsOf; rw [ht]
    have he : (Op.equalIn 10000 t (.agg xs) (.agg ys)).run P w = .ok q w := by
      show (Op.equalIn (9999 + 1) t (.agg xs) (.agg ys)).run P w = _
      rw [run_equalIn_struct w 9999 t xs ys (by rw [hf]; exact ht) hs, hf]
      exact eqFields_run (d := 9998) hk h1 (by rw [List.drop_zero]; exact hx) (by rw [List.drop_zero]; exact hy)
    cases ne
    · exact ⟨.bool q, by simp only [Bool.false_eq_true, if_false, Sem.run_bind, run_eqGuard_agg w _ _ _ _ _ _ hg, Result.andThen_ok, run_eql_struct w, he], rfl, rfl⟩
    · exact ⟨.bool (!q), by simp only [if_true, Sem.run_bind, run_eqGuard_agg w _ _ _ _ _ _ hg, Result.andThen_ok, run_neq_struct w, he], rfl, rfl⟩
  · cases h
theorem does_bin (h : Rel out st H a w g) {op : BinOp} {t yt : TypeId} {x y : Operand} (hk : compBin P op t x y = some k) (hv : pev st H k = some r) : Does P ⟨d, .binOp op t x y yt, ty, pos, af, gd⟩ k st a w g r := by
  unfold compBin at hk
  split at hk
  · obtain ⟨p, hp, hk⟩ := bind_spec hk
    obtain ⟨q, hq, rfl⟩ := map_spec hk
    obtain ⟨z, h1, h2⟩ := binP_run (P := P) (t := t) (X := x) (Y := y) (w := w) (g := g) hv (arg_spec h.tm hp) (arg_spec h.tm hq)
    exact Does.same h rfl ⟨z, by unfold execOp; exact run_v h1, h2⟩
  · obtain ⟨p, hp, hk⟩ := bind_spec hk
    obtain ⟨q, hq, rfl⟩ := map_spec hk
    obtain ⟨z, h1, h2⟩ := binP_run (P := P) (t := t) (X := x) (Y := y) (w := w) (g := g) hv (arg_spec h.tm hp) (arg_spec h.tm hq)
    exact Does.same h rfl ⟨z, by unfold execOp; exact run_v h1, h2⟩
  · rename_i ht
    obtain ⟨p, hp, hk⟩ := bind_spec hk
    obtain ⟨q, hq, hk⟩ := bind_spec hk
    split at hk
    · cases hk
      obtain ⟨z, h1, h2⟩ := binBP_run (P := P) (ne := false) (t := t) (X := x) (Y := y) (w := w) (g := g) ht hv (arg_spec h.tm hp) (arg_spec h.tm hq)
      exact Does.same h rfl ⟨z, by unfold execOp; exact run_v h1, h2⟩
    · cases hk
      obtain ⟨z, h1, h2⟩ := binBP_run (P := P) (ne := true) (t := t) (X := x) (Y := y) (w := w) (g := g) ht hv (arg_spec h.tm hp) (arg_spec h.tm hq)
      exact Does.same h rfl ⟨z, by unfold execOp; exact run_v h1, h2⟩
    · cases hk
  · obtain ⟨_, hk⟩ := ite_spec hk
    obtain ⟨p, hp, hk⟩ := bind_spec hk
    split at hk
    · cases hk; cases hv
    · cases hk; cases hv
    · cases hk
  · rename_i fields ht
    obtain ⟨⟨hg, hs⟩, hk⟩ := ite_spec hk
    obtain ⟨ks, hks, hk⟩ := bind_spec hk
    obtain ⟨p, hp, hk⟩ := bind_spec hk
    obtain ⟨q, hq, hk⟩ := bind_spec hk
    split at hk
    · cases hk
      obtain ⟨z, h1, h2⟩ := eqSP_run (P := P) (ne := false) (X := x) (Y := y) (w := w) (g := g) ht hg hs hks hv (arg_spec h.tm hp) (arg_spec h.tm hq)
      exact Does.same h rfl ⟨z, by unfold execOp; exact run_v h1, h2⟩
    · cases hk
      obtain ⟨z, h1, h2⟩ := eqSP_run (P := P) (ne := true) (X := x) (Y := y) (w := w) (g := g) ht hg hs hks hv (arg_spec h.tm hp) (arg_spec h.tm hq)
      exact Does.same h rfl ⟨z, by unfold execOp; exact run_v h1, h2⟩
    · cases hk
  · cases hk
theorem does_un (h : Rel out st H a w g) {op : UnOp} {t : TypeId} {x : Operand} {p : Arg} (hp : compArg x = some p) (hv : pev st H (.un op p) = some r) : Does P ⟨d, .unOp op t x, ty, pos, af, gd⟩ (.un op p) st a w g r := by
  obtain ⟨z, h1, h2⟩ := unP_run (P := P) (w := w) (g := g) hv (arg_spec h.tm hp)
  exact Does.same h rfl ⟨z, by unfold execOp; exact run_v h1, h2⟩
theorem does_conv (h : Rel out st H a w g) {src dst : TypeId} {x : Operand} (hk : compConv P src dst x = some k) (hv : pev st H k = some r) : Does P ⟨d, .convert src dst x, ty, pos, af, gd⟩ k st a w g r := by
  unfold compConv at hk
  split at hk
  · rename_i k1 k2 e1 e2
    obtain ⟨p, hp, rfl⟩ := map_spec hk
    have h1 := arg_spec h.tm hp
    simp only [pev] at hv
    unfold cvIP at hv
    split at hv
    · rename_i n hn
      rw [hn] at h1
      simp only [VR] at h1
      cases hv
      refine Does.same h rfl ⟨_, by unfold execOp; exact run_v (z := .int k2 (k2.wrap n)) (by simp [h1, convert, run_underlying e1, run_underlying e2, Conv.intToInt]), rfl, by simp [toks]⟩
    · cases hv
  · rename_i e1 e2
    obtain ⟨p, hp, rfl⟩ := map_spec hk
    have h1 := arg_spec h.tm hp
    simp only [pev] at hv
    unfold idcP at hv
    split at hv
    · rename_i s hs
      rw [hs] at h1
      obtain ⟨b, hb, rfl⟩ := h1
      cases hv
      exact Does.same h rfl ⟨_, by unfold execOp; exact run_v (z := .string b) (by simp [hb, convert, run_underlying e1, run_underlying e2]), ⟨b, rfl, rfl⟩, by simp [toks]⟩
    · cases hv
  · rename_i e e1 e2
    split at hk
    · rename_i e3
      obtain ⟨p, hp, rfl⟩ := map_spec hk
      have h1 := arg_spec h.tm hp
      simp only [pev] at hv
      obtain ⟨z, h2, h3⟩ := cvSP_run (P := P) hv (VR_weak _ _ h1)
      have hsl : ∃ A l c, a.eval x = .slice A l c := by
        unfold cvSP at hv
        split at hv
        · rename_i hq
          rw [hq] at h1
          obtain ⟨A, cap, h4, _⟩ := h1
          exact ⟨A, _, cap, h4⟩
        · cases hv
      obtain ⟨A, l, c, h4⟩ := hsl
      refine Does.same h rfl ⟨z, by unfold execOp; refine run_v ?_; rw [h4] at h2 ⊢; simp [convert, run_underlying e1, run_underlying e2, run_underlying e3, h2], h3⟩
    · cases hk
  · rename_i e e1 e2
    split at hk
    · rename_i e3
      obtain ⟨p, hp, rfl⟩ := map_spec hk
      have h1 := arg_spec h.tm hp
      simp only [pev] at hv
      unfold cvBP at hv
      split at hv
      · rename_i s hs
        obtain ⟨hl, hv⟩ := ite_spec hv
        cases hv
        rw [hs] at h1
        obtain ⟨b, hb, rfl⟩ := h1
        rw [bytesOf_length] at hl
        generalize hc : grownCap w b.size 0 e = cap
        have hge : b.size ≤ cap := by rw [← hc]; exact grownCap_ge _ _ _ _
        have hcm : cap ≤ maxLen := by rw [← hc]; exact grownCap_le_maxLen _ _ _ _ (by simp only [maxLen]; omega)
        generalize hus : (b.data.map fun c => Value.int .u8 c.toNat) ++ Array.replicate (cap - b.size) (.int .u8 0) = us
        have husz : us.size = cap := by rw [← hus]; simp; omega
        have hrun : (convert src dst (.string b)).run P w = .ok (.slice (some ⟨w.heap.size, 0, none⟩) b.size cap) ((w.drew.alloc (.cells us e)).freeze ⟨w.heap.size, us.size, none⟩ 1) := by
          have hq : (w.drew.alloc (Obj.cells us e)).shape? w.heap.size = some (e, us.size) := by
            unfold World.shape?
            rw [show (w.drew.alloc (Obj.cells us e)).heap[w.heap.size]? = some (.cells us e (0, 0)) from push_new w.drew _]
          simp only [convert, run_underlying e1, run_underlying e2, run_underlying e3, Conv.stringToBytes, Sem.run_bind, Result.andThen_ok, run_choose, Question.forced, Bool.false_eq_true, if_false, newRow, run_newObj, Sem.run_pure, markStringish, run_shape]
          have hcap : (Question.appendCap b.size 0 e).cut (w.tape w.drawn (Question.appendCap b.size 0 e)) = cap := hc
          simp only [hcap, hus]
          have hw1 : ({ heap := w.heap.push (Obj.cells us e), tape := w.tape, drawn := w.drawn + 1, os := w.os, output := w.output } : World) = w.drew.alloc (.cells us e) := rfl
          rw [hw1, hq]
          rfl
        have hheap : ((w.drew.alloc (.cells us e)).freeze ⟨w.heap.size, us.size, none⟩ 1).heap = (w.alloc (.cells us e (us.size, us.size + 1))).heap := by
          apply Array.ext_getElem?
          intro i
          simp only [World.freeze, Nat.one_ne_zero, if_false, Array.getElem?_modify]
          by_cases hi : w.heap.size = i
          · subst hi
            rw [if_pos rfl, show (w.drew.alloc (Obj.cells us e)).heap[w.heap.size]? = some (.cells us e (0, 0)) from push_new w.drew _, push_new]
            rfl
          · rw [if_neg hi]
            show (w.heap.push _)[i]? = (w.heap.push _)[i]?
            simp only [Array.getElem?_push]
            rw [if_neg (by omega), if_neg (by omega)]
        have hS : Step0 [] w g ((w.drew.alloc (.cells us e)).freeze ⟨w.heap.size, us.size, none⟩ 1) (upd g w.heap.size .imm) := Step0.alloc h.wr hheap rfl rfl rfl (by simp) (fun f hf => by cases hf)
        have hnew : ((w.drew.alloc (.cells us e)).freeze ⟨w.heap.size, us.size, none⟩ 1).heap[w.heap.size]? = some (.cells us e (us.size, us.size + 1)) := by rw [hheap]; exact push_new w _
        have hlen : (List.map (PV.int .u8) (bytesOf b)).length = b.size := by rw [List.length_map, bytesOf_length]
        have htk : toks (.lst 1 (List.map (PV.int .u8) (bytesOf b)) false) (.slice (some ⟨w.heap.size, 0, none⟩) b.size cap) = [] := by simp [toks]
        refine ⟨_, _, _, [], by unfold execOp; exact run_v (by rw [hb]; exact hrun), { hS with rv := ?_, rt := by simp [htk], rs := by simp [htk] }, h.tm, fun x => by simp [ptake]⟩
        refine ⟨_, cap, by rw [hlen], by omega, hcm, .inr ⟨w.heap.size, 0, b.data.toList.map fun c => .int .u8 c.toNat, rfl, ⟨us, e, _, hnew, ?_, ?_, .inl (upd_same _ _ _)⟩, ?_⟩, fun _ ho => by cases ho⟩
        · rw [hlen, List.drop_zero, Nat.mul_one, ← hus, Array.toList_append, Array.toList_map]
          exact List.take_left' (by rw [List.length_map]; rfl)
        · rw [hlen, Nat.mul_one, List.length_map]
          rfl
        · exact VRe_map_int b.data.toList
      · cases hv
    · cases hk
  · rename_i e e2 e1 e3
    obtain ⟨hsd, hk⟩ := ite_spec hk
    split at hk
    · rename_i e4
      obtain ⟨p, hp, rfl⟩ := map_spec hk
      subst hsd
      simp only [pev] at hv
      unfold cvMP at hv
      split at hv
      · rename_i xs hxs
        cases hv
        have h1 := argT_spec h.tm hp
        rw [hxs] at h1
        obtain ⟨b, vs, hb, hml, hR, he, hown⟩ := h1
        obtain ⟨c, ec, hc, hg⟩ := hown rfl
        have hshape : w.shape? b = some (ec, c.size) := by unfold World.shape?; rw [hc]
        have hee : e = e2 := by rw [e1] at e3; simpa using e3
        have hrun : (convert src src (a.eval x)).run P w = .ok (a.eval x) (w.freeze ⟨b, c.size, none⟩ 1) := by
          rw [hb]
          simp only [convert, Sem.run_bind, run_underlying e1, Result.andThen_ok, run_underlying e4, beq_self_eq_true, markStringish, run_shape, hshape, run_freeze, Sem.run_pure]
        have hheap : ∀ k, (w.freeze ⟨b, c.size, none⟩ 1).heap[k]? = if k = b then some (.cells c ec (c.size, c.size + 1)) else w.heap[k]? := by
          intro k
          simp only [World.freeze, Nat.one_ne_zero, if_false, Array.getElem?_modify]
          by_cases hk : b = k
          · subst hk
            rw [if_pos rfl, if_pos rfl, hc]
            rfl
          · rw [if_neg hk, if_neg (Ne.symm hk)]
        have hsize : (w.freeze ⟨b, c.size, none⟩ 1).heap.size = w.heap.size := by simp [World.freeze]
        obtain ⟨t1, t2⟩ := take_spec h.tm hp
        have htk : toks (argT st p) (a.eval x) = [b] := by rw [hxs, hb]; simp [toks]
        have hS : Step0 [b] w g (w.freeze ⟨b, c.size, none⟩ 1) (upd g b .imm) := by
          refine ⟨rfl, rfl, rfl, by omega, fun k hk hkb => ?_, fun k hk f c2 e2 fz hf hc2 => ?_, fun k hk => ?_, fun k f hf hd => ?_⟩
          · simp only [List.mem_singleton] at hkb
            exact ⟨by rw [hheap, if_neg hkb], upd_ne _ _ hkb⟩
          · simp only [List.mem_singleton] at hk
            subst hk
            rw [hc] at hc2
            cases hc2
            exact ⟨c, _, by rw [hheap, if_pos rfl], rfl, .inl (upd_same _ _ _)⟩
          · rw [hsize] at hk
            by_cases hkb : k = b
            · subst hkb; exact upd_same _ _ _
            · rw [upd_ne _ _ hkb]; exact h.wr.fresh k hk
          · by_cases hkb : k = b
            · subst hkb; rw [upd_same] at hf; cases hf
            · rw [upd_ne _ _ hkb] at hf
              obtain ⟨c2, e5, q1, q2⟩ := h.wr.tl k f hf
              exact ⟨c2, e5, by rw [hheap, if_neg hkb]; exact q1, q2⟩
        have hE : Evol [] w g (w.freeze ⟨b, c.size, none⟩ 1) (upd g b .imm) := hS.evol (fun k hk => by simp only [List.mem_singleton] at hk; subst hk; exact ⟨_, hg⟩) (by simp)
        have ht0 : ∀ v, toks (.lst 1 xs false) v = [] := fun v => by simp [toks]
        refine ⟨a.eval x, _, _, [b], by unfold execOp; exact run_v hrun, { hS with rv := ?_, rt := by simp [ht0], rs := by simp [ht0] }, t1, fun z => by rw [← htk]; exact t2 z⟩
        rw [hb]
        exact ⟨_, _, rfl, Nat.le_refl _, hml, .inr ⟨b, 0, vs, rfl, hR.mono hE, VRe_mono hE _ _ _ he⟩, fun _ h => by cases h⟩
      · cases hv
    · cases hk
  · cases hk
end
end Go.Proofs.Ytkjibelcaeanjaa.E
