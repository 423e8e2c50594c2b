/- A logic of plain values, part 18: each operation, and a region whose order is the text's. -/
import Derived.Test.YtjbnomkajfmlpaaE17
namespace Go.Proofs.Ytjbnomkajfmlpaa.E
open Go Go.RowKit
set_option linter.unusedVariables false
set_option linter.unusedSimpArgs false
section
variable {P : Program} {hint : Hint} {k : PK} {out : List Nat} {st : List PV} {H : Heap} {a : Act} {w : World} {g : Ghost} {r : PV} {d : Option Tmp} {ty : TypeId} {pos : String} {af : Array Edge} {gd : Option (Nat × Bool)} {K : List PV → Heap → Prop} {QQ : Exit → Act → World → Prop}
theorem run_resolve_fn (ρ : Operand → Value) (args : Array Operand) (ts : Array TypeId) (ty : TypeId) (f : Operand) {n : Nat} {first cap : Array Value} (hf : ρ f = .func (.func n) first cap) (hc : callable P n = true) (w : World) :
    (do let d ← resolve ρ ⟨.value f, args, ts⟩ ty; invoke d.target d.args : Sem Next).run P w = .ok (.enter n (first ++ args.map ρ ++ cap)) w := by
  simp only [resolve, hf, Deferred.ofValue, Sem.run_bind, Sem.run_pure, Result.andThen_ok, invoke, run_callFunc hc]
theorem step_call_op (h : Rel out st H a w g) {callee : Callee} {args : Array Operand} {ts : Array TypeId} (hk : compOp0 P hint ⟨d, .call ⟨callee, args, ts⟩, ty, pos, af, gd⟩ = some k) (hs : stepOp P ⟨d, none, k⟩ K st H) :
    (Oper.mk d (.call ⟨callee, args, ts⟩) ty pos af gd).wp P a w (After out w g K) QQ := by
  have hk0 := compOp_of hk
  simp only [compOp0] at hk
  split at hk
  · -- a builtin is pure
    rename_i b
    have : ∃ r, pev st H k = some r ∧ K (putSt (ptake st k) d r) H := by
      unfold compBuiltin at hk
      split at hk
      · split at hk
        · obtain ⟨i, hi, hk⟩ := bind_spec hk
          obtain ⟨z, hz, hk⟩ := bind_spec hk
          obtain ⟨_, hk⟩ := ite_spec hk
          obtain ⟨p, hp, hk⟩ := bind_spec hk
          obtain ⟨q, hq, rfl⟩ := map_spec hk
          exact hs
        · cases hk
      · split at hk
        · obtain ⟨p, hp, rfl⟩ := map_spec hk; exact hs
        · obtain ⟨p, hp, rfl⟩ := map_spec hk; exact hs
        · cases hk
      · obtain ⟨p, hp, hk⟩ := bind_spec hk
        obtain ⟨q, hq, rfl⟩ := map_spec hk
        exact hs
      · obtain ⟨p, hp, hk⟩ := bind_spec hk
        obtain ⟨q, hq, rfl⟩ := map_spec hk
        exact hs
      · cases hk
    obtain ⟨r, hr, hK⟩ := this
    exact step_pure hk0 h hr hK
  · rename_i f
    obtain ⟨as, has, rfl⟩ := map_spec hk
    obtain ⟨Q, hS, hK⟩ := hs
    obtain ⟨i1, i2, i3⟩ := callArgs_spec (takesOf hint f) has h.tm
    have e : (#[] ++ args.map a.eval ++ #[] : Array Value).toList = args.toList.map a.eval := by simp
    exact step_call (vals := #[] ++ args.map a.eval ++ #[]) h hS (by unfold execOp; exact run_resolve_fn _ _ _ _ _ rfl hS.1 w) (by rw [e]; exact i1) i2 (fun b => by rw [e]; exact i3 b) hK
  · rename_i f hb
    obtain ⟨fx, hfx, hk⟩ := bind_spec hk
    obtain ⟨as, has, rfl⟩ := map_spec hk
    obtain ⟨n, first, cap, Q, hfe, hS, hK⟩ := hs
    have hv := arg_spec h.tm hfx
    rw [hfe] at hv
    obtain ⟨fs, cs, hv, v1, v2⟩ := hv
    obtain ⟨i1, i2⟩ := args_spec h.tm has
    have w1 : VRl true w g (lendL first) fs.toList := VRl_lend _ _ v1
    have w2 : VRl true w g (lendL cap) cs.toList := VRl_lend _ _ v2
    have e : (fs ++ args.map a.eval ++ cs : Array Value).toList = fs.toList ++ args.toList.map a.eval ++ cs.toList := by simp
    refine step_call (vals := fs ++ args.map a.eval ++ cs) h hS (by unfold execOp; exact run_resolve_fn _ _ _ _ _ hv hS.1 w) (by rw [e]; exact VRl_append (VRl_append w1 i1) w2) h.tm (fun b => ?_) hK
    have l1 := VRl_length w1
    have l2 := VRl_length i1
    rw [e, toksL_append _ _ _ _ (by simp only [List.length_append]; omega), toksL_append _ _ _ _ l1, toksL_lend, toksL_lend, i2]
    simp
  · cases hk
/-- A slice against nil: an empty one may be nil, or not. -/
theorem step_eqN {ne : Bool} {t e : TypeId} {x y : Operand} {p : Arg} {yt : TypeId} (ht : P.underlying t = some (.slice e)) (hn : isNil y = true) (hp : compArg x = some p) (h : Rel out st H a w g)
    (hs : ∃ s xs o, arg st p = .lst s xs o ∧ (xs ≠ [] → K (putSt st d (.bool ne)) H) ∧ (xs = [] → ∀ b, K (putSt st d (.bool b)) H)) :
    (Oper.mk d (.binOp (cond ne .neq .eql) t x y yt) ty pos af gd).wp P a w (After out w g K) QQ := by
  obtain ⟨s, xs, o, h1, h2, h3⟩ := hs
  have hx := arg_spec h.tm hp
  rw [h1] at hx
  obtain ⟨A, cap, hA, _, _, hR, _⟩ := hx
  unfold isNil at hn
  split at hn
  · rename_i l2 c2
    have hg : ∀ op X Y, (eqGuard op t X Y (.slice A xs.length cap) (.slice none l2 c2)).run P w = .ok () w := fun op X Y => by
      unfold eqGuard
      split <;> rfl
    have he : ∀ n, (Op.equalIn (n + 1) t (.slice A xs.length cap) (.slice none l2 c2)).run P w = .ok A.isNone w := fun n => by
      cases A <;> simp [Op.equalIn, run_underlying ht]
    have he2 : (Op.equal t (.slice A xs.length cap) (.slice none l2 c2)).run P w = .ok A.isNone w := he 9999
    have hrun : (execOp a.eval (Oper.mk d (.binOp (cond ne .neq .eql) t x (.const (.slice none l2 c2)) yt) ty pos af gd)).run P w = .ok (.value (.bool (if ne then !A.isNone else A.isNone))) w := by
      unfold execOp
      refine run_v ?_
      show (do eqGuard _ t _ _ (a.eval x) (.slice none l2 c2); binOp _ t (a.eval x) (.slice none l2 c2) : Sem Value).run P w = _
      rw [hA]
      have b1 : (binOp .eql t (.slice A xs.length cap) (.slice none l2 c2)).run P w = .ok (.bool A.isNone) w := by
        show (do pure (.bool (← Op.equal t (.slice A xs.length cap) (.slice none l2 c2))) : Sem Value).run P w = _
        rw [Sem.run_bind, he2]
        rfl
      have b2 : (binOp .neq t (.slice A xs.length cap) (.slice none l2 c2)).run P w = .ok (.bool (!A.isNone)) w := by
        show (do pure (.bool !(← Op.equal t (.slice A xs.length cap) (.slice none l2 c2))) : Sem Value).run P w = _
        rw [Sem.run_bind, he2]
        rfl
      cases ne
      · rw [Sem.run_bind, hg, Result.andThen_ok]
        exact b1
      · rw [Sem.run_bind, hg, Result.andThen_ok]
        exact b2
    have key : K (putSt st d (.bool (if ne then !A.isNone else A.isNone))) H := by
      by_cases hxs : xs = []
      · exact h3 hxs _
      · rcases hR with hR | ⟨b, off, vs, rfl, _⟩
        · exact absurd hR hxs
        · have := h2 hxs
          cases ne <;> simpa using this
    have hst : Step [] w g w g (.bool (if ne then !A.isNone else A.isNone)) (.bool (if ne then !A.isNone else A.isNone)) := Step.same h.wr rfl rfl
    obtain ⟨k1, k2⟩ := step_rel (d := d) h h.tm (fun b => by simp) hst
    exact step_value hrun ⟨_, H, g, key, k1, k2⟩
  · cases hn
/-- Each operation. -/
theorem step_sound0 {o : Oper} {op : POp} (hk : compOp0 P hint o = some op.k) (hd : op.dst = o.dst) (h : Rel out st H a w g) (hs : stepOp P op K st H) : o.wp P a w (After out w g K) QQ := by
  obtain ⟨pd, pg, k⟩ := op
  simp only at hk hd
  subst hd
  have pure_ : (∃ r, pev st H k = some r ∧ K (putSt (ptake st k) o.dst r) H) → o.wp P a w (After out w g K) QQ := fun ⟨r, h1, h2⟩ => step_pure (compOp_of hk) h h1 h2
  have hk0 := hk
  obtain ⟨d, op, ty, pos, af, gd⟩ := o
  cases op <;> simp only [compOp0] at hk
  case alloc elem =>
    obtain ⟨i, hi, hk⟩ := bind_spec hk
    obtain ⟨z, hz, hk⟩ := bind_spec hk
    obtain ⟨cs, hc, rfl⟩ := map_spec hk
    obtain ⟨z1, z2, z3⟩ := constCells_VR w g hc
    refine step_new (us := z.cells) (e := elem) (mk := fun b => .ptr (some (b, 0))) h h.tm z1 z2 (fun b => by rw [z3]; simp) (v := .pointer (some ⟨w.heap.size, 0, none⟩)) ?_ (fun _ _ => rfl) (by simp [toks]) hs
    unfold execOp
    refine run_v ?_
    simp only [Instr.alloc, zeroValue, typeInfo, Sem.run_bind, run_program, Result.andThen_ok, hi, hz, Sem.run_pure, newVar, newRow, run_newObj]
    rfl
  case box elem x =>
    obtain ⟨i, hi, hk⟩ := bind_spec hk
    obtain ⟨p, hp, rfl⟩ := map_spec hk
    obtain ⟨hall, hK⟩ := hs
    obtain ⟨y1, y2⟩ := VR_cells hall (argT_spec h.tm hp)
    obtain ⟨t1, t2⟩ := take_spec h.tm hp
    refine step_new (us := (a.eval x).cells) (e := elem) (mk := fun b => .ptr (some (b, 0))) h t1 y1 hall (fun b => by rw [y2]; exact t2 b) (v := .pointer (some ⟨w.heap.size, 0, none⟩)) ?_ (fun _ _ => rfl) (by simp [toks]) hK
    unfold execOp
    exact run_v rfl
  case buildSlice t len parts =>
    split at hk
    · rename_i e ht
      obtain ⟨i, hi, hk⟩ := bind_spec hk
      obtain ⟨dd, hdd, hk⟩ := bind_spec hk
      obtain ⟨z, hz, hk⟩ := bind_spec hk
      obtain ⟨zero, hzero, hk⟩ := bind_spec hk
      obtain ⟨⟨q1, q2, q3, q4⟩, hk⟩ := ite_spec hk
      obtain ⟨ps, hps, rfl⟩ := map_spec hk
      cases hl : isLit hint d with
      | true => rw [hl] at hs; exact pure_ (by rw [hl]; exact hs)
      | false =>
      rw [hl] at hs
      cases hr : isRow hint d with
      | false => rw [hr] at hs; exact pure_ (by rw [hl, hr]; exact hs)
      | true =>
        rw [hr] at hs
        obtain ⟨cs, h2, hK⟩ := hs
        obtain ⟨us, u1, u2, u3, u4, u5⟩ := bsl_run h ht hi hz hzero q1 q2 q3 hps h2
        refine step_new (us := us) (e := e) (mk := fun b => .row b 0 len len) h h.tm u3 u2 (fun b => by rw [u4]; simp) ?_ (fun _ _ => rfl) (by simp [toks]) hK
        unfold execOp
        exact run_v u1
    · cases hk
  case makeSlice t x y =>
    split at hk
    · rename_i e ht
      obtain ⟨i, hi, hk⟩ := bind_spec hk
      obtain ⟨dd, hdd, hk⟩ := bind_spec hk
      obtain ⟨z, hz, hk⟩ := bind_spec hk
      obtain ⟨zero, hzero, hk⟩ := bind_spec hk
      obtain ⟨⟨q1, q2, q3, q4⟩, hk⟩ := ite_spec hk
      obtain ⟨l, hl, hk⟩ := bind_spec hk
      obtain ⟨c, hc, rfl⟩ := map_spec hk
      cases hr : isRow hint d with
      | false => rw [hr] at hs; exact pure_ (by rw [hr]; exact hs)
      | true =>
        rw [hr] at hs
        obtain ⟨k1, ln, k2, cn, e1, e2, c1, c2, c3, hK⟩ := hs
        have hx := arg_spec h.tm hl
        have hy := arg_spec h.tm hc
        rw [e1] at hx
        rw [e2] at hy
        simp only [VR] at hx hy
        obtain ⟨z1, z2, z3⟩ := constCells_VR w g hzero
        have hzs : z.cells.size = i.size := by rw [← q1, ← VRl_length z1]; rfl
        obtain ⟨us, u1, u2⟩ := mk_run (P := P) (k1 := k1) (k2 := k2) ht hi hz hzs q2 q3 c1 c2 c3 w
        refine step_new (us := us) (e := e) (mk := fun b => .row b 0 ln.toNat cn.toNat) h h.tm (by rw [u1]; exact VRl_rep z1 _) (all_rep z2 _) (fun b => by rw [u1, toksL_rep (VRl_length z1) z3]; simp) ?_ (fun _ _ => rfl) (by simp [toks]) hK
        unfold execOp
        exact run_v (by rw [hx, hy]; exact u2)
    · cases hk
  case load t x =>
    obtain ⟨i, hi, hk⟩ := bind_spec hk
    obtain ⟨dd, hd, hk⟩ := bind_spec hk
    obtain ⟨h1, hk⟩ := ite_spec hk
    obtain ⟨p, hp, rfl⟩ := map_spec hk
    cases hr : isTake hint d with
    | true =>
      rw [hr] at hs
      exact step_loadT h hi hd h1 hp hs
    | false => rw [hr] at hs; exact pure_ (by rw [hr]; exact hs)
  case store t x y =>
    obtain ⟨i, hi, hk⟩ := bind_spec hk
    obtain ⟨p, hp, hk⟩ := bind_spec hk
    obtain ⟨q, hq, rfl⟩ := map_spec hk
    exact step_store h hi hp hq hs
  case call c =>
    obtain ⟨callee, args, ts⟩ := c
    exact step_call_op h hk0 hs
  case move x => obtain ⟨p, hp, rfl⟩ := map_spec hk; exact pure_ hs
  case assign x => obtain ⟨p, hp, rfl⟩ := map_spec hk; exact pure_ hs
  case pick c x y =>
    obtain ⟨c', hc, hk⟩ := bind_spec hk
    obtain ⟨x', hx, hk⟩ := bind_spec hk
    obtain ⟨y', hy, rfl⟩ := map_spec hk
    exact pure_ hs
  case build t parts =>
    split at hk
    · obtain ⟨i, hi, hk⟩ := bind_spec hk
      obtain ⟨z, hz, hk⟩ := bind_spec hk
      obtain ⟨zero, hzero, hk⟩ := bind_spec hk
      obtain ⟨hall, hk⟩ := ite_spec hk
      obtain ⟨ps, hps, rfl⟩ := map_spec hk
      exact pure_ hs
    · cases hk
  case nilCheck x => obtain ⟨p, hp, rfl⟩ := map_spec hk; exact pure_ hs
  case binOp op t x y yt =>
    unfold compBin at hk
    split at hk
    · obtain ⟨p, hp, hk⟩ := bind_spec hk
      obtain ⟨q, hq, rfl⟩ := map_spec hk
      exact pure_ hs
    · obtain ⟨p, hp, hk⟩ := bind_spec hk
      obtain ⟨q, hq, rfl⟩ := map_spec hk
      exact pure_ hs
    · obtain ⟨p, hp, hk⟩ := bind_spec hk
      obtain ⟨q, hq, hk⟩ := bind_spec hk
      split at hk
      · cases hk; exact pure_ hs
      · cases hk; exact pure_ hs
      · cases hk
    · rename_i e ht
      obtain ⟨hn, hk⟩ := ite_spec hk
      obtain ⟨p, hp, hk⟩ := bind_spec hk
      split at hk
      · cases hk
        exact step_eqN (ne := false) ht hn hp h hs
      · cases hk
        exact step_eqN (ne := true) ht hn hp h hs
      · cases hk
    · obtain ⟨_, hk⟩ := ite_spec hk
      obtain ⟨ks, hks, hk⟩ := bind_spec hk
      obtain ⟨p, hp, hk⟩ := bind_spec hk
      obtain ⟨q, hq, hk⟩ := bind_spec hk
      split at hk
      · cases hk; exact pure_ hs
      · cases hk; exact pure_ hs
      · cases hk
    · cases hk
  case unOp op t x => obtain ⟨p, hp, rfl⟩ := map_spec hk; exact pure_ hs
  case convert src dst x =>
    unfold compConv at hk
    split at hk
    · obtain ⟨p, hp, rfl⟩ := map_spec hk; exact pure_ hs
    · obtain ⟨p, hp, rfl⟩ := map_spec hk; exact pure_ hs
    · split at hk
      · obtain ⟨p, hp, rfl⟩ := map_spec hk; exact pure_ hs
      · cases hk
    · split at hk
      · obtain ⟨p, hp, rfl⟩ := map_spec hk; exact pure_ hs
      · cases hk
    · obtain ⟨_, hk⟩ := ite_spec hk
      split at hk
      · obtain ⟨p, hp, rfl⟩ := map_spec hk; exact pure_ hs
      · cases hk
    · cases hk
  case makeFunc fn first cap =>
    obtain ⟨f, hf, hk⟩ := bind_spec hk
    obtain ⟨c, hc, rfl⟩ := map_spec hk
    exact pure_ hs
  case slice t x lo hi mx =>
    unfold compSlice at hk
    split at hk
    · obtain ⟨i, hi', hk⟩ := bind_spec hk
      obtain ⟨p, hp, hk⟩ := bind_spec hk
      obtain ⟨lo', hlo, hk⟩ := bind_spec hk
      obtain ⟨hi2, hhi, hk⟩ := bind_spec hk
      obtain ⟨mx', hmx, rfl⟩ := map_spec hk
      exact pure_ hs
    · split at hk
      · cases hk
      · obtain ⟨p, hp, hk⟩ := bind_spec hk
        obtain ⟨lo', hlo, hk⟩ := bind_spec hk
        obtain ⟨hi2, hhi, rfl⟩ := map_spec hk
        exact pure_ hs
    · cases hk
  case fieldAddr s x f =>
    split at hk
    · obtain ⟨f, hf, hk⟩ := bind_spec hk
      obtain ⟨i, hi, hk⟩ := bind_spec hk
      obtain ⟨h0, hk⟩ := ite_spec hk
      obtain ⟨p, hp, rfl⟩ := map_spec hk
      exact pure_ hs
    · cases hk
  case field s x f =>
    split at hk
    · obtain ⟨f, hf, hk⟩ := bind_spec hk
      obtain ⟨i, hi, hk⟩ := bind_spec hk
      obtain ⟨dd, hd, hk⟩ := bind_spec hk
      obtain ⟨h0, hk⟩ := ite_spec hk
      obtain ⟨p, hp, rfl⟩ := map_spec hk
      exact pure_ hs
    · cases hk
  case indexAddr t x ix =>
    split at hk
    · obtain ⟨i, hi, hk⟩ := bind_spec hk
      obtain ⟨p, hp, hk⟩ := bind_spec hk
      obtain ⟨q, hq, rfl⟩ := map_spec hk
      exact pure_ hs
    · cases hk
  case index t x ix =>
    split at hk
    · obtain ⟨p, hp, hk⟩ := bind_spec hk
      obtain ⟨q, hq, rfl⟩ := map_spec hk
      exact pure_ hs
    · cases hk
  case extract x i => obtain ⟨p, hp, rfl⟩ := map_spec hk; exact pure_ hs
  all_goals cases hk
theorem step_sound {o : Oper} {op : POp} (hk : compOp P hint o = some op.k) (hd : op.dst = o.dst) (h : Rel out st H a w g) (hs : stepOp P op K st H) : o.wp P a w (After out w g K) QQ := by
  rcases compOp_or hk with hk | hk
  · exact step_sound0 hk hd h hs
  · obtain ⟨pd, pg, k⟩ := op
    simp only at hk
    subst hk
    obtain ⟨r, hr, _⟩ := hs
    cases hr
end
end Go.Proofs.Ytjbnomkajfmlpaa.E
