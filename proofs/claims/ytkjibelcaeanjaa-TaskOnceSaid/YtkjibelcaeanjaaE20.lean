/- A logic of plain values, part 20: the flow of control, and a function's contract. -/
import Derived.Test.YtkjibelcaeanjaaE25
namespace Go.Proofs.Ytkjibelcaeanjaa.E
open Go Go.RowKit
set_option linter.unusedVariables false
set_option linter.unusedSimpArgs false
def isAl : PK → Bool
  | .al _ => true
  | _ => false
def touches (o : POp) (d : Nat) : Bool := (readsOf o ++ writesOf o).contains (2 * d) || (readsOf o ++ writesOf o).contains (2 * d + 1)
/-- The new variables of a region: where it is made, where its first value is laid into it, the slot, and how many cells. -/
def newsOf (ps : List POp) : List (Nat × Nat × Nat × Nat) := (List.range ps.length).filterMap fun j => match ps[j]? with
  | some (POp.mk (some d) none (.al cs)) => match ps.findIdx? (fun o => match o.k with | .sto _ (.t t) _ => t == d | _ => false) with
    | some k => some (j, k, d, cs.length)
    | none => none
  | _ => none
/-- No other operation looks at it. -/
def newOk (ps : List POp) (e : Nat × Nat × Nat × Nat) : Bool := match ps[e.1]?, ps[e.2.1]? with
  | some (POp.mk (some d) none (.al cs)), some (POp.mk none none (.sto sz (.t t) v)) => d == e.2.2.1 && t == e.2.2.1 && cs.length == e.2.2.2 && sz == e.2.2.2 && (match v with | .t x => x != t | .c _ => true) && cs.all PV.isCell && decide (e.1 < e.2.1) &&
      (List.range ps.length).all fun i => i == e.1 || i == e.2.1 || !(touches (ps.getD i default) e.2.2.1)
  | _, _ => false
def virtOp (news : List (Nat × Nat × Nat × Nat)) (i : Nat) (o : POp) : POp :=
  match o.k with
  | .al _ => ⟨o.dst, none, .mv false (.c .unit)⟩
  | .sto sz _ v => match news.find? (fun e => e.2.1 == i) with
    | some e => ⟨some e.2.2.1, none, .mvc sz v⟩
    | none => o
  | _ => o
def virt (news : List (Nat × Nat × Nat × Nat)) (ps : List POp) : List POp := (List.range ps.length).map fun i => virtOp news i (ps.getD i default)
/-- A region whose order is drawn. -/
def compD (os : List Oper) (ps : List POp) : Option PCode :=
  if ps.any (fun o => isAl o.k) = true then
    (if (newsOf ps).all (newOk ps) = true ∧ (List.range ps.length).all (fun j => !isAl (ps.getD j default).k || (newsOf ps).any (fun e => e.1 == j)) = true ∧ ((newsOf ps).map (·.2.2.1)).Nodup then (drawLate os (virt (newsOf ps) ps)).map fun l => .drawN (virt (newsOf ps) ps) l (newsOf ps) else none)
  else (drawLate os ps).map (.draw ps)
theorem compD_cases {os : List Oper} {ps : List POp} {pc : PCode} (h : compD os ps = some pc) : (∃ l, drawLate os ps = some l ∧ pc = .draw ps l) ∨ (∃ l, drawLate os (virt (newsOf ps) ps) = some l ∧ pc = .drawN (virt (newsOf ps) ps) l (newsOf ps) ∧
    (∀ e ∈ newsOf ps, newOk ps e = true) ∧ (List.range ps.length).all (fun j => !isAl (ps.getD j default).k || (newsOf ps).any (fun e => e.1 == j)) = true ∧ ((newsOf ps).map (·.2.2.1)).Nodup) := by
  unfold compD at h
  split at h
  · obtain ⟨⟨h1, h2, h3⟩, h⟩ := ite_spec h
    obtain ⟨l, h4, rfl⟩ := map_spec h
    exact .inr ⟨l, h4, rfl, List.all_eq_true.1 h1, h2, h3⟩
  · obtain ⟨l, h4, rfl⟩ := map_spec h
    exact .inl ⟨l, h4, rfl⟩
def compC (P : Program) (h : Hint) : Code → Option PCode
  | .skip => some .skip
  | .region _ ops draw => (compOps P h ops ops.toList).bind fun ps => if draw = true then compD ops.toList ps else some (.region ps)
  | .seq a b => (compC P h a).bind fun a => (compC P h b).map fun b => .seq a b
  | .cond c a b => (compArg c).bind fun c => (compC P h a).bind fun a => (compC P h b).map fun b => .cond c a b
  | .block id b => (compC P h b).map (.block id)
  | .loop b => (compC P h b).map .loop
  | .exit id => some (.exit id)
  | .ret => some .ret
  | _ => none
/-- The weakest condition of a piece of code. -/
def pwp (P : Program) (pc : PCode) (Q : PPost) (st : List PV) (H : Heap) : Prop :=
  ∀ h c, compC P h c = some pc → ∀ out a w g, Rel out st H a w g → c.wp P (PostOf out w g Q) a w
section
variable {P : Program} {Q : PPost} {st : List PV} {H : Heap}
theorem pwp_mono {pc : PCode} {Q' : PPost} (h : pwp P pc Q st H) (hq : ∀ e st H, Q e st H → Q' e st H) : pwp P pc Q' st H :=
  fun hh c hc out a w g hR => wp_mono (h hh c hc out a w g hR) fun e a' w' ⟨pe, st', H', g', h1, h2, h3, h4⟩ => ⟨pe, st', H', g', h1, hq _ _ _ h2, h3, h4⟩
theorem pwp_skip (h : Q .normal st H) : pwp P .skip Q st H := by
  intro hh c hc out a w g hR
  cases c <;> simp only [compC] at hc
  case skip => exact wp_skip ⟨.normal, st, H, g, rfl, h, hR, Evol.refl _ _ _⟩
  case region => obtain ⟨ps, _, hc⟩ := bind_spec hc; split at hc; (rcases compD_cases hc with ⟨_, _, hc⟩ | ⟨_, _, hc, _⟩ <;> cases hc); cases hc
  case seq => obtain ⟨_, _, hc⟩ := bind_spec hc; obtain ⟨_, _, hc⟩ := map_spec hc; cases hc
  case cond => obtain ⟨_, _, hc⟩ := bind_spec hc; obtain ⟨_, _, hc⟩ := bind_spec hc; obtain ⟨_, _, hc⟩ := map_spec hc; cases hc
  case block => obtain ⟨_, _, hc⟩ := map_spec hc; cases hc
  case loop => obtain ⟨_, _, hc⟩ := map_spec hc; cases hc
  all_goals cases hc
theorem pwp_ret (h : Q .ret st H) : pwp P .ret Q st H := by
  intro hh c hc out a w g hR
  cases c <;> simp only [compC] at hc
  case ret => exact wp_ret ⟨.ret, st, H, g, rfl, h, hR, Evol.refl _ _ _⟩
  case region => obtain ⟨ps, _, hc⟩ := bind_spec hc; split at hc; (rcases compD_cases hc with ⟨_, _, hc⟩ | ⟨_, _, hc, _⟩ <;> cases hc); cases hc
  case seq => obtain ⟨_, _, hc⟩ := bind_spec hc; obtain ⟨_, _, hc⟩ := map_spec hc; cases hc
  case cond => obtain ⟨_, _, hc⟩ := bind_spec hc; obtain ⟨_, _, hc⟩ := bind_spec hc; obtain ⟨_, _, hc⟩ := map_spec hc; cases hc
  case block => obtain ⟨_, _, hc⟩ := map_spec hc; cases hc
  case loop => obtain ⟨_, _, hc⟩ := map_spec hc; cases hc
  all_goals cases hc
theorem pwp_exit {id : Nat} (h : Q (.exit id) st H) : pwp P (.exit id) Q st H := by
  intro hh c hc out a w g hR
  cases c <;> simp only [compC] at hc
  case exit id' => cases hc; exact wp_exit ⟨.exit id, st, H, g, rfl, h, hR, Evol.refl _ _ _⟩
  case region => obtain ⟨ps, _, hc⟩ := bind_spec hc; split at hc; (rcases compD_cases hc with ⟨_, _, hc⟩ | ⟨_, _, hc, _⟩ <;> cases hc); cases hc
  case seq => obtain ⟨_, _, hc⟩ := bind_spec hc; obtain ⟨_, _, hc⟩ := map_spec hc; cases hc
  case cond => obtain ⟨_, _, hc⟩ := bind_spec hc; obtain ⟨_, _, hc⟩ := bind_spec hc; obtain ⟨_, _, hc⟩ := map_spec hc; cases hc
  case block => obtain ⟨_, _, hc⟩ := map_spec hc; cases hc
  case loop => obtain ⟨_, _, hc⟩ := map_spec hc; cases hc
  all_goals cases hc
theorem pwp_seq {x y : PCode} (h : pwp P x (thenP (pwp P y Q) Q) st H) : pwp P (.seq x y) Q st H := by
  intro hh c hc out a w g hR
  cases c <;> simp only [compC] at hc
  case seq c1 c2 =>
    obtain ⟨p1, h1, hc⟩ := bind_spec hc
    obtain ⟨p2, h2, hc⟩ := map_spec hc
    cases hc
    refine wp_seq (wp_mono (h hh c1 h1 out a w g hR) ?_)
    rintro e a' w' ⟨pe, st', H', g', rfl, hQ, hR', hE⟩
    cases pe with
    | normal => exact wp_mono (hQ hh c2 h2 out a' w' g' hR') fun e a2 w2 hp => hp.trans hE
    | exit id => exact ⟨.exit id, st', H', g', rfl, hQ, hR', hE⟩
    | ret => exact ⟨.ret, st', H', g', rfl, hQ, hR', hE⟩
  case region => obtain ⟨ps, _, hc⟩ := bind_spec hc; split at hc; (rcases compD_cases hc with ⟨_, _, hc⟩ | ⟨_, _, hc, _⟩ <;> cases hc); cases hc
  case cond => obtain ⟨_, _, hc⟩ := bind_spec hc; obtain ⟨_, _, hc⟩ := bind_spec hc; obtain ⟨_, _, hc⟩ := map_spec hc; cases hc
  case block => obtain ⟨_, _, hc⟩ := map_spec hc; cases hc
  case loop => obtain ⟨_, _, hc⟩ := map_spec hc; cases hc
  all_goals cases hc
theorem pwp_cond {x y : PCode} {p : Arg} {b : Bool} (hb : argT st p = .bool b) (h1 : b = true → pwp P x Q st H) (h2 : b = false → pwp P y Q st H) : pwp P (.cond p x y) Q st H := by
  intro hh c hc out a w g hR
  cases c <;> simp only [compC] at hc
  case cond q c1 c2 =>
    obtain ⟨p', hp, hc⟩ := bind_spec hc
    obtain ⟨p1, q1, hc⟩ := bind_spec hc
    obtain ⟨p2, q2, hc⟩ := map_spec hc
    cases hc
    have hv := argT_spec hR.tm hp
    rw [hb] at hv
    exact wp_cond_split hv (fun e => h1 e hh c1 q1 out a w g hR) (fun e => h2 e hh c2 q2 out a w g hR)
  case region => obtain ⟨ps, _, hc⟩ := bind_spec hc; split at hc; (rcases compD_cases hc with ⟨_, _, hc⟩ | ⟨_, _, hc, _⟩ <;> cases hc); cases hc
  case seq => obtain ⟨_, _, hc⟩ := bind_spec hc; obtain ⟨_, _, hc⟩ := map_spec hc; cases hc
  case block => obtain ⟨_, _, hc⟩ := map_spec hc; cases hc
  case loop => obtain ⟨_, _, hc⟩ := map_spec hc; cases hc
  all_goals cases hc
theorem pwp_block {id : Nat} {x : PCode} (h : pwp P x (inBlockP id Q) st H) : pwp P (.block id x) Q st H := by
  intro hh c hc out a w g hR
  cases c <;> simp only [compC] at hc
  case block id' c1 =>
    obtain ⟨p1, q1, hc⟩ := map_spec hc
    cases hc
    refine wp_block (wp_mono (h hh c1 q1 out a w g hR) ?_)
    rintro e a' w' ⟨pe, st', H', g', rfl, hQ, hR', hE⟩
    cases pe with
    | normal => exact ⟨.normal, st', H', g', rfl, hQ, hR', hE⟩
    | ret => exact ⟨.ret, st', H', g', rfl, hQ, hR', hE⟩
    | exit i =>
      simp only [PExit.conv, Exit.inBlock]
      simp only [inBlockP] at hQ
      split
      · rename_i e; rw [if_pos e] at hQ; exact ⟨.normal, st', H', g', rfl, hQ, hR', hE⟩
      · rename_i e; rw [if_neg e] at hQ; exact ⟨.exit i, st', H', g', rfl, hQ, hR', hE⟩
  case region => obtain ⟨ps, _, hc⟩ := bind_spec hc; split at hc; (rcases compD_cases hc with ⟨_, _, hc⟩ | ⟨_, _, hc, _⟩ <;> cases hc); cases hc
  case seq => obtain ⟨_, _, hc⟩ := bind_spec hc; obtain ⟨_, _, hc⟩ := map_spec hc; cases hc
  case cond => obtain ⟨_, _, hc⟩ := bind_spec hc; obtain ⟨_, _, hc⟩ := bind_spec hc; obtain ⟨_, _, hc⟩ := map_spec hc; cases hc
  case loop => obtain ⟨_, _, hc⟩ := map_spec hc; cases hc
  all_goals cases hc
/-- A loop: R n is what holds ahead of a round, n falls. -/
theorem pwp_loop {x : PCode} (R : Nat → List PV → Heap → Prop) {n : Nat} (h0 : R n st H) (h : ∀ n st H, R n st H → pwp P x (thenP (fun st' H' => ∃ m, m < n ∧ R m st' H') Q) st H) : pwp P (.loop x) Q st H := by
  intro hh c hc out a w g hR
  cases c <;> simp only [compC] at hc
  case loop c1 =>
    obtain ⟨p1, q1, hc⟩ := map_spec hc
    cases hc
    refine wp_loop_n (I := fun n a' w' => ∃ st' H' g', R n st' H' ∧ Rel out st' H' a' w' g' ∧ Evol out w g w' g') (n := n) ⟨st, H, g, h0, hR, Evol.refl _ _ _⟩ ?_
    rintro n a1 w1 ⟨st1, H1, g1, r1, r2, r3⟩
    refine wp_mono (h n st1 H1 r1 hh c1 q1 out a1 w1 g1 r2) ?_
    rintro e a' w' ⟨pe, st', H', g', rfl, hQ, hR', hE⟩
    cases pe with
    | normal =>
      obtain ⟨m, hm, hr⟩ := hQ
      exact ⟨m, hm, st', H', g', hr, hR', r3.trans hE⟩
    | exit id => exact ⟨.exit id, st', H', g', rfl, hQ, hR', r3.trans hE⟩
    | ret => exact ⟨.ret, st', H', g', rfl, hQ, hR', r3.trans hE⟩
  case region => obtain ⟨ps, _, hc⟩ := bind_spec hc; split at hc; (rcases compD_cases hc with ⟨_, _, hc⟩ | ⟨_, _, hc, _⟩ <;> cases hc); cases hc
  case seq => obtain ⟨_, _, hc⟩ := bind_spec hc; obtain ⟨_, _, hc⟩ := map_spec hc; cases hc
  case cond => obtain ⟨_, _, hc⟩ := bind_spec hc; obtain ⟨_, _, hc⟩ := bind_spec hc; obtain ⟨_, _, hc⟩ := map_spec hc; cases hc
  case block => obtain ⟨_, _, hc⟩ := map_spec hc; cases hc
  all_goals cases hc
/-- A region in the text's order. -/
theorem pwp_region {ops : List POp} (h : runOps P ops (fun st' H' => Q .normal st' H') st H) : pwp P (.region ops) Q st H := by
  intro hh c hc out a w g hR
  cases c <;> simp only [compC] at hc
  case region id os draw =>
    obtain ⟨ps, q1, hc⟩ := bind_spec hc
    split at hc
    · rcases compD_cases hc with ⟨_, _, hc⟩ | ⟨_, _, hc, _⟩ <;> cases hc
    · rename_i hd
      cases hc
      have hd : draw = false := by simpa using hd
      subst hd
      refine wp_region (by
        have := ops_sound (all := os) (QQ := PostOf out w g Q) os.size 0 (by omega) (by rw [List.drop_zero]; exact q1) h hR (fun a' w' ⟨st', H', g', h1, h2, h3⟩ => ⟨.normal, st', H', g', rfl, h1, h2, h3⟩)
        rwa [List.range_eq_range'])
  case seq => obtain ⟨_, _, hc⟩ := bind_spec hc; obtain ⟨_, _, hc⟩ := map_spec hc; cases hc
  case cond => obtain ⟨_, _, hc⟩ := bind_spec hc; obtain ⟨_, _, hc⟩ := bind_spec hc; obtain ⟨_, _, hc⟩ := map_spec hc; cases hc
  case block => obtain ⟨_, _, hc⟩ := map_spec hc; cases hc
  case loop => obtain ⟨_, _, hc⟩ := map_spec hc; cases hc
  all_goals cases hc
/-- A region whose order is drawn. -/
theorem pwp_draw (hmix : P.follows .mixedOrders = true) {ops : List POp} {late : List (Nat × Nat)} (h : planOps P late ops 0 [] [] (fun st' H' => Q .normal st' H') st H) : pwp P (.draw ops late) Q st H := by
  intro hh c hc out a w g hR
  cases c <;> simp only [compC] at hc
  case region id os draw =>
    obtain ⟨ps, q1, hc⟩ := bind_spec hc
    split at hc
    · rename_i hd
      rcases compD_cases hc with ⟨l, q2, hc⟩ | ⟨_, _, hc, _⟩
      rotate_left
      · cases hc
      cases hc
      subst hd
      obtain ⟨d1, d2⟩ := drew_rel hR
      refine wp_region_any hmix (draw_sound q1 q2 h d1 fun a' w' ⟨st', H', g', h1, h2, h3⟩ => ⟨.normal, st', H', g', rfl, h1, h2, d2.trans h3⟩)
    · cases hc
  case seq => obtain ⟨_, _, hc⟩ := bind_spec hc; obtain ⟨_, _, hc⟩ := map_spec hc; cases hc
  case cond => obtain ⟨_, _, hc⟩ := bind_spec hc; obtain ⟨_, _, hc⟩ := bind_spec hc; obtain ⟨_, _, hc⟩ := map_spec hc; cases hc
  case block => obtain ⟨_, _, hc⟩ := map_spec hc; cases hc
  case loop => obtain ⟨_, _, hc⟩ := map_spec hc; cases hc
  all_goals cases hc
end
/-! ## functions -/
inductive RV where
  | t (i : Nat)
  | c (i sz : Nat) (ag : Bool)
  deriving Inhabited
def compRV (P : Program) : ResultVar → Option RV
  | .tmp t => some (.t t)
  | .cell a t => (P.info? t).bind fun i => (P.underlying t).bind fun d => if isAggD d = false → i.size = 1 then some (.c a i.size (isAggD d)) else none
def compRVs (P : Program) : List ResultVar → Option (List RV)
  | [] => some []
  | r :: rs => (compRV P r).bind fun x => (compRVs P rs).map (x :: ·)
def rvTmps (l : List RV) : List Nat := l.filterMap fun | .t i => some i | _ => none
structure PFn where
  ntmps : Nat
  res : List RV
  body : PCode
def compF (P : Program) (h : Hint) (f : Nat) : Option PFn :=
  (P.funcs[f]?).bind fun fn => fn.body.bind fun c => (compC P h c).bind fun b => (compRVs P fn.results.toList).bind fun rs =>
    if callable P f = true ∧ (rvTmps rs).Nodup then some ⟨fn.ntmps, rs, b⟩ else none
/-- What is handed back. -/
def resL (st : List PV) (H : Heap) : List RV → Option (List PV)
  | [] => some []
  | .t i :: rs => (resL st H rs).map (st.getD i .unit :: ·)
  | .c i sz ag :: rs => (match st.getD i .unit with
      | .ptr (some (b, off)) => (hget H b).bind fun cs => (partP sz ag cs off).map lend
      | _ => none).bind fun r => (resL st H rs).map (r :: ·)
def resV : List PV → PV
  | [r] => r
  | rs => .tup rs
section
variable {P : Program}
theorem sub_hget_none : ∀ {H' H : Heap} {b : Nat}, H'.Sublist H → hget H b = none → hget H' b = none
  | _, _, b, .slnil, h => h
  | _, _, b, .cons p hs, h => by
    obtain ⟨c, cs⟩ := p
    simp only [hget] at h
    split at h
    · cases h
    · exact sub_hget_none hs h
  | _, _, b, .cons_cons p hs, h => by
    obtain ⟨c, cs⟩ := p
    simp only [hget] at h ⊢
    split at h
    · cases h
    · rename_i hne
      rw [if_neg hne]
      exact sub_hget_none hs h
theorem sub_HRel {w : World} {g : Ghost} : ∀ {H' H : Heap}, H'.Sublist H → HRel w g H → HRel w g H' ∧ ∀ b, (toksH w H').count b ≤ (toksH w H).count b
  | _, _, .slnil, h => ⟨h, fun b => Nat.le_refl _⟩
  | _, _, .cons p hs, h => by
    obtain ⟨c, cs⟩ := p
    obtain ⟨_, _, _, _, h4⟩ := h
    obtain ⟨i1, i2⟩ := sub_HRel hs h4
    exact ⟨i1, fun b => by simp only [toksH, List.count_append]; have := i2 b; omega⟩
  | _, _, .cons_cons p hs, h => by
    obtain ⟨c, cs⟩ := p
    obtain ⟨h0, h1, h2, h3, h4⟩ := h
    obtain ⟨i1, i2⟩ := sub_HRel hs h4
    exact ⟨⟨sub_hget_none hs h0, h1, h2, h3, i1⟩, fun b => by simp only [toksH, List.count_append]; have := i2 b; omega⟩
def resSem (tmps : Array Value) : ResultVar → Sem Value
  | .tmp t => pure (tmps.getD t undef)
  | .cell a t => do loadVar t (← asAddr (tmps.getD a undef))
theorem results_eq (fn : Func) (tmps : Array Value) : results fn tmps = (do let vs ← fn.results.mapM (resSem tmps); pure (if h : vs.size = 1 then vs[0] else .tuple vs)) := by
  unfold results
  congr 1
theorem toks_slots {w : World} {g : Ghost} {st : List PV} {a : Act} (h : VRl true w g st a.tmps.toList) (b : Nat) : ∀ (l : List Nat), l.Nodup →
    ((l.flatMap fun i => toks (st.getD i .unit) (a.tmps.getD i undef)).count b) ≤ (toksL st a.tmps.toList).count b := by
  -- take one slot after the other
  intro l
  induction l generalizing st with
  | nil => intro _; simp
  | cons i l ih =>
    intro hn
    have hni := List.nodup_cons.1 hn
    obtain ⟨t1, t2⟩ := take_spec h (x := .tmp i) (p := .t i) rfl
    have := ih t1 hni.2
    have t3 := t2 b
    simp only [List.flatMap_cons, List.count_append]
    have e : (l.flatMap fun j => toks ((takeAt st (.t i)).getD j .unit) (a.tmps.getD j undef)) = l.flatMap fun j => toks (st.getD j .unit) (a.tmps.getD j undef) := by
      rw [List.flatMap_def, List.flatMap_def]
      congr 1
      refine List.map_congr_left fun j hj => ?_
      have hne : i ≠ j := fun e => hni.1 (e ▸ hj)
      simp only [takeAt, List.getD_eq_getElem?_getD, List.getElem?_set_ne hne]
    rw [e] at this
    simp only [argT, Act.eval] at t3
    omega
theorem resL_spec {w : World} {g : Ghost} {st : List PV} {H : Heap} {a : Act} (h : VRl true w g st a.tmps.toList) (hH : HRel w g H) : ∀ {rvs : List ResultVar} {rs : List RV} {vs : List PV}, compRVs P rvs = some rs → resL st H rs = some vs →
    ∃ us, (rvs.mapM (resSem a.tmps)).run P w = .ok us w ∧ VRl true w g vs us ∧
      ∀ b, (toksL vs us).count b ≤ ((rvTmps rs).flatMap fun i => toks (st.getD i .unit) (a.tmps.getD i undef)).count b
  | [], rs, vs, hc, hr => by
    cases hc
    cases hr
    exact ⟨[], by simp, rfl, fun b => by simp [toksL]⟩
  | .tmp t :: rvs, rs, vs, hc, hr => by
    obtain ⟨x, hx, hc⟩ := bind_spec hc
    obtain ⟨xs, hxs, rfl⟩ := map_spec hc
    cases hx
    obtain ⟨vs', hv, rfl⟩ := map_spec hr
    obtain ⟨us, i1, i2, i3⟩ := resL_spec h hH hxs hv
    have h1 := argT_spec h (x := .tmp t) (p := .t t) rfl
    refine ⟨a.tmps.getD t undef :: us, ?_, ⟨_, _, rfl, h1, i2⟩, fun b => ?_⟩
    · simp only [List.mapM_cons, resSem, Sem.run_bind, Sem.run_pure, Result.andThen_ok, i1]
    · have := i3 b
      simp only [toksL, rvTmps, List.filterMap_cons, List.flatMap_cons, List.count_append] at this ⊢
      omega
  | .cell x t :: rvs, rs, vs, hc, hr => by
    obtain ⟨q, hx, hc⟩ := bind_spec hc
    obtain ⟨xs, hxs, rfl⟩ := map_spec hc
    unfold compRV at hx
    obtain ⟨i, hi, hx⟩ := bind_spec hx
    obtain ⟨d, hd, hx⟩ := bind_spec hx
    obtain ⟨h0, hx⟩ := ite_spec hx
    cases hx
    obtain ⟨r, hr1, hr⟩ := bind_spec hr
    obtain ⟨vs', hv, rfl⟩ := map_spec hr
    obtain ⟨us, i1, i2, i3⟩ := resL_spec h hH hxs hv
    have h1 := argT_spec h (x := .tmp x) (p := .t x) rfl
    simp only [argT, Act.eval] at h1
    have hld : ldP i.size (isAggD d) H (st.getD x .unit) = some r := by
      unfold ldP
      split at hr1
      · rename_i b off e
        rw [e]
        exact hr1
      · cases hr1
    obtain ⟨z, z1, z2, z3⟩ := ldP_run (P := P) hd hi h0 hH hld h1
    have hptr : ∃ b off, st.getD x .unit = .ptr (some (b, off)) := by
      split at hr1
      · exact ⟨_, _, by assumption⟩
      · cases hr1
    obtain ⟨b, off, hp⟩ := hptr
    rw [hp] at h1
    simp only [VR, Option.map_some] at h1
    refine ⟨z :: us, ?_, ⟨_, _, rfl, z2, i2⟩, fun b => ?_⟩
    · rw [h1] at z1
      simp only [Instr.loadAt, Instr.sureAddr, Sem.run_bind, Sem.run_pure, Result.andThen_ok] at z1
      simp only [List.mapM_cons, resSem, Sem.run_bind, h1, asAddr, Sem.run_pure, Result.andThen_ok, z1, i1]
    · have := i3 b
      simp only [toksL, z3, List.nil_append, rvTmps, List.filterMap_cons] at this ⊢
      exact this
/-- A function's contract out of its body. -/
theorem spec_of_body {h : Hint} {f : Nat} {p : PFn} {args : List PV} {H : Heap} {Q : PV → Heap → Prop} (hf : compF P h f = some p)
    (hb : pwp P p.body (fun e st' H' => (e = .normal ∨ e = .ret) ∧ ∃ rs H2, resL st' H' p.res = some rs ∧ H2.Sublist H' ∧ Q (resV rs) H2) (args ++ List.replicate (p.ntmps - args.length) .unit) H) : SpecH P f H args Q := by
  unfold compF at hf
  obtain ⟨fn, hfn, hf⟩ := bind_spec hf
  obtain ⟨c, hbody, hf⟩ := bind_spec hf
  obtain ⟨b, hcomp, hf⟩ := bind_spec hf
  obtain ⟨rs, hrs, hf⟩ := bind_spec hf
  obtain ⟨⟨hcall, hnd⟩, hf⟩ := ite_spec hf
  cases hf
  refine ⟨hcall, fun out w g vals hw hH ha hu => ?_⟩
  have hal := VRl_length ha
  have htm : (vals ++ Array.replicate (fn.ntmps - vals.size) undef).toList = vals.toList ++ List.replicate (fn.ntmps - args.length) undef := by
    rw [Array.toList_append, Array.toList_replicate]
    have : vals.toList.length = vals.size := rfl
    rw [← hal, this]
  have hR : Rel out (args ++ List.replicate (fn.ntmps - args.length) .unit) H { tmps := vals ++ Array.replicate (fn.ntmps - vals.size) undef, defers := [] } w g := by
    refine ⟨hw, hH, ?_, fun b => ?_, rfl⟩
    · rw [htm]
      exact VRl_append ha (VRl_unit _ _ (by simp))
    · show (toksL _ (vals ++ Array.replicate (fn.ntmps - vals.size) undef).toList).count b + _ + _ ≤ 1
      rw [htm, toksL_append _ _ _ _ hal, toksL_unit, List.append_nil]
      exact hu b
  refine calls_of_wp hfn hbody (wp_mono (hb h c hcomp out _ w g hR) ?_)
  rintro e a' w' ⟨pe, st', H', g', rfl, ⟨he, rsv, H2, hres, hsub, hQ⟩, hR', hE⟩
  obtain ⟨us, u1, u2, u3⟩ := resL_spec (P := P) hR'.tm hR'.hp hrs hres
  obtain ⟨s1, s2⟩ := sub_HRel hsub hR'.hp
  have hmap : (fn.results.mapM (resSem a'.tmps)).run P w' = .ok us.toArray w' := by
    rw [Array.mapM_eq_mapM_toList]
    simp only [Sem.run_map, u1, Result.andThen_ok]
  have hfin : a'.defers = [] ∧ ∃ v, (results fn a'.tmps).run P w' = .ok v w' ∧ ∃ v2 r H' g', Ending.returned v = .returned v2 ∧ Q r H' ∧ WRel out w' g' ∧ HRel w' g' H' ∧ VR true w' g' r v2 ∧ (∀ b, (toks r v2).count b + (toksH w' H').count b + out.count b ≤ 1) ∧ Evol out w g w' g' := by
    have hcnt : ∀ b, (toksL rsv us).count b + (toksH w' H2).count b + out.count b ≤ 1 := fun b => by
      have q1 := u3 b
      have q2 := toks_slots hR'.tm b (rvTmps rs) hnd
      have q3 := s2 b
      have q4 := hR'.un b
      omega
    refine ⟨hR'.df, ?_⟩
    rw [results_eq]
    simp only [Sem.run_bind, hmap, Result.andThen_ok, Sem.run_pure]
    refine ⟨_, rfl, _, resV rsv, H2, g', rfl, hQ, hR'.wr, s1, ?_, ?_, hE⟩
    · have hl := VRl_length u2
      by_cases h1 : us.length = 1
      · obtain ⟨u, rfl⟩ := List.length_eq_one_iff.1 h1
        obtain ⟨r, rfl⟩ := List.length_eq_one_iff.1 (show rsv.length = 1 by omega)
        obtain ⟨v, vs, e1, e2, _⟩ := u2
        cases e1
        simpa [resV] using e2
      · have h2 : ¬ (us.toArray.size = 1) := by simpa using h1
        rw [dif_neg h2]
        have : resV rsv = .tup rsv := by
          match rsv, hl with
          | [], _ => rfl
          | [r], hl => exact absurd (by simpa using hl) h1
          | _ :: _ :: _, _ => rfl
        rw [this]
        exact ⟨_, rfl, u2⟩
    · intro b
      have hl := VRl_length u2
      by_cases h1 : us.length = 1
      · obtain ⟨u, rfl⟩ := List.length_eq_one_iff.1 h1
        obtain ⟨r, rfl⟩ := List.length_eq_one_iff.1 (show rsv.length = 1 by omega)
        have := hcnt b
        simpa [resV, toksL] using this
      · have h2 : ¬ (us.toArray.size = 1) := by simpa using h1
        rw [dif_neg h2]
        have : resV rsv = .tup rsv := by
          match rsv, hl with
          | [], _ => rfl
          | [r], hl => exact absurd (by simpa using hl) h1
          | _ :: _ :: _, _ => rfl
        rw [this]
        simpa [toks] using hcnt b
  rcases he with rfl | rfl
  · exact hfin
  · exact hfin
end
end Go.Proofs.Ytkjibelcaeanjaa.E
