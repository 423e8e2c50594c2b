/- A logic of plain values, part 22: a region whose order is drawn. -/
import Derived.Test.YtkjibelcaeanjaaE21
namespace Go.Proofs.Ytkjibelcaeanjaa.E
open Go Go.RowKit
set_option linter.unusedVariables false
set_option linter.unusedSimpArgs false
/-- Cells of H that a load reads. -/
def ldCells (st : List PV) : PK → Option (Nat × Nat × Nat)
  | .ld sz ag false x => match arg st x with
    | .ptr (some (b, off)) => some (b, off, if ag then sz else 1)
    | _ => none
  | _ => none
def apartC (p q : Nat × Nat × Nat) : Prop := p.1 ≠ q.1 ∨ p.2.1 + p.2.2 ≤ q.2.1 ∨ q.2.1 + q.2.2 ≤ p.2.1
/-- One operation of such a region: what it does to the slots, and to the blocks. -/
def Ev0 (P : Program) (op : POp) (st : List PV) (H : Heap) (f : List PV → List PV) (H' : Heap) : Prop :=
  match op.k with
  | .al _ => False
  | .bx _ _ => False
  | .ld sz ag true x => ∃ b off cs r, arg st x = .ptr (some (b, off)) ∧ hget H b = some cs ∧ partP sz ag cs off = some r ∧ off + sz ≤ cs.length ∧
      f = (fun s => putSt s op.dst r) ∧ H' = hset H b (cs.take off ++ lendL ((cs.drop off).take sz) ++ cs.drop (off + sz))
  | .mk _ _ _ _ _ _ true => False
  | .bsl _ _ _ _ _ true => False
  | .sto sz x v => ∃ b off cs, arg st x = .ptr (some (b, off)) ∧ hget H b = some cs ∧ (cellsOf (argT st v)).length = sz ∧ off + sz ≤ cs.length ∧ (cellsOf (argT st v)).all PV.isCell = true ∧
      f = (fun s => putSt (takeAt s v) op.dst .unit) ∧ H' = hset H b (cs.take off ++ cellsOf (argT st v) ++ cs.drop (off + sz))
  | .appR _ _ _ _ _ => False
  | .clr _ _ _ => False
  | .cap _ => False
  | .cpy sz x y => ∃ b off n cap cs ys m, arg st x = .row b off n cap ∧ hget H b = some cs ∧ off + n * sz ≤ cs.length ∧ cellsY sz H (arg st y) = some (ys, m) ∧
      f = (fun s => putSt s op.dst (.int .i64 (min m n : Nat))) ∧ H' = hset H b (cs.take off ++ ys.take (min m n * sz) ++ cs.drop (off + min m n * sz))
  | .callF n as tk => ∃ r, PSpec P n (callArgs st as tk) r ∧ f = (fun s => putSt (callTake s as tk) op.dst r) ∧ H' = H
  | .callV fx as => ∃ n first cap r, arg st fx = .fn (.func n) first cap ∧ PSpec P n (lendL first ++ as.map (arg st) ++ lendL cap) r ∧ f = (fun s => putSt s op.dst r) ∧ H' = H
  | k => ∃ r, pev st H k = some r ∧ f = (fun s => putSt (ptake s k) op.dst r) ∧ H' = H
def Ev (P : Program) (op : POp) (st : List PV) (H : Heap) (f : List PV → List PV) (H' : Heap) : Prop :=
  match op.gd with
  | none => Ev0 P op st H f H'
  | some (t, want) => ∃ b, gval (st.getD t .unit) = some b ∧ if b = some want then Ev0 P op st H f H' else (f = (fun s => putSt s op.dst (.tup [])) ∧ H' = H)
section
variable {P : Program} {hint : Hint} {out : List Nat} {st : List PV} {H H' : Heap} {a : Act} {w : World} {g : Ghost} {op : POp} {f : List PV → List PV}
/-- The model does it. -/
theorem Ev0_step {o : Oper} {QQ : Exit → Act → World → Prop} {K : List PV → Heap → Prop} (hk : compOp P hint o = some op.k) (hd : op.dst = o.dst) (h : Rel out st H a w g) (hE : Ev0 P op st H f H') (hK : K (f st) H') : o.wp P a w (After out w g K) QQ := by
  refine step_sound hk hd h ?_
  obtain ⟨d, gd, k⟩ := op
  unfold Ev0 at hE
  have pure_ : (∃ r, pev st H k = some r ∧ f = (fun s => putSt (ptake s k) d r) ∧ H' = H) → ∃ r, pev st H k = some r ∧ K (putSt (ptake st k) d r) H := by
    rintro ⟨r, h1, rfl, rfl⟩
    exact ⟨r, h1, hK⟩
  cases k with
  | al z => exact hE.elim
  | bx s x => exact hE.elim
  | appR s b z x y => exact hE.elim
  | clr s z x => exact hE.elim
  | cap x => exact hE.elim
  | ld s ag tk x =>
    cases tk with
    | true =>
      obtain ⟨b, off, cs, r, h1, h2, h3, h4, rfl, rfl⟩ := hE
      exact ⟨b, off, cs, r, h1, h2, h3, hK⟩
    | false => exact pure_ hE
  | mk s b ag z l c mu =>
    cases mu with
    | true => exact hE.elim
    | false => exact pure_ hE
  | bsl s n ag z ps mu =>
    cases mu with
    | true => exact hE.elim
    | false => exact pure_ hE
  | sto s x v =>
    obtain ⟨b, off, cs, h1, h2, h3, h4, h5, rfl, rfl⟩ := hE
    exact ⟨b, off, cs, h1, h2, h3, h4, h5, hK⟩
  | cpy s x y =>
    obtain ⟨b, off, n, cap, cs, ys, m, h1, h2, h3, h4, rfl, rfl⟩ := hE
    exact ⟨b, off, n, cap, cs, ys, m, h1, h2, h3, h4, hK⟩
  | callF n xs tk =>
    obtain ⟨r, h1, rfl, rfl⟩ := hE
    exact ⟨_, h1 H', fun r' H2 ⟨e1, e2⟩ => by subst e1 e2; exact hK⟩
  | callV fx xs =>
    obtain ⟨n, first, cap, r, h1, h2, rfl, rfl⟩ := hE
    exact ⟨n, first, cap, _, h1, h2 H', fun r' H2 ⟨e1, e2⟩ => by subst e1 e2; exact hK⟩
  | eqN ne x =>
    obtain ⟨r, h1, _⟩ := hE
    cases h1
  | _ => exact pure_ hE
theorem Ev0_local (hE : Ev0 P op st H f H') : Slotwise f (writesOf op) := by
  obtain ⟨d, gd, k⟩ := op
  unfold Ev0 at hE
  have pure_ : (∃ r, pev st H k = some r ∧ f = (fun s => putSt (ptake s k) d r) ∧ H' = H) → Slotwise f (writesOf ⟨d, gd, k⟩) := by
    rintro ⟨r, h1, rfl, rfl⟩
    exact ((local_ptake k).comp (local_put d r)).sub fun t ht => by simp only [List.mem_append] at ht; simp only [writesOf, List.mem_append]; exact ht.symm
  cases k with
  | al z => exact hE.elim
  | bx s x => exact hE.elim
  | appR s b z x y => exact hE.elim
  | clr s z x => exact hE.elim
  | cap x => exact hE.elim
  | ld s ag tk x =>
    cases tk with
    | true =>
      obtain ⟨b, off, cs, r, h1, h2, h3, h4, rfl, rfl⟩ := hE
      exact (local_put d _).sub fun t ht => by simp only [writesOf, List.mem_append]; exact .inl ht
    | false => exact pure_ hE
  | mk s b ag z l c mu =>
    cases mu with
    | true => exact hE.elim
    | false => exact pure_ hE
  | bsl s n ag z ps mu =>
    cases mu with
    | true => exact hE.elim
    | false => exact pure_ hE
  | sto s x v =>
    obtain ⟨b, off, cs, h1, h2, h3, h4, h5, rfl, rfl⟩ := hE
    exact ((local_takeAt v).comp (local_put d .unit)).sub fun t ht => by simp only [List.mem_append] at ht; simp only [writesOf, List.mem_append]; exact ht.symm
  | cpy s x y =>
    obtain ⟨b, off, n, cap, cs, ys, m, h1, h2, h3, h4, rfl, rfl⟩ := hE
    exact (local_put d _).sub fun t ht => by simp only [writesOf, List.mem_append]; exact .inl ht
  | callF n xs tk =>
    obtain ⟨r, h1, rfl, rfl⟩ := hE
    exact ((local_callTake xs tk).comp (local_put d r)).sub fun t ht => by simp only [List.mem_append] at ht; simp only [writesOf, List.mem_append]; exact ht.symm
  | callV fx xs =>
    obtain ⟨n, first, cap, r, h1, h2, rfl, rfl⟩ := hE
    exact (local_put d r).sub fun t ht => by simp only [writesOf, List.mem_append]; exact .inl ht
  | _ => exact pure_ hE
theorem Ev_local (hE : Ev P op st H f H') : Slotwise f (writesOf op) := by
  unfold Ev at hE
  split at hE
  · exact Ev0_local hE
  · obtain ⟨b, hb, hE⟩ := hE
    split at hE
    · exact Ev0_local hE
    · obtain ⟨rfl, rfl⟩ := hE
      exact (local_put op.dst (.tup [])).sub fun t ht => by simp only [writesOf, List.mem_append]; exact .inl ht
def isSto : PK → Bool
  | .sto _ _ _ => true
  | .cpy _ _ _ => true
  | .ld _ _ true _ => true
  | _ => false
def isCpy : PK → Bool
  | .cpy _ _ _ => true
  | _ => false
/-- It hangs on what it reads. -/
theorem Ev0_same {st' : List PV} {H2 : Heap} (h : Same (readsOf op) st st') (hE : Ev0 P op st H f H') (hs : isSto op.k = true → H = H2) (hl : isLd op.k = true → ∀ r, pev st H op.k = some r → pev st H2 op.k = some r) :
    ∃ H2', Ev0 P op st' H2 f H2' ∧ (isSto op.k = false → H' = H ∧ H2' = H2) ∧ (isSto op.k = true → H2' = H') := by
  obtain ⟨d, gd, k⟩ := op
  have h1 : Same (needs k) st st' := h.sub fun t ht => by simp only [readsOf, List.mem_append]; exact .inl ht
  simp only at hs hl
  have pure_ : isSto k = false → (isLd k = false ∨ isLd k = true) → (∃ r, pev st H k = some r ∧ f = (fun s => putSt (ptake s k) d r) ∧ H' = H) → ∃ r, pev st' H2 k = some r ∧ f = (fun s => putSt (ptake s k) d r) := by
    rintro hn hld ⟨r, q1, rfl, rfl⟩
    refine ⟨r, ?_, rfl⟩
    rcases hld with hld | hld
    · rw [← pev_same (H := H') (H' := H2) h1 (.inl hld)]; exact q1
    · rw [← pev_same (H := H2) (H' := H2) h1 (.inr rfl)]; exact hl hld r q1
  have fin : isSto k = false → (isLd k = false ∨ isLd k = true) → (∃ r, pev st H k = some r ∧ f = (fun s => putSt (ptake s k) d r) ∧ H' = H) → ∃ H2', (∃ r, pev st' H2 k = some r ∧ f = (fun s => putSt (ptake s k) d r) ∧ H2' = H2) ∧ (isSto k = false → H' = H ∧ H2' = H2) ∧ (isSto k = true → H2' = H') := by
    intro hn hld hq
    obtain ⟨r, q1, q2⟩ := pure_ hn hld hq
    obtain ⟨_, _, _, q3⟩ := hq
    exact ⟨H2, ⟨r, q1, q2, rfl⟩, fun _ => ⟨q3, rfl⟩, fun e => by rw [hn] at e; cases e⟩
  unfold Ev0 at hE ⊢
  cases k with
  | al z => exact hE.elim
  | bx s x => exact hE.elim
  | appR s b z x y => exact hE.elim
  | clr s z x => exact hE.elim
  | cap x => exact hE.elim
  | ld s ag tk x =>
    cases tk with
    | true =>
      have := hs rfl
      subst this
      obtain ⟨b, off, cs, r, q1, q2, q3, q4, q5, q6⟩ := hE
      have ex : arg st x = arg st' x := arg_of h1 (by simp [argsOf])
      exact ⟨H', ⟨b, off, cs, r, by rw [← ex]; exact q1, q2, q3, q4, q5, q6⟩, (fun e => by cases e), fun _ => rfl⟩
    | false => exact fin rfl (.inr rfl) hE
  | mk s b ag z l c mu =>
    cases mu with
    | true => exact hE.elim
    | false => exact fin rfl (.inl rfl) hE
  | bsl s n ag z ps mu =>
    cases mu with
    | true => exact hE.elim
    | false => exact fin rfl (.inl rfl) hE
  | sto s x v =>
    have := hs rfl
    subst this
    obtain ⟨b, off, cs, q1, q2, q3, q4, q5, q6, q7⟩ := hE
    have ex : arg st x = arg st' x := arg_of h1 (by simp [argsOf])
    have ev : argT st v = argT st' v := argT_of h1 (by simp [hardOf])
    refine ⟨H', ⟨b, off, cs, by rw [← ex]; exact q1, q2, by rw [← ev]; exact q3, q4, by rw [← ev]; exact q5, q6, by rw [← ev]; exact q7⟩, (fun e => by cases e), fun _ => rfl⟩
  | cpy s x y =>
    have := hs rfl
    subst this
    obtain ⟨b, off, n, cap, cs, ys, m, q1, q2, q3, q4, q5, q6⟩ := hE
    have ex : arg st x = arg st' x := arg_of h1 (by simp [argsOf])
    have ey : arg st y = arg st' y := arg_of h1 (by simp [argsOf])
    exact ⟨H', ⟨b, off, n, cap, cs, ys, m, by rw [← ex]; exact q1, q2, q3, by rw [← ey]; exact q4, q5, q6⟩, (fun e => by cases e), fun _ => rfl⟩
  | callF n xs tk =>
    obtain ⟨r, q1, q2, rfl⟩ := hE
    have e : callArgs st xs tk = callArgs st' xs tk := callArgs_same xs tk (soft_of h1) (hard_of h1)
    exact ⟨H2, ⟨r, by rw [← e]; exact q1, q2, rfl⟩, (fun _ => ⟨rfl, rfl⟩), fun e => by cases e⟩
  | callV fx xs =>
    obtain ⟨n, first, cap, r, q1, q2, q3, rfl⟩ := hE
    have e1 : arg st fx = arg st' fx := arg_of h1 (by simp [argsOf])
    have e2 : xs.map (arg st) = xs.map (arg st') := map_of h1 fun y hy => by simp [argsOf, hy]
    exact ⟨H2, ⟨n, first, cap, r, by rw [← e1]; exact q1, by rw [← e2]; exact q2, q3, rfl⟩, (fun _ => ⟨rfl, rfl⟩), fun e => by cases e⟩
  | _ => exact fin rfl (.inl rfl) hE
def liveAt (st : List PV) (op : POp) : Prop :=
  match op.gd with
  | none => True
  | some (t, want) => gval (st.getD t .unit) = some (some want)
theorem Ev_same {st' : List PV} {H2 : Heap} (h : Same (readsOf op) st st') (hE : Ev P op st H f H') (hs : isSto op.k = true → H = H2) (hl : liveAt st op → isLd op.k = true → ∀ r, pev st H op.k = some r → pev st H2 op.k = some r) :
    ∃ H2', Ev P op st' H2 f H2' ∧ (isSto op.k = false → H' = H ∧ H2' = H2) ∧ (isSto op.k = true → H2' = H') := by
  unfold Ev at hE ⊢
  unfold liveAt at hl
  cases hg : op.gd with
  | none => rw [hg] at hE hl; exact Ev0_same h hE hs (hl trivial)
  | some p =>
    obtain ⟨t, want⟩ := p
    rw [hg] at hE hl
    obtain ⟨b, hb, hE⟩ := hE
    have ht : st.getD t .unit = st'.getD t .unit := by
      have := h (2 * t + 1) (by simp [readsOf, hg])
      rw [obs_odd, obs_odd] at this
      simp only [List.getD_eq_getElem?_getD, this]
    by_cases hbw : b = some want
    · rw [if_pos hbw] at hE
      obtain ⟨H2', q1, q2⟩ := Ev0_same h hE hs (hl (by show gval (st.getD t .unit) = some (some want); rw [hb, hbw]))
      exact ⟨H2', ⟨b, by rw [← ht]; exact hb, by rw [if_pos hbw]; exact q1⟩, q2⟩
    · rw [if_neg hbw] at hE
      obtain ⟨e1, e2⟩ := hE
      exact ⟨H2, ⟨b, by rw [← ht]; exact hb, by rw [if_neg hbw]; exact ⟨e1, rfl⟩⟩, fun _ => ⟨e2, rfl⟩, fun hs' => by rw [e2, hs hs']⟩
/-- A load does not see a store elsewhere. -/
theorem ld_hset {b off : Nat} {cs ds : List PV} (hb : hget H b = some cs) (hle : off + ds.length ≤ cs.length) {k : PK} (hk : isLd k = true) {r : PV}
    (hap : ∀ c, ldCells st k = some c → apartC c (b, off, ds.length)) : pev st H k = some r ↔ pev st (hset H b (cs.take off ++ ds ++ cs.drop (off + ds.length))) k = some r := by
  cases k with
  | ld sz ag tk x =>
    cases tk with
    | true => exact Iff.rfl
    | false =>
      simp only [pev, ldP]
      cases hx : arg st x with
      | ptr q =>
        cases q with
        | none => exact Iff.rfl
        | some q =>
          obtain ⟨c, o⟩ := q
          have hap := hap (c, o, if ag then sz else 1) (by simp [ldCells, hx])
          simp only
          by_cases hcb : c = b
          · subst hcb
            rw [hb, hget_hset_same hb]
            simp only [Option.bind_some]
            have hlen : (cs.take off ++ ds ++ cs.drop (off + ds.length)).length = cs.length := by
              simp only [List.length_append, List.length_take, List.length_drop]; omega
            have hget : ∀ n, apartC (c, o, n) (c, off, ds.length) → ∀ i, o ≤ i → i < o + n → (cs.take off ++ ds ++ cs.drop (off + ds.length))[i]? = cs[i]? := by
              intro n hap i h1 h2
              have ht : (cs.take off).length = off := by rw [List.length_take]; omega
              rcases hap with hap | hap | hap
              · exact absurd rfl hap
              · simp only at hap
                rw [List.append_assoc, List.getElem?_append_left (by omega), List.getElem?_take, if_pos (by omega)]
              · simp only at hap
                rw [List.getElem?_append_right (by rw [List.length_append]; omega), List.getElem?_drop]
                congr 1
                rw [List.length_append]; omega
            have e : partP sz ag (cs.take off ++ ds ++ cs.drop (off + ds.length)) o = partP sz ag cs o := by
              unfold partP
              rw [hlen]
              by_cases hfit : o + sz ≤ cs.length
              · rw [if_pos hfit, if_pos hfit]
                cases ag with
                | true =>
                  simp only [if_true] at hap ⊢
                  have e1 : ((cs.take off ++ ds ++ cs.drop (off + ds.length)).drop o).take sz = (cs.drop o).take sz := by
                    apply List.ext_getElem?
                    intro i
                    rw [List.getElem?_take, List.getElem?_take]
                    split
                    · rw [List.getElem?_drop, List.getElem?_drop, hget sz hap _ (by omega) (by omega)]
                    · rfl
                  rw [e1]
                | false =>
                  simp only [Bool.false_eq_true, if_false] at hap ⊢
                  exact hget 1 hap o (Nat.le_refl _) (by omega)
              · rw [if_neg hfit, if_neg hfit]
            rw [e]
          · rw [hget_hset_ne hcb]
      | _ => exact Iff.rfl
  | _ => cases hk
end
end Go.Proofs.Ytkjibelcaeanjaa.E
