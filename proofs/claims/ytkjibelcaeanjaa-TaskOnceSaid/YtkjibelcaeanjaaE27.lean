/- A logic of plain values, part 27: code run on given values, where nothing is written. -/
import Derived.Test.YtkjibelcaeanjaaE26
namespace Go.Proofs.Ytkjibelcaeanjaa.E
open Go Go.RowKit
set_option linter.unusedVariables false
set_option linter.unusedSimpArgs false
def evOp (call : Nat → List PV → Option PV) (op : POp) (st : List PV) : Option (List PV) :=
  match op.k with
  | .callF f as tk => (call f (callArgs st as tk)).map fun r => putSt (callTake st as tk) op.dst r
  | .callV fx as => match arg st fx with
    | .fn (.func f) first cap => (call f (lendL first ++ as.map (arg st) ++ lendL cap)).map fun r => putSt st op.dst r
    | _ => none
  | .eqN ne x => match arg st x with
    | .lst _ (_ :: _) _ => some (putSt st op.dst (.bool ne))
    | _ => none
  | k => (pev st [] k).map fun r => putSt (ptake st k) op.dst r
def evOps (call : Nat → List PV → Option PV) : List POp → List PV → Option (List PV)
  | [], st => some st
  | op :: ops, st => match op.gd with
    | none => (evOp call op st).bind (evOps call ops)
    | some (t, want) => match gval (st.getD t .unit) with
      | some b => if b = some want then (evOp call op st).bind (evOps call ops) else evOps call ops (putSt st op.dst (.tup []))
      | none => none
def notN (op : POp) : Bool := match op.k with | .eqN _ _ => false | _ => true
def evLoop (f : List PV → Option (PExit × List PV)) : Nat → List PV → Option (PExit × List PV)
  | 0, _ => none
  | n + 1, st => match f st with
    | some (.normal, st') => evLoop f n st'
    | r => r
def ev (call : Nat → List PV → Option PV) (n : Nat) : PCode → List PV → Option (PExit × List PV)
  | .skip, st => some (.normal, st)
  | .region ops, st => (evOps call ops st).map fun st' => (.normal, st')
  | .drawN _ _ _, _ => none
  | .draw ops _, st => if ops.all notN = true then (evOps call ops st).map fun st' => (.normal, st') else none
  | .seq x y, st => match ev call n x st with
    | some (.normal, st') => ev call n y st'
    | r => r
  | .cond p x y, st => match argT st p with
    | .bool true => ev call n x st
    | .bool false => ev call n y st
    | _ => none
  | .block id x, st => match ev call n x st with
    | some (.exit i, st') => if i = id then some (.normal, st') else some (.exit i, st')
    | r => r
  | .loop x, st => evLoop (ev call n x) n st
  | .exit id, st => some (.exit id, st)
  | .ret, st => some (.ret, st)
/-- A function, at most so deep, and no loop longer than n. -/
def evF (tab : Nat → Option PFn) (prim : Nat → List PV → Option PV) (n : Nat) : Nat → Nat → List PV → Option PV
  | 0, _, _ => none
  | d + 1, f, args => match tab f with
    | none => prim f args
    | some p => match ev (evF tab prim n d) n p.body (args ++ List.replicate (p.ntmps - args.length) .unit) with
      | some (.normal, st) => (resL st [] p.res).map resV
      | some (.ret, st) => (resL st [] p.res).map resV
      | _ => none
section
variable {P : Program}
theorem pev_nil {st : List PV} {H : Heap} {k : PK} {r : PV} (h : pev st [] k = some r) : pev st H k = some r := by
  by_cases hk : isLd k = true
  · cases k with
    | ld sz ag tk x =>
      cases tk with
      | true => exact h
      | false =>
        simp only [pev] at h ⊢
        unfold ldP at h ⊢
        split at h
        · exact h
        · cases h
        · cases h
    | _ => cases hk
  · rw [← h]
    exact pev_same (fun _ _ => rfl) (.inl (by simpa using hk))
theorem ldCells_nil {st : List PV} {k : PK} {r : PV} (h : pev st [] k = some r) : ldCells st k = none := by
  cases k with
  | ld sz ag tk x =>
    cases tk with
    | true => cases h
    | false =>
      simp only [pev] at h
      unfold ldP at h
      split at h
      · rename_i e
        simp [ldCells, e]
      · cases h
      · cases h
  | _ => rfl
theorem resL_nil {st : List PV} {H : Heap} : ∀ {rs : List RV} {l : List PV}, resL st [] rs = some l → resL st H rs = some l
  | [], l, h => h
  | .t i :: rs, l, h => by
    obtain ⟨q, h1, rfl⟩ := map_spec h
    simp only [resL, resL_nil h1, Option.map_some]
  | .c i sz ag :: rs, l, h => by
    obtain ⟨q, h1, h2⟩ := bind_spec h
    split at h1
    · cases h1
    · cases h1
def Good (P : Program) (call : Nat → List PV → Option PV) : Prop := ∀ f args r, call f args = some r → PSpec P f args r
theorem evOp_step {call : Nat → List PV → Option PV} (hc : Good P call) {op : POp} {st st' : List PV} (h : evOp call op st = some st') {K : List PV → Heap → Prop} {H : Heap} (hK : K st' H) : stepOp P op K st H := by
  obtain ⟨d, gd, k⟩ := op
  have pure_ : (pev st [] k).map (fun r => putSt (ptake st k) d r) = some st' → ∃ r, pev st H k = some r ∧ K (putSt (ptake st k) d r) H := fun h => by
    obtain ⟨r, h1, rfl⟩ := map_spec h
    exact ⟨r, pev_nil h1, hK⟩
  have no : (pev st [] k).map (fun r => putSt (ptake st k) d r) = some st' → pev st [] k = none → False := fun h e => by rw [e] at h; cases h
  cases k with
  | callF f as tk =>
    obtain ⟨r, h1, rfl⟩ := map_spec h
    exact ⟨_, hc _ _ _ h1 H, fun r' H' ⟨e1, e2⟩ => by subst e1 e2; exact hK⟩
  | callV fx as =>
    unfold evOp at h
    simp only at h
    split at h
    · rename_i f first cap e
      obtain ⟨r, h1, rfl⟩ := map_spec h
      exact ⟨_, _, _, _, e, hc _ _ _ h1 H, fun r' H' ⟨e1, e2⟩ => by subst e1 e2; exact hK⟩
    · cases h
  | al z => exact (no h rfl).elim
  | bx s x => exact (no h rfl).elim
  | appR s b z x y => exact (no h rfl).elim
  | cpy s x y => exact (no h rfl).elim
  | clr s z x => exact (no h rfl).elim
  | cap x => exact (no h rfl).elim
  | sto s x v => exact (no h rfl).elim
  | eqN ne x =>
    unfold evOp at h
    simp only at h
    split at h
    · rename_i s y ys o e
      cases h
      exact ⟨s, y :: ys, o, e, fun _ => hK, fun hx => by cases hx⟩
    · cases h
  | ld s ag tk x =>
    cases tk with
    | true => exact (no h rfl).elim
    | false => exact pure_ h
  | mk s b ag z l c mu =>
    cases mu with
    | true => exact (no h rfl).elim
    | false => exact pure_ h
  | bsl s n ag z ps mu =>
    cases mu with
    | true => exact (no h rfl).elim
    | false => exact pure_ h
  | _ => exact pure_ h
theorem evOps_run {call : Nat → List PV → Option PV} (hc : Good P call) {K : List PV → Heap → Prop} {H : Heap} : ∀ {ops : List POp} {st st' : List PV}, evOps call ops st = some st' → K st' H → runOps P ops K st H
  | [], st, st', h, hK => by cases h; exact hK
  | op :: ops, st, st', h, hK => by
    unfold evOps at h
    unfold runOps
    split at h
    · rename_i hg
      obtain ⟨s1, h1, h2⟩ := bind_spec h
      rw [hg]
      exact evOp_step hc h1 (evOps_run hc h2 hK)
    · rename_i t want hg
      rw [hg]
      split at h
      · rename_i b hb
        refine ⟨b, hb, ?_⟩
        split at h
        · rename_i hbw
          obtain ⟨s1, h1, h2⟩ := bind_spec h
          rw [if_pos hbw]
          exact evOp_step hc h1 (evOps_run hc h2 hK)
        · rename_i hbw
          rw [if_neg hbw]
          exact evOps_run hc h hK
      · cases h
theorem evOp_plan {call : Nat → List PV → Option PV} (hc : Good P call) {late : List (Nat × Nat)} {i : Nat} {op : POp} {st st' : List PV} (hN : notN op = true) (h : evOp call op st = some st') {K : Uses → Uses → List PV → Heap → Prop} {H : Heap} (hK : K [] [] st' H) : planOp P late op i [] [] K st H := by
  obtain ⟨d, gd, k⟩ := op
  have pure_ : (pev st [] k).map (fun r => putSt (ptake st k) d r) = some st' → ∃ r, pev st H k = some r ∧ (∀ c, ldCells st k = some c → ∀ e ∈ ([] : Uses), (i, e.1) ∈ late → apartC c e.2) ∧
      K (match ldCells st k with | some c => (i, c) :: [] | none => []) [] (putSt (ptake st k) d r) H := fun h => by
    obtain ⟨r, h1, rfl⟩ := map_spec h
    refine ⟨r, pev_nil h1, fun c _ e he => (by cases he), ?_⟩
    rw [ldCells_nil h1]
    exact hK
  have no : (pev st [] k).map (fun r => putSt (ptake st k) d r) = some st' → pev st [] k = none → False := fun h e => by rw [e] at h; cases h
  cases k with
  | callF f as tk =>
    obtain ⟨r, h1, rfl⟩ := map_spec h
    exact ⟨r, hc _ _ _ h1, hK⟩
  | callV fx as =>
    unfold evOp at h
    simp only at h
    split at h
    · rename_i f first cap e
      obtain ⟨r, h1, rfl⟩ := map_spec h
      exact ⟨_, _, _, r, e, hc _ _ _ h1, hK⟩
    · cases h
  | al z => exact (no h rfl).elim
  | eqN ne x => cases hN
  | bx s x => exact (no h rfl).elim
  | appR s b z x y => exact (no h rfl).elim
  | cpy s x y => exact (no h rfl).elim
  | clr s z x => exact (no h rfl).elim
  | cap x => exact (no h rfl).elim
  | sto s x v => exact (no h rfl).elim
  | ld s ag tk x =>
    cases tk with
    | true => exact (no h rfl).elim
    | false => exact pure_ h
  | mk s b ag z l c mu =>
    cases mu with
    | true => exact (no h rfl).elim
    | false => exact pure_ h
  | bsl s n ag z ps mu =>
    cases mu with
    | true => exact (no h rfl).elim
    | false => exact pure_ h
  | _ => exact pure_ h
theorem evOps_plan {call : Nat → List PV → Option PV} (hc : Good P call) {late : List (Nat × Nat)} {K : List PV → Heap → Prop} {H : Heap} : ∀ {ops : List POp} {i : Nat} {st st' : List PV}, ops.all notN = true → evOps call ops st = some st' → K st' H → planOps P late ops i [] [] K st H
  | [], i, st, st', hN, h, hK => by cases h; exact hK
  | op :: ops, i, st, st', hN, h, hK => by
    simp only [List.all_cons, Bool.and_eq_true] at hN
    obtain ⟨hn, hN⟩ := hN
    unfold evOps at h
    unfold planOps
    split at h
    · rename_i hg
      obtain ⟨s1, h1, h2⟩ := bind_spec h
      rw [hg]
      exact evOp_plan hc hn h1 (evOps_plan hc hN h2 hK)
    · rename_i t want hg
      rw [hg]
      split at h
      · rename_i b hb
        refine ⟨b, hb, ?_⟩
        split at h
        · rename_i hbw
          obtain ⟨s1, h1, h2⟩ := bind_spec h
          rw [if_pos hbw]
          exact evOp_plan hc hn h1 (evOps_plan hc hN h2 hK)
        · rename_i hbw
          rw [if_neg hbw]
          exact evOps_plan hc hN h hK
      · cases h
theorem ev_loop {f : List PV → Option (PExit × List PV)} {x : PCode} {H : Heap} (hf : ∀ {st st' e} {Q : PPost}, f st = some (e, st') → Q e st' H → pwp P x Q st H) :
    ∀ {n : Nat} {st st' : List PV} {e : PExit} {Q : PPost}, evLoop f n st = some (e, st') → Q e st' H → pwp P (.loop x) Q st H := by
  intro n st st' e Q h hQ
  refine pwp_loop (fun m s H' => H' = H ∧ evLoop f m s = some (e, st')) (n := n) ⟨rfl, h⟩ ?_
  rintro m s H' ⟨rfl, hm⟩
  cases m with
  | zero => cases hm
  | succ m =>
    unfold evLoop at hm
    split at hm
    · rename_i s' hs
      exact hf hs ⟨m, Nat.lt_succ_self m, rfl, hm⟩
    · rename_i hne
      refine hf hm ?_
      cases e with
      | normal => exact absurd hm (by intro hm; exact hne _ hm)
      | exit i => exact hQ
      | ret => exact hQ
theorem ev_sound (hmix : P.follows .mixedOrders = true) {call : Nat → List PV → Option PV} (hc : Good P call) {n : Nat} {H : Heap} : ∀ {pc : PCode} {st st' : List PV} {e : PExit} {Q : PPost}, ev call n pc st = some (e, st') → Q e st' H → pwp P pc Q st H
  | .skip, st, st', e, Q, h, hQ => by cases h; exact pwp_skip hQ
  | .exit id, st, st', e, Q, h, hQ => by cases h; exact pwp_exit hQ
  | .ret, st, st', e, Q, h, hQ => by cases h; exact pwp_ret hQ
  | .region ops, st, st', e, Q, h, hQ => by
    obtain ⟨s1, h1, h2⟩ := map_spec h
    cases h2
    exact pwp_region (evOps_run hc h1 hQ)
  | .drawN _ _ _, st, st', e, Q, h, hQ => by cases h
  | .draw ops late, st, st', e, Q, h, hQ => by
    unfold ev at h
    obtain ⟨hN, h⟩ := ite_spec h
    obtain ⟨s1, h1, h2⟩ := map_spec h
    cases h2
    exact pwp_draw hmix (evOps_plan hc hN h1 hQ)
  | .seq x y, st, st', e, Q, h, hQ => by
    unfold ev at h
    split at h
    · rename_i s1 h1
      exact pwp_seq (ev_sound hmix hc h1 (ev_sound hmix hc (Q := Q) h hQ))
    · rename_i hne
      refine pwp_seq (ev_sound hmix hc h ?_)
      cases e with
      | normal => exact absurd h (by intro h; exact hne _ h)
      | exit i => exact hQ
      | ret => exact hQ
  | .cond p x y, st, st', e, Q, h, hQ => by
    unfold ev at h
    split at h
    · rename_i hb
      exact pwp_cond hb (fun _ => ev_sound hmix hc h hQ) (fun h => by cases h)
    · rename_i hb
      exact pwp_cond hb (fun h => by cases h) (fun _ => ev_sound hmix hc h hQ)
    · cases h
  | .block id x, st, st', e, Q, h, hQ => by
    unfold ev at h
    refine pwp_block ?_
    split at h
    · rename_i i s1 h1
      refine ev_sound hmix hc h1 ?_
      unfold inBlockP
      split at h
      · rename_i hi
        cases h
        simp only [if_pos hi]
        exact hQ
      · rename_i hi
        cases h
        simp only [if_neg hi]
        exact hQ
    · rename_i hne
      refine ev_sound hmix hc h ?_
      cases e with
      | normal => exact hQ
      | exit i => exact absurd h (by intro h; exact hne _ _ h)
      | ret => exact hQ
  | .loop x, st, st', e, Q, h, hQ => ev_loop (fun h1 h2 => ev_sound hmix hc h1 h2) h hQ
theorem evF_sound (hmix : P.follows .mixedOrders = true) {tab : Nat → Option PFn} (htab : ∀ f p, tab f = some p → ∃ h, compF P h f = some p) {prim : Nat → List PV → Option PV} (hprim : Good P prim) {n : Nat} : ∀ d, Good P (evF tab prim n d)
  | 0, f, args, r, h => by cases h
  | d + 1, f, args, r, h => by
    intro H
    unfold evF at h
    split at h
    · exact hprim f args r h H
    · rename_i p hp
      obtain ⟨hh, hcf⟩ := htab f p hp
      refine spec_of_body hcf ?_
      split at h
      · rename_i st hst
        obtain ⟨rs, h1, rfl⟩ := map_spec h
        exact ev_sound hmix (evF_sound hmix htab hprim d) hst ⟨.inl rfl, rs, H, resL_nil h1, List.Sublist.refl _, rfl, rfl⟩
      · rename_i st hst
        obtain ⟨rs, h1, rfl⟩ := map_spec h
        exact ev_sound hmix (evF_sound hmix htab hprim d) hst ⟨.inr rfl, rs, H, resL_nil h1, List.Sublist.refl _, rfl, rfl⟩
      · cases h
end
/-- No contract by hand. -/
def noPrim : Nat → List PV → Option PV := fun _ _ => none
theorem noPrim_good {P : Program} : Good P noPrim := fun f args r h => by cases h
/-- The functions of a claim. -/
def tabOf : List (Nat × PFn) → Nat → Option PFn
  | [], _ => none
  | (g, p) :: l, f => if g = f then some p else tabOf l f
def TabOk (P : Program) (l : List (Nat × PFn)) : Prop := ∀ f p, tabOf l f = some p → ∃ h, compF P h f = some p
theorem TabOk.nil {P : Program} : TabOk P [] := fun f p h => by cases h
theorem TabOk.cons {P : Program} {l : List (Nat × PFn)} {hh : Hint} {f : Nat} {p : PFn} (h : compF P hh f = some p) (t : TabOk P l) : TabOk P ((f, p) :: l) := by
  intro g q hq
  unfold tabOf at hq
  by_cases e : f = g
  · rw [if_pos e] at hq
    subst e
    cases hq
    exact ⟨hh, h⟩
  · rw [if_neg e] at hq
    exact t g q hq
end Go.Proofs.Ytkjibelcaeanjaa.E
