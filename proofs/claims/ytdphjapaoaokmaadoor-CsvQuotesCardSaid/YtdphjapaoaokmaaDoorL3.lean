/- A logic of plain values over the model's walk, part 3. -/
import Derived.Test.YtdphjapaoaokmaaDoorL2
/- A logic of plain values, part 27: code run on given values, where nothing is written. -/
namespace Go.Proofs.YtdphjapaoaokmaaDoor.E
open Go Go.RowKit
set_option linter.unusedVariables false
set_option linter.unusedSimpArgs false
def evOp (call : Nat → List PV → Option PV) (op : POp) (st : List PV) : Option (List PV) :=
  match op.k with
  | .callF f as tk => (call f (callArgs st as tk)).map fun r => putSt (callTake st as tk) op.dst r
  | .callV fx as => match arg st fx with
    | .fn (.func f) first cap => (call f (lendL first ++ as.map (arg st) ++ lendL cap)).map fun r => putSt st op.dst r
    | _ => none
  | .eqN ne x => match arg st x with
    | .lst _ (_ :: _) _ => some (putSt st op.dst (.bool ne))
    | _ => none
  | k => (pev st [] k).map fun r => putSt (ptake st k) op.dst r
def evOps (call : Nat → List PV → Option PV) : List POp → List PV → Option (List PV)
  | [], st => some st
  | op :: ops, st => match op.gd with
    | none => (evOp call op st).bind (evOps call ops)
    | some (t, want) => match gval (st.getD t .unit) with
      | some b => if b = some want then (evOp call op st).bind (evOps call ops) else evOps call ops (putSt st op.dst (.tup []))
      | none => none
def notN (op : POp) : Bool := match op.k with | .eqN _ _ => false | _ => true
def evLoop (f : List PV → Option (PExit × List PV)) : Nat → List PV → Option (PExit × List PV)
  | 0, _ => none
  | n + 1, st => match f st with
    | some (.normal, st') => evLoop f n st'
    | r => r
def ev (call : Nat → List PV → Option PV) (n : Nat) : PCode → List PV → Option (PExit × List PV)
  | .skip, st => some (.normal, st)
  | .region ops, st => (evOps call ops st).map fun st' => (.normal, st')
  | .drawN _ _ _, _ => none
  | .rangeF _ _ _ _, _ => none
  | .draw ops _, st => if ops.all notN = true then (evOps call ops st).map fun st' => (.normal, st') else none
  | .seq x y, st => match ev call n x st with
    | some (.normal, st') => ev call n y st'
    | r => r
  | .cond p x y, st => match argT st p with
    | .bool true => ev call n x st
    | .bool false => ev call n y st
    | _ => none
  | .block id x, st => match ev call n x st with
    | some (.exit i, st') => if i = id then some (.normal, st') else some (.exit i, st')
    | r => r
  | .loop x, st => evLoop (ev call n x) n st
  | .exit id, st => some (.exit id, st)
  | .ret, st => some (.ret, st)
/-- A function, at most so deep, and no loop longer than n. -/
def evF (tab : Nat → Option PFn) (prim : Nat → List PV → Option PV) (n : Nat) : Nat → Nat → List PV → Option PV
  | 0, _, _ => none
  | d + 1, f, args => match tab f with
    | none => prim f args
    | some p => match ev (evF tab prim n d) n p.body (args ++ List.replicate (p.ntmps - args.length) .unit) with
      | some (.normal, st) => (resL st [] p.res).map resV
      | some (.ret, st) => (resL st [] p.res).map resV
      | _ => none
section
variable {P : Program}
theorem pev_nil {st : List PV} {H : Heap} {k : PK} {r : PV} (h : pev st [] k = some r) : pev st H k = some r := by
  by_cases hk : isLd k = true
  · cases k with
    | ld sz ag tk x =>
      cases tk with
      | true => exact h
      | false =>
        simp only [pev] at h ⊢
        unfold ldP at h ⊢
        split at h
        · exact h
        · cases h
        · cases h
    | _ => cases hk
  · rw [← h]
    exact pev_same (fun _ _ => rfl) (.inl (by simpa using hk))
theorem ldCells_nil {st : List PV} {k : PK} {r : PV} (h : pev st [] k = some r) : ldCells st k = none := by
  cases k with
  | ld sz ag tk x =>
    cases tk with
    | true => cases h
    | false =>
      simp only [pev] at h
      unfold ldP at h
      split at h
      · rename_i e
        simp [ldCells, e]
      · cases h
      · cases h
  | _ => rfl
theorem resL_nil {st : List PV} {H : Heap} : ∀ {rs : List RV} {l : List PV}, resL st [] rs = some l → resL st H rs = some l
  | [], l, h => h
  | .t i :: rs, l, h => by
    obtain ⟨q, h1, rfl⟩ := map_spec h
    simp only [resL, resL_nil h1, Option.map_some]
  | .c i sz ag :: rs, l, h => by
    obtain ⟨q, h1, h2⟩ := bind_spec h
    split at h1
    · cases h1
    · cases h1
def Good (P : Program) (call : Nat → List PV → Option PV) : Prop := ∀ f args r, call f args = some r → PSpec P f args r
theorem evOp_step {call : Nat → List PV → Option PV} (hc : Good P call) {op : POp} {st st' : List PV} (h : evOp call op st = some st') {K : List PV → Heap → Prop} {H : Heap} (hK : K st' H) : stepOp P op K st H := by
  obtain ⟨d, gd, k⟩ := op
  have pure_ : (pev st [] k).map (fun r => putSt (ptake st k) d r) = some st' → ∃ r, pev st H k = some r ∧ K (putSt (ptake st k) d r) H := fun h => by
    obtain ⟨r, h1, rfl⟩ := map_spec h
    exact ⟨r, pev_nil h1, hK⟩
  have no : (pev st [] k).map (fun r => putSt (ptake st k) d r) = some st' → pev st [] k = none → False := fun h e => by rw [e] at h; cases h
  cases k with
  | callF f as tk =>
    obtain ⟨r, h1, rfl⟩ := map_spec h
    exact ⟨_, hc _ _ _ h1 H, fun r' H' ⟨e1, e2⟩ => by subst e1 e2; exact hK⟩
  | callV fx as =>
    unfold evOp at h
    simp only at h
    split at h
    · rename_i f first cap e
      obtain ⟨r, h1, rfl⟩ := map_spec h
      exact ⟨_, _, _, _, e, hc _ _ _ h1 H, fun r' H' ⟨e1, e2⟩ => by subst e1 e2; exact hK⟩
    · cases h
  | al z => exact (no h rfl).elim
  | bx s x => exact (no h rfl).elim
  | appR s b z x y => exact (no h rfl).elim
  | cpy s x y => exact (no h rfl).elim
  | clr s z x => exact (no h rfl).elim
  | cap x => exact (no h rfl).elim
  | sto s x v => exact (no h rfl).elim
  | eqN ne x =>
    unfold evOp at h
    simp only at h
    split at h
    · rename_i s y ys o e
      cases h
      exact ⟨s, y :: ys, o, e, fun _ => hK, fun hx => by cases hx⟩
    · cases h
  | ld s ag tk x =>
    cases tk with
    | true => exact (no h rfl).elim
    | false => exact pure_ h
  | mk s b ag z l c mu =>
    cases mu with
    | true => exact (no h rfl).elim
    | false => exact pure_ h
  | bsl s n ag z ps mu =>
    cases mu with
    | true => exact (no h rfl).elim
    | false => exact pure_ h
  | _ => exact pure_ h
theorem evOps_run {call : Nat → List PV → Option PV} (hc : Good P call) {K : List PV → Heap → Prop} {H : Heap} : ∀ {ops : List POp} {st st' : List PV}, evOps call ops st = some st' → K st' H → runOps P ops K st H
  | [], st, st', h, hK => by cases h; exact hK
  | op :: ops, st, st', h, hK => by
    unfold evOps at h
    unfold runOps
    split at h
    · rename_i hg
      obtain ⟨s1, h1, h2⟩ := bind_spec h
      rw [hg]
      exact evOp_step hc h1 (evOps_run hc h2 hK)
    · rename_i t want hg
      rw [hg]
      split at h
      · rename_i b hb
        refine ⟨b, hb, ?_⟩
        split at h
        · rename_i hbw
          obtain ⟨s1, h1, h2⟩ := bind_spec h
          rw [if_pos hbw]
          exact evOp_step hc h1 (evOps_run hc h2 hK)
        · rename_i hbw
          rw [if_neg hbw]
          exact evOps_run hc h hK
      · cases h
theorem evOp_plan {call : Nat → List PV → Option PV} (hc : Good P call) {late : List (Nat × Nat)} {i : Nat} {op : POp} {st st' : List PV} (hN : notN op = true) (h : evOp call op st = some st') {K : Uses → Uses → List PV → Heap → Prop} {H : Heap} (hK : K [] [] st' H) : planOp P late op i [] [] K st H := by
  obtain ⟨d, gd, k⟩ := op
  have pure_ : (pev st [] k).map (fun r => putSt (ptake st k) d r) = some st' → ∃ r, pev st H k = some r ∧ (∀ c, ldCells st k = some c → ∀ e ∈ ([] : Uses), (i, e.1) ∈ late → apartC c e.2) ∧
      K (match ldCells st k with | some c => (i, c) :: [] | none => []) [] (putSt (ptake st k) d r) H := fun h => by
    obtain ⟨r, h1, rfl⟩ := map_spec h
    refine ⟨r, pev_nil h1, fun c _ e he => (by cases he), ?_⟩
    rw [ldCells_nil h1]
    exact hK
  have no : (pev st [] k).map (fun r => putSt (ptake st k) d r) = some st' → pev st [] k = none → False := fun h e => by rw [e] at h; cases h
  cases k with
  | callF f as tk =>
    obtain ⟨r, h1, rfl⟩ := map_spec h
    exact ⟨r, hc _ _ _ h1, hK⟩
  | callV fx as =>
    unfold evOp at h
    simp only at h
    split at h
    · rename_i f first cap e
      obtain ⟨r, h1, rfl⟩ := map_spec h
      exact ⟨_, _, _, r, e, hc _ _ _ h1, hK⟩
    · cases h
  | al z => exact (no h rfl).elim
  | eqN ne x => cases hN
  | bx s x => exact (no h rfl).elim
  | appR s b z x y => exact (no h rfl).elim
  | cpy s x y => exact (no h rfl).elim
  | clr s z x => exact (no h rfl).elim
  | cap x => exact (no h rfl).elim
  | sto s x v => exact (no h rfl).elim
  | ld s ag tk x =>
    cases tk with
    | true => exact (no h rfl).elim
    | false => exact pure_ h
  | mk s b ag z l c mu =>
    cases mu with
    | true => exact (no h rfl).elim
    | false => exact pure_ h
  | bsl s n ag z ps mu =>
    cases mu with
    | true => exact (no h rfl).elim
    | false => exact pure_ h
  | _ => exact pure_ h
theorem evOps_plan {call : Nat → List PV → Option PV} (hc : Good P call) {late : List (Nat × Nat)} {K : List PV → Heap → Prop} {H : Heap} : ∀ {ops : List POp} {i : Nat} {st st' : List PV}, ops.all notN = true → evOps call ops st = some st' → K st' H → planOps P late ops i [] [] K st H
  | [], i, st, st', hN, h, hK => by cases h; exact hK
  | op :: ops, i, st, st', hN, h, hK => by
    simp only [List.all_cons, Bool.and_eq_true] at hN
    obtain ⟨hn, hN⟩ := hN
    unfold evOps at h
    unfold planOps
    split at h
    · rename_i hg
      obtain ⟨s1, h1, h2⟩ := bind_spec h
      rw [hg]
      exact evOp_plan hc hn h1 (evOps_plan hc hN h2 hK)
    · rename_i t want hg
      rw [hg]
      split at h
      · rename_i b hb
        refine ⟨b, hb, ?_⟩
        split at h
        · rename_i hbw
          obtain ⟨s1, h1, h2⟩ := bind_spec h
          rw [if_pos hbw]
          exact evOp_plan hc hn h1 (evOps_plan hc hN h2 hK)
        · rename_i hbw
          rw [if_neg hbw]
          exact evOps_plan hc hN h hK
      · cases h
theorem ev_loop {f : List PV → Option (PExit × List PV)} {x : PCode} {H : Heap} (hf : ∀ {st st' e} {Q : PPost}, f st = some (e, st') → Q e st' H → pwp P x Q st H) :
    ∀ {n : Nat} {st st' : List PV} {e : PExit} {Q : PPost}, evLoop f n st = some (e, st') → Q e st' H → pwp P (.loop x) Q st H := by
  intro n st st' e Q h hQ
  refine pwp_loop (fun m s H' => H' = H ∧ evLoop f m s = some (e, st')) (n := n) ⟨rfl, h⟩ ?_
  rintro m s H' ⟨rfl, hm⟩
  cases m with
  | zero => cases hm
  | succ m =>
    unfold evLoop at hm
    split at hm
    · rename_i s' hs
      exact hf hs ⟨m, Nat.lt_succ_self m, rfl, hm⟩
    · rename_i hne
      refine hf hm ?_
      cases e with
      | normal => exact absurd hm (by intro hm; exact hne _ hm)
      | exit i => exact hQ
      | ret => exact hQ
theorem ev_sound (hmix : P.follows .mixedOrders = true) {call : Nat → List PV → Option PV} (hc : Good P call) {n : Nat} {H : Heap} : ∀ {pc : PCode} {st st' : List PV} {e : PExit} {Q : PPost}, ev call n pc st = some (e, st') → Q e st' H → pwp P pc Q st H
  | .skip, st, st', e, Q, h, hQ => by cases h; exact pwp_skip hQ
  | .exit id, st, st', e, Q, h, hQ => by cases h; exact pwp_exit hQ
  | .ret, st, st', e, Q, h, hQ => by cases h; exact pwp_ret hQ
  | .region ops, st, st', e, Q, h, hQ => by
    obtain ⟨s1, h1, h2⟩ := map_spec h
    cases h2
    exact pwp_region (evOps_run hc h1 hQ)
  | .drawN _ _ _, st, st', e, Q, h, hQ => by cases h
  | .rangeF _ _ _ _, st, st', e, Q, h, hQ => by cases h
  | .draw ops late, st, st', e, Q, h, hQ => by
    unfold ev at h
    obtain ⟨hN, h⟩ := ite_spec h
    obtain ⟨s1, h1, h2⟩ := map_spec h
    cases h2
    exact pwp_draw hmix (evOps_plan hc hN h1 hQ)
  | .seq x y, st, st', e, Q, h, hQ => by
    unfold ev at h
    split at h
    · rename_i s1 h1
      exact pwp_seq (ev_sound hmix hc h1 (ev_sound hmix hc (Q := Q) h hQ))
    · rename_i hne
      refine pwp_seq (ev_sound hmix hc h ?_)
      cases e with
      | normal => exact absurd h (by intro h; exact hne _ h)
      | exit i => exact hQ
      | ret => exact hQ
  | .cond p x y, st, st', e, Q, h, hQ => by
    unfold ev at h
    split at h
    · rename_i hb
      exact pwp_cond hb (fun _ => ev_sound hmix hc h hQ) (fun h => by cases h)
    · rename_i hb
      exact pwp_cond hb (fun h => by cases h) (fun _ => ev_sound hmix hc h hQ)
    · cases h
  | .block id x, st, st', e, Q, h, hQ => by
    unfold ev at h
    refine pwp_block ?_
    split at h
    · rename_i i s1 h1
      refine ev_sound hmix hc h1 ?_
      unfold inBlockP
      split at h
      · rename_i hi
        cases h
        simp only [if_pos hi]
        exact hQ
      · rename_i hi
        cases h
        simp only [if_neg hi]
        exact hQ
    · rename_i hne
      refine ev_sound hmix hc h ?_
      cases e with
      | normal => exact hQ
      | exit i => exact absurd h (by intro h; exact hne _ _ h)
      | ret => exact hQ
  | .loop x, st, st', e, Q, h, hQ => ev_loop (fun h1 h2 => ev_sound hmix hc h1 h2) h hQ
theorem evF_sound (hmix : P.follows .mixedOrders = true) {tab : Nat → Option PFn} (htab : ∀ f p, tab f = some p → ∃ h, compF P h f = some p) {prim : Nat → List PV → Option PV} (hprim : Good P prim) {n : Nat} : ∀ d, Good P (evF tab prim n d)
  | 0, f, args, r, h => by cases h
  | d + 1, f, args, r, h => by
    intro H
    unfold evF at h
    split at h
    · exact hprim f args r h H
    · rename_i p hp
      obtain ⟨hh, hcf⟩ := htab f p hp
      refine spec_of_body hcf ?_
      split at h
      · rename_i st hst
        obtain ⟨rs, h1, rfl⟩ := map_spec h
        exact ev_sound hmix (evF_sound hmix htab hprim d) hst ⟨.inl rfl, rs, H, resL_nil h1, List.Sublist.refl _, rfl, rfl⟩
      · rename_i st hst
        obtain ⟨rs, h1, rfl⟩ := map_spec h
        exact ev_sound hmix (evF_sound hmix htab hprim d) hst ⟨.inr rfl, rs, H, resL_nil h1, List.Sublist.refl _, rfl, rfl⟩
      · cases h
end
/-- No contract by hand. -/
def noPrim : Nat → List PV → Option PV := fun _ _ => none
theorem noPrim_good {P : Program} : Good P noPrim := fun f args r h => by cases h
/-- The functions of a claim. -/
def tabOf : List (Nat × PFn) → Nat → Option PFn
  | [], _ => none
  | (g, p) :: l, f => if g = f then some p else tabOf l f
def TabOk (P : Program) (l : List (Nat × PFn)) : Prop := ∀ f p, tabOf l f = some p → ∃ h, compF P h f = some p
theorem TabOk.nil {P : Program} : TabOk P [] := fun f p h => by cases h
theorem TabOk.cons {P : Program} {l : List (Nat × PFn)} {hh : Hint} {f : Nat} {p : PFn} (h : compF P hh f = some p) (t : TabOk P l) : TabOk P ((f, p) :: l) := by
  intro g q hq
  unfold tabOf at hq
  by_cases e : f = g
  · rw [if_pos e] at hq
    subst e
    cases hq
    exact ⟨hh, h⟩
  · rw [if_neg e] at hq
    exact t g q hq
end Go.Proofs.YtdphjapaoaokmaaDoor.E
/- A logic of plain values, part 28: what is no longer looked at is let go; loops. -/
namespace Go.Proofs.YtdphjapaoaokmaaDoor.E
open Go Go.RowKit
set_option linter.unusedVariables false
set_option linter.unusedSimpArgs false
variable {dq : List Deferred}
theorem w64 {x : Int} (h1 : -9223372036854775808 ≤ x) (h2 : x ≤ 9223372036854775807) : IntKind.i64.wrap x = x := by
  rw [IntKind.wrap_i64]
  omega
/-- Only these slots are kept. -/
def keepL (keep : List Nat) : Nat → List PV → List PV
  | _, [] => []
  | i, x :: xs => (if keep.contains i then x else .unit) :: keepL keep (i + 1) xs
def getS : List (Nat × PV) → Nat → PV
  | [], _ => .unit
  | (k, v) :: l, i => if k = i then v else getS l i
/-- Slots of which only these are known. -/
def MS (n : Nat) (l : List (Nat × PV)) : List PV := (List.range n).map (getS l)
theorem MS_getElem? {n : Nat} {l : List (Nat × PV)} (i : Nat) : (MS n l)[i]? = if i < n then some (getS l i) else none := by
  unfold MS
  rw [List.getElem?_map]
  by_cases h : i < n
  · rw [List.getElem?_range h, if_pos h]; rfl
  · rw [List.getElem?_eq_none (by simp; omega), if_neg h]; rfl
theorem MS_getD {n : Nat} {l : List (Nat × PV)} {i : Nat} (h : i < n) : (MS n l).getD i .unit = getS l i := by
  rw [List.getD_eq_getElem?_getD, MS_getElem?, if_pos h]
  rfl
theorem MS_get {n : Nat} {l : List (Nat × PV)} {i : Nat} (h : i < n) : (MS n l)[i]?.getD .unit = getS l i := by
  rw [MS_getElem?, if_pos h]
  rfl
theorem MS_set {n : Nat} {l : List (Nat × PV)} {i : Nat} {v : PV} (h : i < n) : (MS n l).set i v = MS n ((i, v) :: l) := by
  apply List.ext_getElem?
  intro j
  rw [List.getElem?_set, MS_getElem?, MS_getElem?]
  have hl : (MS n l).length = n := by simp [MS]
  rw [hl]
  simp only [getS]
  by_cases hij : i = j
  · subst hij; simp [h]
  · simp [hij]
def keepA (keep : List Nat) (l : List (Nat × PV)) : List (Nat × PV) := keep.map fun k => (k, getS l k)
theorem getS_keepA (l : List (Nat × PV)) (j : Nat) : ∀ keep : List Nat, getS (keepA keep l) j = if keep.contains j then getS l j else .unit
  | [] => rfl
  | k :: ks => by
    have := getS_keepA l j ks
    simp only [keepA, List.map_cons, getS] at this ⊢
    by_cases h : k = j
    · subst h; simp
    · rw [if_neg h, this]
      have : (j == k) = false := by simp [Ne.symm h]
      simp only [List.contains_cons, this, Bool.false_or]
theorem keepL_getElem? (keep : List Nat) : ∀ (i : Nat) (st : List PV) (j : Nat), (keepL keep i st)[j]? = (st[j]?).map fun x => if keep.contains (i + j) then x else .unit
  | i, [], j => by simp [keepL]
  | i, x :: st, 0 => by simp [keepL]
  | i, x :: st, j + 1 => by
    simp only [keepL, List.getElem?_cons_succ]
    rw [keepL_getElem? keep (i + 1) st j, show i + 1 + j = i + (j + 1) by omega]
theorem keepL_MS (keep : List Nat) (n : Nat) (l : List (Nat × PV)) : keepL keep 0 (MS n l) = MS n (keepA keep l) := by
  apply List.ext_getElem?
  intro j
  rw [keepL_getElem?, MS_getElem?, MS_getElem?, getS_keepA, Nat.zero_add]
  by_cases h : j < n
  · rw [if_pos h, if_pos h]; rfl
  · rw [if_neg h, if_neg h]; rfl
def idxA : Nat → List PV → List (Nat × PV)
  | _, [] => []
  | i, x :: xs => (i, x) :: idxA (i + 1) xs
theorem getS_idxA : ∀ (xs : List PV) (i j : Nat), getS (idxA i xs) (i + j) = (xs[j]?).getD .unit
  | [], i, j => by simp [idxA, getS]
  | x :: xs, i, 0 => by simp [idxA, getS]
  | x :: xs, i, j + 1 => by
    simp only [idxA, getS, List.getElem?_cons_succ]
    rw [if_neg (by omega), show i + (j + 1) = i + 1 + j by omega, getS_idxA xs (i + 1) j]
theorem init_MS {args : List PV} {n : Nat} (h : args.length ≤ n) : args ++ List.replicate (n - args.length) .unit = MS n (idxA 0 args) := by
  apply List.ext_getElem?
  intro j
  have := getS_idxA args 0 j
  rw [Nat.zero_add] at this
  rw [MS_getElem?, this]
  by_cases h1 : j < args.length
  · rw [List.getElem?_append_left h1, if_pos (by omega), List.getElem?_eq_getElem h1]; rfl
  · rw [List.getElem?_append_right (by omega), List.getElem?_eq_none (l := args) (by omega), List.getElem?_replicate]
    by_cases h2 : j < n
    · rw [if_pos h2, if_pos (by omega)]; rfl
    · rw [if_neg h2, if_neg (by omega)]
/-- A function's contract out of its body. -/
theorem spec_of {P : Program} {h : Hint} {f : Nat} {p : PFn} {args : List PV} {H : Heap} {Q : PV → Heap → Prop} (hf : compF P h f = some p) (hl : args.length ≤ p.ntmps)
    (hb : pwp P p.body (fun e st' H' => (e = .normal ∨ e = .ret) ∧ ∃ rs H2, resL st' H' p.res = some rs ∧ H2.Sublist H' ∧ Q (resV rs) H2) (MS p.ntmps (idxA 0 args)) H) : SpecH P f H args Q := by
  refine spec_of_body hf ?_
  rw [init_MS hl]
  exact hb
theorem VRl_keep {o : Bool} {w : World} {g : Ghost} (keep : List Nat) : ∀ {i : Nat} {st : List PV} {vs : List Value}, VRl o w g st vs → VRl o w g (keepL keep i st) vs ∧ ∀ b, (toksL (keepL keep i st) vs).count b ≤ (toksL st vs).count b
  | i, [], vs, h => ⟨h, fun b => Nat.le_refl _⟩
  | i, x :: st, vs, h => by
    obtain ⟨v, vs', rfl, h1, h2⟩ := h
    obtain ⟨k1, k2⟩ := VRl_keep keep (i := i + 1) h2
    simp only [keepL]
    by_cases hk : keep.contains i = true
    · rw [if_pos hk]
      refine ⟨⟨v, vs', rfl, h1, k1⟩, fun b => ?_⟩
      have := k2 b
      simp only [toksL, List.count_append]
      omega
    · rw [if_neg hk]
      refine ⟨⟨v, vs', rfl, trivial, k1⟩, fun b => ?_⟩
      have := k2 b
      have e : toks .unit v = [] := by simp [toks]
      simp only [toksL, e, List.count_append, List.nil_append]
      omega
section
variable {P : Program} {Q : PPost} {st : List PV} {H : Heap}
theorem pwp_keep (keep : List Nat) {pc : PCode} (h : pwp P pc Q (keepL keep 0 st) H) : pwp P pc Q st H := by
  intro hh c hc rr hrr dq out a w g hR
  obtain ⟨k1, k2⟩ := VRl_keep keep (i := 0) hR.tm
  exact h hh c hc rr hrr dq out a w g ⟨hR.wr, hR.hp, k1, fun b => by have := hR.un b; have := k2 b; omega, hR.df⟩
/-- A loop: between the rounds only these slots are looked at, and some of the blocks. -/
theorem pwp_loopK (keep : List Nat) (I : Nat → List PV → Heap → Prop) {x : PCode} {n : Nat} (h0 : ∃ H2, H2.Sublist H ∧ I n (keepL keep 0 st) H2)
    (h : ∀ n st H, I n st H → pwp P x (thenP (fun st' H' => ∃ m, m < n ∧ ∃ H2, H2.Sublist H' ∧ I m (keepL keep 0 st') H2) Q) st H) : pwp P (.loop x) Q st H := by
  refine pwp_loop (fun m s H' => ∃ H2, H2.Sublist H' ∧ I m (keepL keep 0 s) H2) h0 ?_
  rintro m s H' ⟨H2, h1, h2⟩
  exact pwp_drop h1 (pwp_keep keep (h m _ _ h2))
theorem pwp_regionK {ops : List POp} (h : ∀ K : List PV → Heap → Prop, (∀ st' H', Q .normal st' H' → K st' H') → runOps P ops K st H) : pwp P (.region ops) Q st H := pwp_region (h _ fun _ _ h => h)
theorem pwp_drawK (hmix : P.follows .mixedOrders = true) {ops : List POp} {late : List (Nat × Nat)} (h : ∀ K : List PV → Heap → Prop, (∀ st' H', Q .normal st' H' → K st' H') → planOps P late ops 0 [] [] K st H) : pwp P (.draw ops late) Q st H := pwp_draw hmix (h _ fun _ _ h => h)
/-- A call whose contract is known. -/
theorem use {f : Nat} {args : List PV} {r : PV} (h : PSpec P f args r) {K : PV → Heap → Prop} (hK : K r H) : ∃ R, SpecH P f H args R ∧ ∀ r' H', R r' H' → K r' H' :=
  ⟨_, h H, fun r' H' ⟨e1, e2⟩ => by subst e1 e2; exact hK⟩
end
end Go.Proofs.YtdphjapaoaokmaaDoor.E
/- A logic of plain values, part 29: the operations in a form that is quickly reckoned. -/
namespace Go.Proofs.YtdphjapaoaokmaaDoor.E
open Go Go.RowKit
set_option linter.unusedVariables false
set_option linter.unusedSimpArgs false
/-- A call, behind which the rest of a region goes on. -/
def callK (P : Program) (f : Nat) (H : Heap) (args : List PV) (ops : List POp) (K : List PV → Heap → Prop) (st : List PV) (d : Option Nat) : Prop :=
  ∃ Q, SpecH P f H args Q ∧ ∀ r H', Q r H' → runOps P ops K (putSt st d r) H'
/-- A row is appended to. -/
def appB (sz bytes : Nat) (zero : List PV) (px py : PV) (rest : PV → Heap → Prop) (H : Heap) : Prop :=
  match px with
  | .row b off n cap => match hget H b with
    | some cs => match cellsY sz H py with
      | some (ys, m) => off = 0 ∧ cap * sz ≤ cs.length ∧ n ≤ cap ∧ cap ≤ maxLen ∧ (n + m) * bytes ≤ 140737488355328 ∧
          (n + m ≤ cap → rest (.row b 0 (n + m) cap) (hset H b (cs.take (n * sz) ++ ys ++ cs.drop ((n + m) * sz)))) ∧
          (cap < n + m → ∀ b' cap', hget H b' = none → n + m ≤ cap' → cap' ≤ maxLen → rest (.row b' 0 (n + m) cap') ((b', lendL (cs.take (n * sz)) ++ ys ++ repCells (cap' - (n + m)) zero) :: H))
      | none => False
    | none => False
  | _ => False
def cpyB (sz : Nat) (px py : PV) (rest : PV → Heap → Prop) (H : Heap) : Prop :=
  match px with
  | .row b off n cap => match hget H b with
    | some cs => match cellsY sz H py with
      | some (ys, m) => off + n * sz ≤ cs.length ∧ rest (.int .i64 (min m n : Nat)) (hset H b (cs.take off ++ ys.take (min m n * sz) ++ cs.drop (off + min m n * sz)))
      | none => False
    | none => False
  | _ => False
def clrB (sz : Nat) (zero : List PV) (px : PV) (rest : PV → Heap → Prop) (H : Heap) : Prop :=
  match px with
  | .row b off n cap => match hget H b with
    | some cs => off + n * sz ≤ cs.length ∧ rest .unit (hset H b (cs.take off ++ repCells n zero ++ cs.drop (off + n * sz)))
    | none => False
  | _ => False
def capB (px : PV) (rest : PV → Heap → Prop) (H : Heap) : Prop :=
  match px with
  | .row _ _ _ c => rest (.int .i64 c) H
  | .lst _ xs _ => ∀ c : Nat, xs.length ≤ c → c ≤ maxLen → rest (.int .i64 c) H
  | _ => False
theorem appB_mono {sz bytes : Nat} {zero : List PV} {px py : PV} {H : Heap} {r r' : PV → Heap → Prop} (h : appB sz bytes zero px py r H) (hr : ∀ v H', r v H' → r' v H') :
    ∃ b n cap cs ys m, px = .row b 0 n cap ∧ hget H b = some cs ∧ cap * sz ≤ cs.length ∧ n ≤ cap ∧ cap ≤ maxLen ∧ cellsY sz H py = some (ys, m) ∧ (n + m) * bytes ≤ 140737488355328 ∧
      (n + m ≤ cap → r' (.row b 0 (n + m) cap) (hset H b (cs.take (n * sz) ++ ys ++ cs.drop ((n + m) * sz)))) ∧
      (cap < n + m → ∀ b' cap', hget H b' = none → n + m ≤ cap' → cap' ≤ maxLen → r' (.row b' 0 (n + m) cap') ((b', lendL (cs.take (n * sz)) ++ ys ++ repCells (cap' - (n + m)) zero) :: H)) := by
  unfold appB at h
  split at h
  · split at h
    · rename_i cs e
      split at h
      · rename_i ys m e2
        obtain ⟨rfl, h1, h2, h3, h4, h5, h6⟩ := h
        exact ⟨_, _, _, cs, ys, m, rfl, e, h1, h2, h3, e2, h4, fun q => hr _ _ (h5 q), fun q b' c' q1 q2 q3 => hr _ _ (h6 q b' c' q1 q2 q3)⟩
      · exact h.elim
    · exact h.elim
  · exact h.elim
theorem cpyB_mono {sz : Nat} {px py : PV} {H : Heap} {r r' : PV → Heap → Prop} (h : cpyB sz px py r H) (hr : ∀ v H', r v H' → r' v H') :
    ∃ b off n cap cs ys m, px = .row b off n cap ∧ hget H b = some cs ∧ off + n * sz ≤ cs.length ∧ cellsY sz H py = some (ys, m) ∧
      r' (.int .i64 (min m n : Nat)) (hset H b (cs.take off ++ ys.take (min m n * sz) ++ cs.drop (off + min m n * sz))) := by
  unfold cpyB at h
  split at h
  · split at h
    · rename_i cs e
      split at h
      · rename_i ys m e2
        exact ⟨_, _, _, _, cs, ys, m, rfl, e, h.1, e2, hr _ _ h.2⟩
      · exact h.elim
    · exact h.elim
  · exact h.elim
theorem clrB_mono {sz : Nat} {zero : List PV} {px : PV} {H : Heap} {r r' : PV → Heap → Prop} (h : clrB sz zero px r H) (hr : ∀ v H', r v H' → r' v H') :
    ∃ b off n cap cs, px = .row b off n cap ∧ hget H b = some cs ∧ off + n * sz ≤ cs.length ∧ r' .unit (hset H b (cs.take off ++ repCells n zero ++ cs.drop (off + n * sz))) := by
  unfold clrB at h
  split at h
  · split at h
    · rename_i cs e
      exact ⟨_, _, _, _, cs, rfl, e, h.1, hr _ _ h.2⟩
    · exact h.elim
  · exact h.elim
theorem capB_mono {px : PV} {H : Heap} {r r' : PV → Heap → Prop} (h : capB px r H) (hr : ∀ v H', r v H' → r' v H') :
    (∃ b off n c, px = .row b off n c ∧ r' (.int .i64 c) H) ∨ (∃ s xs o, px = .lst s xs o ∧ ∀ c : Nat, xs.length ≤ c → c ≤ maxLen → r' (.int .i64 c) H) := by
  unfold capB at h
  split at h
  · exact .inl ⟨_, _, _, _, rfl, hr _ _ h⟩
  · exact .inr ⟨_, _, _, rfl, fun c h1 h2 => hr _ _ (h c h1 h2)⟩
  · exact h.elim
/-- Is it done? -/
def goes (op : POp) (st : List PV) : Option Bool :=
  match op.gd with
  | none => some true
  | some (t, want) => match gval (st.getD t .unit) with
    | some b => some (b == some want)
    | none => none
def runM (P : Program) : List POp → (List PV → Heap → Prop) → List PV → Heap → Prop
  | [], K, st, H => K st H
  | op :: ops, K, st, H =>
    match goes op st with
    | none => False
    | some false => runM P ops K (putSt st op.dst (.tup [])) H
    | some true => match op.k with
      | .al cs => ∀ b, hget H b = none → runM P ops K (putSt st op.dst (.ptr (some (b, 0)))) ((b, cs) :: H)
      | .bx sz x => (cellsOf (argT st x)).all PV.isCell = true ∧ ∀ b, hget H b = none → runM P ops K (putSt (takeAt st x) op.dst (.ptr (some (b, 0)))) ((b, cellsOf (argT st x)) :: H)
      | .sto sz x v => match arg st x with
        | .ptr (some (b, off)) => match hget H b with
          | some cs => (cellsOf (argT st v)).length = sz ∧ off + sz ≤ cs.length ∧ (cellsOf (argT st v)).all PV.isCell = true ∧
              runM P ops K (putSt (takeAt st v) op.dst .unit) (hset H b (cs.take off ++ cellsOf (argT st v) ++ cs.drop (off + sz)))
          | none => False
        | _ => False
      | .ld sz ag true x => match arg st x with
        | .ptr (some (b, off)) => match hget H b with
          | some cs => match partP sz ag cs off with
            | some r => runM P ops K (putSt st op.dst r) (hset H b (cs.take off ++ lendL ((cs.drop off).take sz) ++ cs.drop (off + sz)))
            | none => False
          | none => False
        | _ => False
      | .mk sz bytes ag zero l c true => match arg st l, arg st c with
        | .int _ ln, .int _ cn => 0 ≤ ln ∧ ln ≤ cn ∧ cn * bytes ≤ 281474976710656 ∧ ∀ b, hget H b = none → runM P ops K (putSt st op.dst (.row b 0 ln.toNat cn.toNat)) ((b, repCells cn.toNat zero) :: H)
        | _, _ => False
      | .bsl sz len ag zero ps true => match fillP zero (elemParts sz st ps) with
        | some cs => ∀ b, hget H b = none → runM P ops K (putSt st op.dst (.row b 0 len len)) ((b, cs) :: H)
        | none => False
      | .eqN ne x => match arg st x with
        | .lst s xs o => (xs ≠ [] → runM P ops K (putSt st op.dst (.bool ne)) H) ∧ (xs = [] → ∀ b, runM P ops K (putSt st op.dst (.bool b)) H)
        | _ => False
      | .appR sz bytes zero x y => appB sz bytes zero (arg st x) (arg st y) (fun v H' => runM P ops K (putSt st op.dst v) H') H
      | .cpy sz x y => cpyB sz (arg st x) (arg st y) (fun v H' => runM P ops K (putSt st op.dst v) H') H
      | .clr sz zero x => clrB sz zero (arg st x) (fun v H' => runM P ops K (putSt st op.dst v) H') H
      | .cap x => capB (arg st x) (fun v H' => runM P ops K (putSt st op.dst v) H') H
      | .callF f args tk => callK P f H (callArgs st args tk) ops K (callTake st args tk) op.dst
      | .callV fx args => match arg st fx with
        | .fn (.func f) first cap => callK P f H (lendL first ++ args.map (arg st) ++ lendL cap) ops K st op.dst
        | _ => False
      | k => match pev st H k with
        | some r => runM P ops K (putSt (ptake st k) op.dst r) H
        | none => False
/-- The same, one step. -/
def runB (P : Program) (op : POp) (ops : List POp) (K : List PV → Heap → Prop) (st : List PV) (H : Heap) : Prop :=
  match goes op st with
  | none => False
  | some false => runM P ops K (putSt st op.dst (.tup [])) H
  | some true => match op.k with
    | .al cs => ∀ b, hget H b = none → runM P ops K (putSt st op.dst (.ptr (some (b, 0)))) ((b, cs) :: H)
    | .bx sz x => (cellsOf (argT st x)).all PV.isCell = true ∧ ∀ b, hget H b = none → runM P ops K (putSt (takeAt st x) op.dst (.ptr (some (b, 0)))) ((b, cellsOf (argT st x)) :: H)
    | .sto sz x v => match arg st x with
      | .ptr (some (b, off)) => match hget H b with
        | some cs => (cellsOf (argT st v)).length = sz ∧ off + sz ≤ cs.length ∧ (cellsOf (argT st v)).all PV.isCell = true ∧
            runM P ops K (putSt (takeAt st v) op.dst .unit) (hset H b (cs.take off ++ cellsOf (argT st v) ++ cs.drop (off + sz)))
        | none => False
      | _ => False
    | .ld sz ag true x => match arg st x with
      | .ptr (some (b, off)) => match hget H b with
        | some cs => match partP sz ag cs off with
          | some r => runM P ops K (putSt st op.dst r) (hset H b (cs.take off ++ lendL ((cs.drop off).take sz) ++ cs.drop (off + sz)))
          | none => False
        | none => False
      | _ => False
    | .mk sz bytes ag zero l c true => match arg st l, arg st c with
      | .int _ ln, .int _ cn => 0 ≤ ln ∧ ln ≤ cn ∧ cn * bytes ≤ 281474976710656 ∧ ∀ b, hget H b = none → runM P ops K (putSt st op.dst (.row b 0 ln.toNat cn.toNat)) ((b, repCells cn.toNat zero) :: H)
      | _, _ => False
    | .bsl sz len ag zero ps true => match fillP zero (elemParts sz st ps) with
      | some cs => ∀ b, hget H b = none → runM P ops K (putSt st op.dst (.row b 0 len len)) ((b, cs) :: H)
      | none => False
    | .eqN ne x => match arg st x with
      | .lst s xs o => (xs ≠ [] → runM P ops K (putSt st op.dst (.bool ne)) H) ∧ (xs = [] → ∀ b, runM P ops K (putSt st op.dst (.bool b)) H)
      | _ => False
    | .appR sz bytes zero x y => appB sz bytes zero (arg st x) (arg st y) (fun v H' => runM P ops K (putSt st op.dst v) H') H
    | .cpy sz x y => cpyB sz (arg st x) (arg st y) (fun v H' => runM P ops K (putSt st op.dst v) H') H
    | .clr sz zero x => clrB sz zero (arg st x) (fun v H' => runM P ops K (putSt st op.dst v) H') H
    | .cap x => capB (arg st x) (fun v H' => runM P ops K (putSt st op.dst v) H') H
    | .callF f args tk => callK P f H (callArgs st args tk) ops K (callTake st args tk) op.dst
    | .callV fx args => match arg st fx with
      | .fn (.func f) first cap => callK P f H (lendL first ++ args.map (arg st) ++ lendL cap) ops K st op.dst
      | _ => False
    | k => match pev st H k with
      | some r => runM P ops K (putSt (ptake st k) op.dst r) H
      | none => False
theorem runM_nil {P : Program} {K : List PV → Heap → Prop} {st : List PV} {H : Heap} : runM P [] K st H = K st H := by rw [runM]
theorem runM_cons {P : Program} {op : POp} {ops : List POp} {K : List PV → Heap → Prop} {st : List PV} {H : Heap} : runM P (op :: ops) K st H = runB P op ops K st H := by
  rw [runM]
  rfl
section
variable {P : Program} {Q : PPost} {st : List PV} {H : Heap}
theorem runM_run {K : List PV → Heap → Prop} : ∀ {ops : List POp} {st : List PV} {H : Heap}, runM P ops K st H → runOps P ops K st H
  | [], st, H, h => h
  | op :: ops, st, H, h => by
    have step : (match op.k with
      | .al cs => ∀ b, hget H b = none → runM P ops K (putSt st op.dst (.ptr (some (b, 0)))) ((b, cs) :: H)
      | .bx sz x => (cellsOf (argT st x)).all PV.isCell = true ∧ ∀ b, hget H b = none → runM P ops K (putSt (takeAt st x) op.dst (.ptr (some (b, 0)))) ((b, cellsOf (argT st x)) :: H)
      | .sto sz x v => match arg st x with
        | .ptr (some (b, off)) => match hget H b with
          | some cs => (cellsOf (argT st v)).length = sz ∧ off + sz ≤ cs.length ∧ (cellsOf (argT st v)).all PV.isCell = true ∧
              runM P ops K (putSt (takeAt st v) op.dst .unit) (hset H b (cs.take off ++ cellsOf (argT st v) ++ cs.drop (off + sz)))
          | none => False
        | _ => False
      | .ld sz ag true x => match arg st x with
        | .ptr (some (b, off)) => match hget H b with
          | some cs => match partP sz ag cs off with
            | some r => runM P ops K (putSt st op.dst r) (hset H b (cs.take off ++ lendL ((cs.drop off).take sz) ++ cs.drop (off + sz)))
            | none => False
          | none => False
        | _ => False
      | .mk sz bytes ag zero l c true => match arg st l, arg st c with
        | .int _ ln, .int _ cn => 0 ≤ ln ∧ ln ≤ cn ∧ cn * bytes ≤ 281474976710656 ∧ ∀ b, hget H b = none → runM P ops K (putSt st op.dst (.row b 0 ln.toNat cn.toNat)) ((b, repCells cn.toNat zero) :: H)
        | _, _ => False
      | .bsl sz len ag zero ps true => match fillP zero (elemParts sz st ps) with
        | some cs => ∀ b, hget H b = none → runM P ops K (putSt st op.dst (.row b 0 len len)) ((b, cs) :: H)
        | none => False
      | .eqN ne x => match arg st x with
        | .lst s xs o => (xs ≠ [] → runM P ops K (putSt st op.dst (.bool ne)) H) ∧ (xs = [] → ∀ b, runM P ops K (putSt st op.dst (.bool b)) H)
        | _ => False
      | .appR sz bytes zero x y => appB sz bytes zero (arg st x) (arg st y) (fun v H' => runM P ops K (putSt st op.dst v) H') H
      | .cpy sz x y => cpyB sz (arg st x) (arg st y) (fun v H' => runM P ops K (putSt st op.dst v) H') H
      | .clr sz zero x => clrB sz zero (arg st x) (fun v H' => runM P ops K (putSt st op.dst v) H') H
      | .cap x => capB (arg st x) (fun v H' => runM P ops K (putSt st op.dst v) H') H
      | .callF f args tk => callK P f H (callArgs st args tk) ops K (callTake st args tk) op.dst
      | .callV fx args => match arg st fx with
        | .fn (.func f) first cap => callK P f H (lendL first ++ args.map (arg st) ++ lendL cap) ops K st op.dst
        | _ => False
      | k => match pev st H k with
        | some r => runM P ops K (putSt (ptake st k) op.dst r) H
        | none => False) → stepOp P op (runOps P ops K) st H := by
      obtain ⟨d, gd, k⟩ := op
      intro h
      have pure_ : (match pev st H k with | some r => runM P ops K (putSt (ptake st k) d r) H | none => False) → ∃ r, pev st H k = some r ∧ runOps P ops K (putSt (ptake st k) d r) H := fun h => by
        split at h
        · rename_i r e
          exact ⟨r, e, runM_run h⟩
        · exact h.elim
      cases k with
      | al z => exact fun b hb => runM_run (h b hb)
      | bx s x => exact ⟨h.1, fun b hb => runM_run (h.2 b hb)⟩
      | sto s x v =>
        simp only at h
        split at h
        · rename_i b off e
          split at h
          · rename_i cs e2
            exact ⟨b, off, cs, e, e2, h.1, h.2.1, h.2.2.1, runM_run h.2.2.2⟩
          · exact h.elim
        · exact h.elim
      | ld s ag tk x =>
        cases tk with
        | false => exact pure_ h
        | true =>
          simp only at h
          split at h
          · rename_i b off e
            split at h
            · rename_i cs e2
              split at h
              · rename_i r e3
                exact ⟨b, off, cs, r, e, e2, e3, runM_run h⟩
              · exact h.elim
            · exact h.elim
          · exact h.elim
      | mk s b ag z l c mu =>
        cases mu with
        | false => exact pure_ h
        | true =>
          simp only at h
          split at h
          · rename_i k1 ln k2 cn e1 e2
            exact ⟨k1, ln, k2, cn, e1, e2, h.1, h.2.1, h.2.2.1, fun b hb => runM_run (h.2.2.2 b hb)⟩
          · exact h.elim
      | bsl s n ag z ps mu =>
        cases mu with
        | false => exact pure_ h
        | true =>
          simp only at h
          split at h
          · rename_i cs e
            exact ⟨cs, e, fun b hb => runM_run (h b hb)⟩
          · exact h.elim
      | eqN ne x =>
        simp only at h
        split at h
        · rename_i s xs o e
          exact ⟨s, xs, o, e, fun hx => runM_run (h.1 hx), fun hx b => runM_run (h.2 hx b)⟩
        · exact h.elim
      | appR s b z x y => exact appB_mono h fun v H' h => runM_run h
      | cpy s x y => exact cpyB_mono h fun v H' h => runM_run h
      | clr s z x => exact clrB_mono h fun v H' h => runM_run h
      | cap x => exact capB_mono h fun v H' h => runM_run h
      | callF f xs tk => exact h
      | callV fx xs =>
        simp only at h
        split at h
        · rename_i f first cap e
          obtain ⟨R, h1, h2⟩ := h
          exact ⟨f, first, cap, R, e, h1, h2⟩
        · exact h.elim
      | _ => exact pure_ h
    unfold runM at h
    unfold runOps
    unfold goes at h
    cases hg : op.gd with
    | none =>
      rw [hg] at h
      exact step h
    | some p =>
      obtain ⟨t, want⟩ := p
      rw [hg] at h
      simp only at h ⊢
      cases e : gval (st.getD t .unit) with
      | some b =>
        rw [e] at h
        refine ⟨b, rfl, ?_⟩
        simp only at h
        by_cases hb : b = some want
        · rw [if_pos hb]
          have : (b == some want) = true := by simp [hb]
          rw [this] at h
          exact step h
        · rw [if_neg hb]
          have : (b == some want) = false := by simp [hb]
          rw [this] at h
          exact runM_run h
      | none => rw [e] at h; exact h.elim
theorem pwp_regionM {ops : List POp} (h : ∀ K : List PV → Heap → Prop, (∀ st' H', Q .normal st' H' → K st' H') → runM P ops K st H) : pwp P (.region ops) Q st H := pwp_region (runM_run (h _ fun _ _ h => h))
/-- A call whose contract is known. -/
theorem useP {f : Nat} {args : List PV} {r : PV} {ops : List POp} {K : List PV → Heap → Prop} {d : Option Nat} (h : PSpec P f args r) (hK : runM P ops K (putSt st d r) H) : callK P f H args ops K st d :=
  ⟨_, h H, fun r' H' ⟨e1, e2⟩ => by subst e1 e2; exact runM_run hK⟩
theorem useH {f : Nat} {args : List PV} {R : PV → Heap → Prop} {ops : List POp} {K : List PV → Heap → Prop} {d : Option Nat} (h : SpecH P f H args R) (hK : ∀ r H', R r H' → runM P ops K (putSt st d r) H') : callK P f H args ops K st d := ⟨R, h, fun r H' h => runM_run (hK r H' h)⟩
/-! ## regions whose order is drawn, that store nothing -/
def callD (P : Program) (f : Nat) (H : Heap) (args : List PV) (ops : List POp) (K : List PV → Heap → Prop) (st : List PV) (d : Option Nat) : Prop :=
  ∃ r, PSpec P f args r ∧ ∀ late i rd, planOps P late ops i rd [] K (putSt st d r) H
def planM (P : Program) : List POp → (List PV → Heap → Prop) → List PV → Heap → Prop
  | [], K, st, H => K st H
  | op :: ops, K, st, H =>
    match goes op st with
    | none => False
    | some false => planM P ops K (putSt st op.dst (.tup [])) H
    | some true => match op.k with
      | .cpy sz x y => cpyB sz (arg st x) (arg st y) (fun v H' => planM P ops K (putSt st op.dst v) H') H
      | .callF f args tk => callD P f H (callArgs st args tk) ops K (callTake st args tk) op.dst
      | .callV fx args => match arg st fx with
        | .fn (.func f) first cap => callD P f H (lendL first ++ args.map (arg st) ++ lendL cap) ops K st op.dst
        | _ => False
      | k => match pev st H k with
        | some r => planM P ops K (putSt (ptake st k) op.dst r) H
        | none => False
def planB (P : Program) (op : POp) (ops : List POp) (K : List PV → Heap → Prop) (st : List PV) (H : Heap) : Prop :=
  match goes op st with
  | none => False
  | some false => planM P ops K (putSt st op.dst (.tup [])) H
  | some true => match op.k with
    | .cpy sz x y => cpyB sz (arg st x) (arg st y) (fun v H' => planM P ops K (putSt st op.dst v) H') H
    | .callF f args tk => callD P f H (callArgs st args tk) ops K (callTake st args tk) op.dst
    | .callV fx args => match arg st fx with
      | .fn (.func f) first cap => callD P f H (lendL first ++ args.map (arg st) ++ lendL cap) ops K st op.dst
      | _ => False
    | k => match pev st H k with
      | some r => planM P ops K (putSt (ptake st k) op.dst r) H
      | none => False
theorem planM_nil {K : List PV → Heap → Prop} {st : List PV} {H : Heap} : planM P [] K st H = K st H := by rw [planM]
theorem planM_cons {op : POp} {ops : List POp} {K : List PV → Heap → Prop} {st : List PV} {H : Heap} : planM P (op :: ops) K st H = planB P op ops K st H := by
  rw [planM]
  rfl
theorem planM_plan {K : List PV → Heap → Prop} : ∀ {ops : List POp} {late : List (Nat × Nat)} {i : Nat} {rd : Uses} {st : List PV} {H : Heap}, planM P ops K st H → planOps P late ops i rd [] K st H
  | [], late, i, rd, st, H, h => h
  | op :: ops, late, i, rd, st, H, h => by
    have step : (match op.k with
      | .cpy sz x y => cpyB sz (arg st x) (arg st y) (fun v H' => planM P ops K (putSt st op.dst v) H') H
      | .callF f args tk => callD P f H (callArgs st args tk) ops K (callTake st args tk) op.dst
      | .callV fx args => match arg st fx with
        | .fn (.func f) first cap => callD P f H (lendL first ++ args.map (arg st) ++ lendL cap) ops K st op.dst
        | _ => False
      | k => match pev st H k with
        | some r => planM P ops K (putSt (ptake st k) op.dst r) H
        | none => False) → planOp P late op i rd [] (fun rd' wr' st' H' => planOps P late ops (i + 1) rd' wr' K st' H') st H := by
      obtain ⟨d, gd, k⟩ := op
      intro h
      have pure_ : (match pev st H k with | some r => planM P ops K (putSt (ptake st k) d r) H | none => False) → ∃ r, pev st H k = some r ∧ (∀ c, ldCells st k = some c → ∀ e ∈ ([] : Uses), (i, e.1) ∈ late → apartC c e.2) ∧
          planOps P late ops (i + 1) (match ldCells st k with | some c => (i, c) :: rd | none => rd) [] K (putSt (ptake st k) d r) H := fun h => by
        split at h
        · rename_i r e
          exact ⟨r, e, fun c _ e he => (by cases he), planM_plan h⟩
        · exact h.elim
      cases k with
      | callF f xs tk =>
        obtain ⟨r, h1, h2⟩ := h
        exact ⟨r, h1, h2 _ _ _⟩
      | callV fx xs =>
        simp only at h
        split at h
        · rename_i f first cap e
          obtain ⟨r, h1, h2⟩ := h
          exact ⟨f, first, cap, r, e, h1, h2 _ _ _⟩
        · exact h.elim
      | appR s b z x y => exact h.elim
      | clr s z x => exact h.elim
      | cap x => exact h.elim
      | cpy s x y => exact cpyB_mono h fun v H' h => planM_plan h
      | al z => exact h.elim
      | bx s x => exact h.elim
      | sto s x v => exact h.elim
      | ld s ag tk x =>
        cases tk with
        | false => exact pure_ h
        | true => exact h.elim
      | mk s b ag z l c mu =>
        cases mu with
        | false => exact pure_ h
        | true => exact h.elim
      | bsl s n ag z ps mu =>
        cases mu with
        | false => exact pure_ h
        | true => exact h.elim
      | _ => exact pure_ h
    unfold planM at h
    unfold planOps
    unfold goes at h
    cases hg : op.gd with
    | none =>
      rw [hg] at h
      exact step h
    | some p =>
      obtain ⟨t, want⟩ := p
      rw [hg] at h
      simp only at h ⊢
      cases e : gval (st.getD t .unit) with
      | some b =>
        rw [e] at h
        refine ⟨b, rfl, ?_⟩
        simp only at h
        by_cases hb : b = some want
        · rw [if_pos hb]
          have : (b == some want) = true := by simp [hb]
          rw [this] at h
          exact step h
        · rw [if_neg hb]
          have : (b == some want) = false := by simp [hb]
          rw [this] at h
          exact planM_plan h
      | none => rw [e] at h; exact h.elim
theorem useD {f : Nat} {args : List PV} {r : PV} {ops : List POp} {K : List PV → Heap → Prop} {d : Option Nat} (h : PSpec P f args r) (hK : planM P ops K (putSt st d r) H) : callD P f H args ops K st d := ⟨r, h, fun _ _ _ => planM_plan hK⟩
theorem pwp_drawM (hmix : P.follows .mixedOrders = true) {ops : List POp} {late : List (Nat × Nat)} (h : ∀ K : List PV → Heap → Prop, (∀ st' H', Q .normal st' H' → K st' H') → planM P ops K st H) : pwp P (.draw ops late) Q st H := pwp_draw hmix (planM_plan (h _ fun _ _ h => h))
end
end Go.Proofs.YtdphjapaoaokmaaDoor.E
/- A logic of plain values, part 31: a block that is written no more is a list; what a contract may be turned into. -/
namespace Go.Proofs.YtdphjapaoaokmaaDoor.E
open Go Go.RowKit
set_option linter.unusedVariables false
set_option linter.unusedSimpArgs false
variable {dq : List Deferred}
mutual
/-- The rows of a block as lists. -/
def frz (b : Nat) (f : Nat → Nat → Option PV) (q : Nat → Option PV) : PV → PV
  | .row c off len cap => if c = b ∧ off = 0 then (f len cap).getD (.row c off len cap) else .row c off len cap
  | .ptr (some (c, off)) => if c = b then (q off).getD (.ptr (some (c, off))) else .ptr (some (c, off))
  | .agg cs => .agg (frzL b f q cs)
  | .tup cs => .tup (frzL b f q cs)
  | v => v
def frzL (b : Nat) (f : Nat → Nat → Option PV) (q : Nat → Option PV) : List PV → List PV
  | [] => []
  | x :: xs => frz b f q x :: frzL b f q xs
end
def rowL (sz : Nat) (ag : Bool) (cs : List PV) (len cap : Nat) : Option PV :=
  if len ≤ cap ∧ cap ≤ maxLen ∧ len * sz ≤ cs.length ∧ (ag = false → sz = 1) then some (.lst sz (elemsOf sz ag len (lendL (cs.take (len * sz)))) false) else none
/-- The block is let go; L: the other blocks in which its rows are turned, too. -/
def frzH (b : Nat) (f : Nat → Nat → Option PV) (q : Nat → Option PV) (L : List Nat) : Heap → Heap
  | [] => []
  | (c, cs) :: H => if c = b then frzH b f q L H else (c, if L.contains c then frzL b f q cs else cs) :: frzH b f q L H
theorem frzL_eq_map (b : Nat) (f : Nat → Nat → Option PV) (q : Nat → Option PV) : ∀ xs, frzL b f q xs = xs.map (frz b f q)
  | [] => rfl
  | x :: xs => by simp [frzL, frzL_eq_map b f q xs]
theorem frz_isCell {b : Nat} {f : Nat → Nat → Option PV} {q : Nat → Option PV} (hf : ∀ l c p, f l c = some p → p.isCell = true) (hq : ∀ o p, q o = some p → p.isCell = true) (x : PV) : (frz b f q x).isCell = x.isCell := by
  cases x <;> try rfl
  · rename_i a
    cases a with
    | none => rfl
    | some a =>
      obtain ⟨c, off⟩ := a
      simp only [frz]
      split
      · cases h : q off with
        | none => rfl
        | some p => exact hq _ _ h
      · rfl
  · rename_i c off len cap
    simp only [frz]
    split
    · cases h : f len cap with
      | none => rfl
      | some p => exact hf _ _ _ h
    · rfl
theorem frzL_all {b : Nat} {f : Nat → Nat → Option PV} {q : Nat → Option PV} (hf : ∀ l c p, f l c = some p → p.isCell = true) (hq : ∀ o p, q o = some p → p.isCell = true) (xs : List PV) : (frzL b f q xs).all PV.isCell = xs.all PV.isCell := by
  rw [frzL_eq_map, List.all_map]
  congr 1
  funext x
  exact frz_isCell hf hq x
mutual
theorem frz_VR {o : Bool} {w w' : World} {g g' : Ghost} {out : List Nat} {b : Nat} {f : Nat → Nat → Option PV} {q : Nat → Option PV} (hE : Evol out w g w' g')
    (hf : ∀ l c p, f l c = some p → VR true w' g' p (.slice (some ⟨b, 0, none⟩) l c) ∧ (∀ A, toks p (.slice A l c) = []) ∧ p.isCell = true)
    (hq : ∀ o p, q o = some p → VR true w' g' p (.pointer (some ⟨b, o, none⟩)) ∧ (∀ A, toks p (.pointer A) = []) ∧ p.isCell = true) :
    ∀ (x : PV) (v : Value), (o = true → ∀ t ∈ toks x v, t ∈ out) → VR o w g x v → VR o w' g' (frz b f q x) v ∧ toks (frz b f q x) v = toks x v
  | .row c off len cap, v, ho, h => by
    simp only [frz]
    split
    · rename_i hc
      obtain ⟨rfl, rfl⟩ := hc
      cases hp : f len cap with
      | none => exact ⟨h, rfl⟩
      | some p =>
        simp only [VR] at h
        subst h
        obtain ⟨h1, h2, _⟩ := hf _ _ _ hp
        refine ⟨?_, by rw [Option.getD_some, h2]; simp [toks]⟩
        cases o with
        | true => exact h1
        | false => exact VR_weak _ _ h1
    · exact ⟨h, rfl⟩
  | .agg cs, v, ho, h => by
    obtain ⟨h0, vs, rfl, h1⟩ := h
    obtain ⟨i1, i2⟩ := frzL_VR hE hf hq cs vs.toList (fun q t ht => ho q t (by simpa only [toks] using ht)) h1
    refine ⟨⟨?_, vs, rfl, i1⟩, by simp only [frz, toks]; exact i2⟩
    rw [frzL_all]
    · exact h0
    · exact fun l c p hp => (hf _ _ _ hp).2.2
    · exact fun o p hp => (hq _ _ hp).2.2
  | .tup cs, v, ho, h => by
    obtain ⟨vs, rfl, h1⟩ := h
    obtain ⟨i1, i2⟩ := frzL_VR hE hf hq cs vs.toList (fun q t ht => ho q t (by simpa only [toks] using ht)) h1
    exact ⟨⟨vs, rfl, i1⟩, by simp only [frz, toks]; exact i2⟩
  | .int k n, v, ho, h => ⟨VR_mono hE o _ _ ho h, rfl⟩
  | .bool k, v, ho, h => ⟨VR_mono hE o _ _ ho h, rfl⟩
  | .str k, v, ho, h => ⟨VR_mono hE o _ _ ho h, rfl⟩
  | .unit, v, ho, h => ⟨VR_mono hE o _ _ ho h, rfl⟩
  | .lst .., v, ho, h => ⟨VR_mono hE o _ _ ho h, rfl⟩
  | .ptr none, v, ho, h => ⟨VR_mono hE o _ _ ho h, rfl⟩
  | .ptr (some (c, off)), v, ho, h => by
    simp only [frz]
    split
    · rename_i hc
      subst hc
      cases hp : q off with
      | none => exact ⟨h, rfl⟩
      | some p =>
        simp only [VR, Option.map_some] at h
        subst h
        obtain ⟨h1, h2, _⟩ := hq _ _ hp
        refine ⟨?_, by rw [Option.getD_some, h2]; simp [toks]⟩
        cases o with
        | true => exact h1
        | false => exact VR_weak _ _ h1
    · exact ⟨h, rfl⟩
  | .ip .., v, ho, h => ⟨VR_mono hE o _ _ ho h, rfl⟩
  | .map .., v, ho, h => ⟨VR_mono hE o _ _ ho h, rfl⟩
  | .fn .., v, ho, h => ⟨VR_mono hE o _ _ ho h, rfl⟩
  | .nilf, v, ho, h => ⟨VR_mono hE o _ _ ho h, rfl⟩
  | .nlit .., v, ho, h => ⟨VR_mono hE o _ _ ho h, rfl⟩
  | .xl .., v, ho, h => ⟨VR_mono hE o _ _ ho h, rfl⟩
  | .sh .., v, ho, h => ⟨VR_mono hE o _ _ ho h, rfl⟩
theorem frzL_VR {o : Bool} {w w' : World} {g g' : Ghost} {out : List Nat} {b : Nat} {f : Nat → Nat → Option PV} {q : Nat → Option PV} (hE : Evol out w g w' g')
    (hf : ∀ l c p, f l c = some p → VR true w' g' p (.slice (some ⟨b, 0, none⟩) l c) ∧ (∀ A, toks p (.slice A l c) = []) ∧ p.isCell = true)
    (hq : ∀ o p, q o = some p → VR true w' g' p (.pointer (some ⟨b, o, none⟩)) ∧ (∀ A, toks p (.pointer A) = []) ∧ p.isCell = true) :
    ∀ (xs : List PV) (vs : List Value), (o = true → ∀ t ∈ toksL xs vs, t ∈ out) → VRl o w g xs vs → VRl o w' g' (frzL b f q xs) vs ∧ toksL (frzL b f q xs) vs = toksL xs vs
  | [], vs, ho, h => ⟨h, rfl⟩
  | x :: xs, vs, ho, h => by
    obtain ⟨v, vs', rfl, h1, h2⟩ := h
    obtain ⟨i1, i2⟩ := frz_VR hE hf hq x v (fun q t ht => ho q t (by simp only [toksL, List.mem_append]; exact .inl ht)) h1
    obtain ⟨j1, j2⟩ := frzL_VR hE hf hq xs vs' (fun q t ht => ho q t (by simp only [toksL, List.mem_append]; exact .inr ht)) h2
    exact ⟨⟨v, vs', rfl, i1, j1⟩, by simp only [frzL, toksL, i2, j2]⟩
end
theorem rowL_VR {w : World} {g : Ghost} {b sz : Nat} {ag : Bool} {cs : List PV} {c : Array Value} {e : TypeId} {fz : Nat × Nat} (hc : w.heap[b]? = some (.cells c e fz)) (hg : g b = .imm) (hv : VRl false w g cs c.toList) (ha : cs.all PV.isCell = true)
    (l cap : Nat) (p : PV) (h : rowL sz ag cs l cap = some p) : VR true w g p (.slice (some ⟨b, 0, none⟩) l cap) ∧ (∀ A, toks p (.slice A l cap) = []) ∧ p.isCell = true := by
  unfold rowL at h
  obtain ⟨⟨h1, h2, h3, h4⟩, h⟩ := ite_spec h
  cases h
  have hv1 := VRl_lend (o := false) _ _ (VRl_take (l * sz) hv).1
  have hl : (lendL (cs.take (l * sz))).length = l * sz := by rw [lendL_eq_map, List.length_map, List.length_take]; omega
  have hal : (lendL (cs.take (l * sz))).all PV.isCell = true := by
    rw [all_lendL]
    have := all_drop_take ha 0 (l * sz)
    rwa [List.drop_zero] at this
  obtain ⟨k1, k2⟩ := VRe_elems hal hl h4 hv1
  have hcl := VRl_length hv
  refine ⟨⟨some ⟨b, 0, none⟩, cap, by rw [k2], by rw [k2]; exact h1, h2, ?_, fun _ h => by cases h⟩, fun A => by simp [toks], rfl⟩
  right
  refine ⟨b, 0, c.toList.take (l * sz), rfl, readable_mk c e fz hc (by rw [List.drop_zero, k2]) (by rw [k2, List.length_take]; omega) (.inl hg), k1⟩
def ptrL (cs : List PV) (off : Nat) : Option PV := some (.ip cs.length [match lendL cs with | [c] => c | l => .agg l] 0 off)
theorem ptrL_VR {w : World} {g : Ghost} {b : Nat} {cs : List PV} {c : Array Value} {e : TypeId} {fz : Nat × Nat} (hc : w.heap[b]? = some (.cells c e fz)) (hg : g b = .imm) (hv : VRl false w g cs c.toList) (ha : cs.all PV.isCell = true)
    (off : Nat) (p : PV) (h : ptrL cs off = some p) : VR true w g p (.pointer (some ⟨b, off, none⟩)) ∧ (∀ A, toks p (.pointer A) = []) ∧ p.isCell = true := by
  cases h
  have hcl := VRl_length hv
  have hv1 := VRl_lend (o := false) _ _ hv
  have hal : (lendL cs).all PV.isCell = true := by rw [all_lendL]; exact ha
  have hll : (lendL cs).length = cs.length := by rw [lendL_eq_map, List.length_map]
  refine ⟨⟨b, 0, c.toList, by simp, by simp, readable_mk c e fz hc ?_ (by simpa using hcl) (.inl hg), VRe_cons.2 ⟨c.toList, [], by simp, ⟨hcl, ?_⟩, rfl⟩⟩, fun A => by simp [toks], rfl⟩
  · rw [List.drop_zero, List.take_of_length_le (by rw [hcl]; simp)]
  · split
    · rename_i c1 e1
      rw [e1] at hv1 hal
      obtain ⟨v, vs, e2, e3, e4⟩ := hv1
      cases e4
      exact .inr ⟨by simpa using hal, v, e2, e3⟩
    · exact .inl ⟨_, rfl, hal, hv1⟩
theorem hget_frzH (b : Nat) (f : Nat → Nat → Option PV) (q : Nat → Option PV) (L : List Nat) {x : Nat} : ∀ {H : Heap}, hget H x = none → hget (frzH b f q L H) x = none
  | [], h => rfl
  | (c, cs) :: H, h => by
    simp only [hget] at h
    split at h
    · cases h
    · rename_i hne
      unfold frzH
      split
      · exact hget_frzH b f q L h
      · simp only [hget, if_neg hne]
        exact hget_frzH b f q L h
theorem hget_mem : ∀ {H : Heap} {b : Nat} {cs : List PV}, hget H b = some cs → (b, cs) ∈ H
  | (c, ds) :: H, b, cs, h => by
    simp only [hget] at h
    split at h
    · rename_i e
      subst e
      cases h
      exact List.mem_cons_self ..
    · exact List.mem_cons_of_mem _ (hget_mem h)
theorem mem_toksH {w : World} {t : Nat} : ∀ {H : Heap} {b : Nat} {cs : List PV}, (b, cs) ∈ H → t ∈ toksB w b cs → t ∈ toksH w H
  | (c, ds) :: H, b, cs, hm, ht => by
    simp only [toksH, List.mem_append]
    rcases List.mem_cons.1 hm with h | h
    · cases h; exact .inl ht
    · exact .inr (mem_toksH h ht)
theorem frzH_rel {w : World} {g g' : Ghost} {out : List Nat} {b : Nat} {f : Nat → Nat → Option PV} {q : Nat → Option PV} {L : List Nat} (hE : Evol out w g w g') (hm : ∀ c, c ≠ b → g c = .mut → g' c = .mut)
    (hf : ∀ l c p, f l c = some p → VR true w g' p (.slice (some ⟨b, 0, none⟩) l c) ∧ (∀ A, toks p (.slice A l c) = []) ∧ p.isCell = true)
    (hq : ∀ o p, q o = some p → VR true w g' p (.pointer (some ⟨b, o, none⟩)) ∧ (∀ A, toks p (.pointer A) = []) ∧ p.isCell = true) :
    ∀ {H : Heap}, (∀ t ∈ toksH w H, t ∈ out) → HRel w g H → HRel w g' (frzH b f q L H) ∧ ∀ t, (toksH w (frzH b f q L H)).count t ≤ (toksH w H).count t
  | [], ho, h => ⟨GL.evol hE h, fun t => Nat.le_refl _⟩
  | (c, cs) :: H, ho, h => by
    obtain ⟨h0, h1, h2, ⟨cc, e, hc, hv⟩, hH⟩ := h
    obtain ⟨i1, i2⟩ := frzH_rel (L := L) hE hm hf hq (fun t ht => ho t (by simp only [toksH, List.mem_append]; exact .inr ht)) hH
    unfold frzH
    split
    · exact ⟨i1, fun t => by simp only [toksH, List.count_append]; have := i2 t; omega⟩
    · rename_i hne
      have hov : true = true → ∀ t ∈ toksL cs cc.toList, t ∈ out := fun _ t ht => ho t (by simp only [toksH, List.mem_append, toksB, hc]; exact .inl ht)
      obtain ⟨j1, j2⟩ := frzL_VR hE hf hq cs cc.toList hov hv
      split
      · refine ⟨⟨hget_frzH b f q L h0, hm c hne h1, by rw [frzL_all (fun l c p hp => (hf l c p hp).2.2) (fun o p hp => (hq o p hp).2.2)]; exact h2, ⟨cc, e, hc, j1⟩, i1⟩, fun t => ?_⟩
        have e1 : toksB w c (frzL b f q cs) = toksB w c cs := by simp only [toksB, hc, j2]
        simp only [toksH, List.count_append, e1]
        have := i2 t
        omega
      · refine ⟨⟨hget_frzH b f q L h0, hm c hne h1, h2, ⟨cc, e, hc, VRl_mono hE true _ _ hov hv⟩, i1⟩, fun t => ?_⟩
        simp only [toksH, List.count_append]
        have := i2 t
        omega
/-- A block that nobody will write again. -/
theorem freeze_rel {out : List Nat} {st : List PV} {H : Heap} {a : Act} {w : World} {g : Ghost} (h : Rel dq out st H a w g) {b : Nat} {cs : List PV} (hb : hget H b = some cs) (sz : Nat) (ag : Bool) (L : List Nat) :
    Rel dq out (frzL b (rowL sz ag cs) (ptrL cs) st) (frzH b (rowL sz ag cs) (ptrL cs) L H) a w (upd g b .imm) ∧ Evol out w g w (upd g b .imm) := by
  obtain ⟨hmut, hall, c, e, hc, hcv⟩ := h.hp.mut_of_get hb
  have htl : ∀ t, t ∈ out ++ toksL st a.tmps.toList ++ toksH w H → ∃ f, g t = .tail f := fun t ht => by
    simp only [List.mem_append] at ht
    rcases ht with (ht | ht) | ht
    · exact h.wr.outT t ht
    · exact toksL_tail st _ h.tm t ht
    · exact toksH_tail h.hp t ht
  have hne : ∀ t f, g t = .tail f → t ≠ b := fun t f hf e => by subst e; rw [hmut] at hf; cases hf
  have hE : Evol (out ++ toksL st a.tmps.toList ++ toksH w H) w g w (upd g b .imm) := by
    refine ⟨rfl, rfl, rfl, Nat.le_refl _, fun k hk hi => ⟨rfl, ?_⟩, fun k f c2 e2 fz _ hf h2 => ⟨c2, fz, h2, rfl, .inr ⟨f, Nat.le_refl _, ?_⟩⟩, fun k hk => ⟨rfl, ?_⟩⟩
    · rw [upd_ne _ _ (fun e => by subst e; rw [hmut] at hi; cases hi)]; exact hi
    · rw [upd_ne _ _ (hne k f hf)]; exact hf
    · obtain ⟨f, hf⟩ := htl k hk
      rw [upd_ne _ _ (hne k f hf)]
  have hfal := VRl_weak _ _ (VRl_mono hE true cs _ (fun _ t ht => by
    simp only [List.mem_append]
    exact .inr (mem_toksH (hget_mem hb) (by simp only [toksB, hc]; exact ht))) hcv)
  have hf := rowL_VR (sz := sz) (ag := ag) hc (upd_same g b .imm) hfal hall
  have hq := ptrL_VR hc (upd_same g b .imm) hfal hall
  obtain ⟨i1, i2⟩ := frzH_rel (L := L) hE (fun k hk hm => by rw [upd_ne _ _ hk]; exact hm) hf hq (H := H) (fun t ht => by simp [ht]) h.hp
  obtain ⟨j1, j2⟩ := frzL_VR hE hf hq st a.tmps.toList (fun _ t ht => by simp [ht]) h.tm
  refine ⟨⟨⟨fun k hk => ?_, fun k f hk => ?_, fun k hk => ?_⟩, i1, j1, fun t => ?_, h.df⟩, hE.sub (fun t ht => by simp [ht])⟩
  · by_cases e : k = b
    · subst e; exact upd_same _ _ _
    · rw [upd_ne _ _ e]; exact h.wr.fresh k hk
  · by_cases e : k = b
    · subst e; rw [upd_same] at hk; cases hk
    · rw [upd_ne _ _ e] at hk; exact h.wr.tl k f hk
  · obtain ⟨f, hf⟩ := h.wr.outT k hk
    exact ⟨f, by rw [upd_ne _ _ (hne k f hf)]; exact hf⟩
  · rw [j2]
    have := i2 t
    have := h.un t
    omega
section
variable {P : Program} {Q : PPost} {st : List PV} {H : Heap}
/-- From here on a block is only read. -/
theorem pwp_freeze {pc : PCode} {b : Nat} {cs : List PV} (sz : Nat) (ag : Bool) (L : List Nat) (hb : hget H b = some cs) (h : pwp P pc Q (frzL b (rowL sz ag cs) (ptrL cs) st) (frzH b (rowL sz ag cs) (ptrL cs) L H)) : pwp P pc Q st H := by
  intro hh c hc rr hrr dq out a w g hR
  obtain ⟨h1, h2⟩ := freeze_rel hR hb sz ag L
  exact wpIn_mono (h hh c hc rr hrr dq out a w _ h1) fun e a' w' hp => hp.trans h2
theorem SpecH_mono {f : Nat} {args : List PV} {R R' : PV → Heap → Prop} (h : SpecH P f H args R) (hr : ∀ r H', R r H' → R' r H') : SpecH P f H args R' :=
  ⟨h.1, fun out w g vals h1 h2 h3 h4 => (h.2 out w g vals h1 h2 h3 h4).mono fun e w' ⟨v, r, H', g', a1, a2, a3⟩ => ⟨v, r, H', g', a1, hr _ _ a2, a3⟩⟩
/-- .. a contract, behind which a block is only read. -/
theorem SpecH_freeze {f : Nat} {args : List PV} {R R' : PV → Heap → Prop} (h : SpecH P f H args R)
    (hr : ∀ r H', R r H' → ∃ b cs sz ag L, hget H' b = some cs ∧ R' (frz b (rowL sz ag cs) (ptrL cs) r) (frzH b (rowL sz ag cs) (ptrL cs) L H')) : SpecH P f H args R' := by
  refine ⟨h.1, fun out w g vals h1 h2 h3 h4 => (h.2 out w g vals h1 h2 h3 h4).mono ?_⟩
  rintro e w' ⟨v, r, H', g', rfl, a2, a3, a4, a5, a6, a7⟩
  obtain ⟨b, cs, sz, ag, L, hb, hR⟩ := hr _ _ a2
  have hRel : Rel [] out [r] H' { tmps := #[v], defers := [] } w' g' := ⟨a3, a4, ⟨v, [], rfl, a5, rfl⟩, fun t => by simpa [toksL] using a6 t, rfl⟩
  obtain ⟨k1, k2⟩ := freeze_rel hRel hb sz ag L
  obtain ⟨v1, vs1, e1, e2, _⟩ := k1.tm
  cases e1
  exact ⟨v, _, _, _, rfl, hR, k1.wr, k1.hp, e2, fun t => by simpa [toksL, frzL] using k1.un t, a7.trans k2⟩
end
end Go.Proofs.YtdphjapaoaokmaaDoor.E
/- A logic of plain values, part 32: regions whose order is drawn, that store. -/
namespace Go.Proofs.YtdphjapaoaokmaaDoor.E
open Go Go.RowKit
set_option linter.unusedVariables false
set_option linter.unusedSimpArgs false
def planS (P : Program) (late : List (Nat × Nat)) : List POp → Nat → Uses → Uses → (List PV → Heap → Prop) → List PV → Heap → Prop
  | [], _, _, _, K, st, H => K st H
  | op :: ops, i, rd, wr, K, st, H =>
    match goes op st with
    | none => False
    | some false => planS P late ops (i + 1) rd wr K (putSt st op.dst (.tup [])) H
    | some true => match op.k with
      | .sto sz x v => match arg st x with
        | .ptr (some (b, off)) => match hget H b with
          | some cs => (cellsOf (argT st v)).length = sz ∧ off + sz ≤ cs.length ∧ (cellsOf (argT st v)).all PV.isCell = true ∧ (∀ e ∈ rd, (e.1, i) ∈ late → apartC e.2 (b, off, sz)) ∧
              planS P late ops (i + 1) rd ((i, b, off, sz) :: wr) K (putSt (takeAt st v) op.dst .unit) (hset H b (cs.take off ++ cellsOf (argT st v) ++ cs.drop (off + sz)))
          | none => False
        | _ => False
      | .ld sz ag true x => match arg st x with
        | .ptr (some (b, off)) => match hget H b with
          | some cs => match partP sz ag cs off with
            | some r => off + sz ≤ cs.length ∧ (∀ e ∈ rd, (e.1, i) ∈ late → apartC e.2 (b, off, sz)) ∧
                planS P late ops (i + 1) rd ((i, b, off, sz) :: wr) K (putSt st op.dst r) (hset H b (cs.take off ++ lendL ((cs.drop off).take sz) ++ cs.drop (off + sz)))
            | none => False
          | none => False
        | _ => False
      | .cpy sz x y => cpyB sz (arg st x) (arg st y) (fun v H' => planS P late ops (i + 1) rd wr K (putSt st op.dst v) H') H
      | .callF f args tk => ∃ r, PSpec P f (callArgs st args tk) r ∧ planS P late ops (i + 1) rd wr K (putSt (callTake st args tk) op.dst r) H
      | .callV fx args => match arg st fx with
        | .fn (.func f) first cap => ∃ r, PSpec P f (lendL first ++ args.map (arg st) ++ lendL cap) r ∧ planS P late ops (i + 1) rd wr K (putSt st op.dst r) H
        | _ => False
      | k => match pev st H k with
        | some r => match ldCells st k with
          | some c => (∀ e ∈ wr, (i, e.1) ∈ late → apartC c e.2) ∧ planS P late ops (i + 1) ((i, c) :: rd) wr K (putSt (ptake st k) op.dst r) H
          | none => planS P late ops (i + 1) rd wr K (putSt (ptake st k) op.dst r) H
        | none => False
def planSB (P : Program) (late : List (Nat × Nat)) (op : POp) (ops : List POp) (i : Nat) (rd wr : Uses) (K : List PV → Heap → Prop) (st : List PV) (H : Heap) : Prop :=
  match goes op st with
  | none => False
  | some false => planS P late ops (i + 1) rd wr K (putSt st op.dst (.tup [])) H
  | some true => match op.k with
    | .sto sz x v => match arg st x with
      | .ptr (some (b, off)) => match hget H b with
        | some cs => (cellsOf (argT st v)).length = sz ∧ off + sz ≤ cs.length ∧ (cellsOf (argT st v)).all PV.isCell = true ∧ (∀ e ∈ rd, (e.1, i) ∈ late → apartC e.2 (b, off, sz)) ∧
            planS P late ops (i + 1) rd ((i, b, off, sz) :: wr) K (putSt (takeAt st v) op.dst .unit) (hset H b (cs.take off ++ cellsOf (argT st v) ++ cs.drop (off + sz)))
        | none => False
      | _ => False
    | .ld sz ag true x => match arg st x with
      | .ptr (some (b, off)) => match hget H b with
        | some cs => match partP sz ag cs off with
          | some r => off + sz ≤ cs.length ∧ (∀ e ∈ rd, (e.1, i) ∈ late → apartC e.2 (b, off, sz)) ∧
              planS P late ops (i + 1) rd ((i, b, off, sz) :: wr) K (putSt st op.dst r) (hset H b (cs.take off ++ lendL ((cs.drop off).take sz) ++ cs.drop (off + sz)))
          | none => False
        | none => False
      | _ => False
    | .cpy sz x y => cpyB sz (arg st x) (arg st y) (fun v H' => planS P late ops (i + 1) rd wr K (putSt st op.dst v) H') H
    | .callF f args tk => ∃ r, PSpec P f (callArgs st args tk) r ∧ planS P late ops (i + 1) rd wr K (putSt (callTake st args tk) op.dst r) H
    | .callV fx args => match arg st fx with
      | .fn (.func f) first cap => ∃ r, PSpec P f (lendL first ++ args.map (arg st) ++ lendL cap) r ∧ planS P late ops (i + 1) rd wr K (putSt st op.dst r) H
      | _ => False
    | k => match pev st H k with
      | some r => match ldCells st k with
        | some c => (∀ e ∈ wr, (i, e.1) ∈ late → apartC c e.2) ∧ planS P late ops (i + 1) ((i, c) :: rd) wr K (putSt (ptake st k) op.dst r) H
        | none => planS P late ops (i + 1) rd wr K (putSt (ptake st k) op.dst r) H
      | none => False
theorem planS_nil {P : Program} {late : List (Nat × Nat)} {i : Nat} {rd wr : Uses} {K : List PV → Heap → Prop} {st : List PV} {H : Heap} : planS P late [] i rd wr K st H = K st H := by rw [planS]
theorem planS_cons {P : Program} {late : List (Nat × Nat)} {op : POp} {ops : List POp} {i : Nat} {rd wr : Uses} {K : List PV → Heap → Prop} {st : List PV} {H : Heap} : planS P late (op :: ops) i rd wr K st H = planSB P late op ops i rd wr K st H := by
  rw [planS]
  rfl
section
variable {P : Program} {Q : PPost} {st : List PV} {H : Heap}
theorem planS_plan {late : List (Nat × Nat)} {K : List PV → Heap → Prop} : ∀ {ops : List POp} {i : Nat} {rd wr : Uses} {st : List PV} {H : Heap}, planS P late ops i rd wr K st H → planOps P late ops i rd wr K st H
  | [], i, rd, wr, st, H, h => h
  | op :: ops, i, rd, wr, st, H, h => by
    have step : (match op.k with
      | .sto sz x v => match arg st x with
        | .ptr (some (b, off)) => match hget H b with
          | some cs => (cellsOf (argT st v)).length = sz ∧ off + sz ≤ cs.length ∧ (cellsOf (argT st v)).all PV.isCell = true ∧ (∀ e ∈ rd, (e.1, i) ∈ late → apartC e.2 (b, off, sz)) ∧
              planS P late ops (i + 1) rd ((i, b, off, sz) :: wr) K (putSt (takeAt st v) op.dst .unit) (hset H b (cs.take off ++ cellsOf (argT st v) ++ cs.drop (off + sz)))
          | none => False
        | _ => False
      | .ld sz ag true x => match arg st x with
        | .ptr (some (b, off)) => match hget H b with
          | some cs => match partP sz ag cs off with
            | some r => off + sz ≤ cs.length ∧ (∀ e ∈ rd, (e.1, i) ∈ late → apartC e.2 (b, off, sz)) ∧
                planS P late ops (i + 1) rd ((i, b, off, sz) :: wr) K (putSt st op.dst r) (hset H b (cs.take off ++ lendL ((cs.drop off).take sz) ++ cs.drop (off + sz)))
            | none => False
          | none => False
        | _ => False
      | .cpy sz x y => cpyB sz (arg st x) (arg st y) (fun v H' => planS P late ops (i + 1) rd wr K (putSt st op.dst v) H') H
      | .callF f args tk => ∃ r, PSpec P f (callArgs st args tk) r ∧ planS P late ops (i + 1) rd wr K (putSt (callTake st args tk) op.dst r) H
      | .callV fx args => match arg st fx with
        | .fn (.func f) first cap => ∃ r, PSpec P f (lendL first ++ args.map (arg st) ++ lendL cap) r ∧ planS P late ops (i + 1) rd wr K (putSt st op.dst r) H
        | _ => False
      | k => match pev st H k with
        | some r => match ldCells st k with
          | some c => (∀ e ∈ wr, (i, e.1) ∈ late → apartC c e.2) ∧ planS P late ops (i + 1) ((i, c) :: rd) wr K (putSt (ptake st k) op.dst r) H
          | none => planS P late ops (i + 1) rd wr K (putSt (ptake st k) op.dst r) H
        | none => False) → planOp P late op i rd wr (fun rd' wr' st' H' => planOps P late ops (i + 1) rd' wr' K st' H') st H := by
      obtain ⟨d, gd, k⟩ := op
      intro h
      have pure_ : (match pev st H k with
          | some r => match ldCells st k with
            | some c => (∀ e ∈ wr, (i, e.1) ∈ late → apartC c e.2) ∧ planS P late ops (i + 1) ((i, c) :: rd) wr K (putSt (ptake st k) d r) H
            | none => planS P late ops (i + 1) rd wr K (putSt (ptake st k) d r) H
          | none => False) → ∃ r, pev st H k = some r ∧ (∀ c, ldCells st k = some c → ∀ e ∈ wr, (i, e.1) ∈ late → apartC c e.2) ∧
          planOps P late ops (i + 1) (match ldCells st k with | some c => (i, c) :: rd | none => rd) wr K (putSt (ptake st k) d r) H := fun h => by
        cases hr : pev st H k with
        | none => rw [hr] at h; exact h.elim
        | some r =>
          rw [hr] at h
          refine ⟨r, rfl, ?_⟩
          cases hl : ldCells st k with
          | some c =>
            simp only [hl] at h ⊢
            exact ⟨fun c' hc => by cases hc; exact h.1, planS_plan h.2⟩
          | none =>
            exact ⟨fun c' hc => by simp at hc, by simp only [hl] at h; exact planS_plan h⟩
      have no : (match pev st H k with
          | some r => match ldCells st k with
            | some c => (∀ e ∈ wr, (i, e.1) ∈ late → apartC c e.2) ∧ planS P late ops (i + 1) ((i, c) :: rd) wr K (putSt (ptake st k) d r) H
            | none => planS P late ops (i + 1) rd wr K (putSt (ptake st k) d r) H
          | none => False) → pev st H k = none → False := fun h e => by rw [e] at h; exact h
      cases k with
      | sto sz x v =>
        simp only at h
        split at h
        · rename_i b off e
          split at h
          · rename_i cs e2
            exact ⟨b, off, cs, e, e2, h.1, h.2.1, h.2.2.1, h.2.2.2.1, planS_plan h.2.2.2.2⟩
          · exact h.elim
        · exact h.elim
      | callF n xs tk =>
        obtain ⟨r, h1, h2⟩ := h
        exact ⟨r, h1, planS_plan h2⟩
      | callV fx xs =>
        simp only at h
        split at h
        · rename_i f first cap e
          obtain ⟨r, h1, h2⟩ := h
          exact ⟨f, first, cap, r, e, h1, planS_plan h2⟩
        · exact h.elim
      | cpy s x y => exact cpyB_mono h fun v H' h => planS_plan h
      | al z => exact (no h rfl).elim
      | bx s x => exact (no h rfl).elim
      | appR s b z x y => exact (no h rfl).elim
      | clr s z x => exact (no h rfl).elim
      | cap x => exact (no h rfl).elim
      | ld s ag tk x =>
        cases tk with
        | false => exact pure_ h
        | true =>
          simp only at h
          split at h
          · rename_i b off e
            split at h
            · rename_i cs e2
              split at h
              · rename_i r e3
                exact ⟨b, off, cs, r, e, e2, e3, h.1, h.2.1, planS_plan h.2.2⟩
              · exact h.elim
            · exact h.elim
          · exact h.elim
      | mk s b ag z l c mu =>
        cases mu with
        | false => exact pure_ h
        | true => exact (no h rfl).elim
      | bsl s n ag z ps mu =>
        cases mu with
        | false => exact pure_ h
        | true => exact (no h rfl).elim
      | _ => exact pure_ h
    unfold planS at h
    unfold planOps
    unfold goes at h
    cases hg : op.gd with
    | none =>
      rw [hg] at h
      exact step h
    | some p =>
      obtain ⟨t, want⟩ := p
      rw [hg] at h
      simp only at h ⊢
      cases e : gval (st.getD t .unit) with
      | some b =>
        rw [e] at h
        refine ⟨b, rfl, ?_⟩
        simp only at h
        by_cases hb : b = some want
        · rw [if_pos hb]
          have : (b == some want) = true := by simp [hb]
          rw [this] at h
          exact step h
        · rw [if_neg hb]
          have : (b == some want) = false := by simp [hb]
          rw [this] at h
          exact planS_plan h
      | none => rw [e] at h; exact h.elim
theorem pwp_drawS (hmix : P.follows .mixedOrders = true) {ops : List POp} {late : List (Nat × Nat)} (h : ∀ K : List PV → Heap → Prop, (∀ st' H', Q .normal st' H' → K st' H') → planS P late ops 0 [] [] K st H) : pwp P (.draw ops late) Q st H := pwp_draw hmix (planS_plan (h _ fun _ _ h => h))
end
end Go.Proofs.YtdphjapaoaokmaaDoor.E
/- A logic of plain values, part 33: an empty slice is one of any elements. -/
namespace Go.Proofs.YtdphjapaoaokmaaDoor.E
open Go Go.RowKit
set_option linter.unusedVariables false
set_option linter.unusedSimpArgs false
variable {dq : List Deferred}
mutual
/-- The same value, said otherwise: a slice without elements, and capacity, is one of any elements; b: what is owned matters. -/
def Up (b : Bool) : PV → PV → Prop
  | .lst s xs o, y => ∃ s' ys o', y = .lst s' ys o' ∧ (s' = s ∨ (s = 0 ∧ xs = [])) ∧ (b = true → o' = o) ∧ UpL false xs ys
  | .agg cs, y => ∃ ds, y = .agg ds ∧ UpL b cs ds
  | .tup cs, y => ∃ ds, y = .tup ds ∧ UpL b cs ds
  | x, y => y = x
def UpL (b : Bool) : List PV → List PV → Prop
  | [], ys => ys = []
  | x :: xs, ys => ∃ y ys', ys = y :: ys' ∧ Up b x y ∧ UpL b xs ys'
end
mutual
theorem Up_refl (b : Bool) : ∀ x : PV, Up b x x
  | .lst s xs o => ⟨s, xs, o, rfl, .inl rfl, fun _ => rfl, UpL_refl false xs⟩
  | .agg cs => ⟨cs, rfl, UpL_refl b cs⟩
  | .tup cs => ⟨cs, rfl, UpL_refl b cs⟩
  | .int .. | .bool .. | .str .. | .unit | .ptr .. | .ip .. | .row .. | .map .. | .fn .. | .nilf | .nlit .. | .xl .. | .sh .. => rfl
theorem UpL_refl (b : Bool) : ∀ xs : List PV, UpL b xs xs
  | [] => rfl
  | x :: xs => ⟨x, xs, rfl, Up_refl b x, UpL_refl b xs⟩
end
theorem UpL_length {b : Bool} : ∀ {xs ys : List PV}, UpL b xs ys → ys.length = xs.length
  | [], ys, h => by cases h; rfl
  | x :: xs, ys, h => by
    obtain ⟨y, ys', rfl, _, h⟩ := h
    simp [UpL_length h]
theorem Up_isCell {b : Bool} {x y : PV} (h : Up b x y) : y.isCell = x.isCell := by
  cases x <;> first
    | (obtain ⟨s', ys, o', rfl, _⟩ := h; rfl)
    | (obtain ⟨ds, rfl, _⟩ := h; rfl)
    | (cases h; rfl)
theorem UpL_all {b : Bool} : ∀ {xs ys : List PV}, UpL b xs ys → ys.all PV.isCell = xs.all PV.isCell
  | [], ys, h => by cases h; rfl
  | x :: xs, ys, h => by
    obtain ⟨y, ys', rfl, h1, h2⟩ := h
    simp [Up_isCell h1, UpL_all h2]
mutual
theorem Up_VR {o b : Bool} (hb : o = true → b = true) {w : World} {g : Ghost} : ∀ (x y : PV) (v : Value), Up b x y → VR o w g x v → VR o w g y v
  | .lst s xs own, y, v, hu, h => by
    obtain ⟨s', ys, o', rfl, hs, ho, hx⟩ := hu
    obtain ⟨A, cap, rfl, h1, h2, h3, h4⟩ := h
    have hl := UpL_length hx
    refine ⟨A, cap, by rw [hl], by omega, h2, ?_, fun e1 e2 hlt => ?_⟩
    · rcases hs with rfl | ⟨rfl, rfl⟩
      · rcases h3 with h3 | ⟨b, off, vs, h5, h6, h7⟩
        · subst h3; cases hx; exact .inl rfl
        · exact .inr ⟨b, off, vs, h5, by rw [hl]; exact h6, UpL_VRe xs ys vs hx h7⟩
      · cases hx; exact .inl rfl
    · have e3 := ho (hb e1)
      subst e3
      have := h4 e1 e2 (by omega)
      rcases hs with rfl | ⟨rfl, rfl⟩
      · rw [hl]; exact this
      · exact absurd this.1 (by omega)
  | .agg cs, y, v, hu, h => by
    obtain ⟨ds, rfl, hx⟩ := hu
    obtain ⟨h0, vs, rfl, h1⟩ := h
    exact ⟨by rw [UpL_all hx]; exact h0, vs, rfl, UpL_VR hb cs ds vs.toList hx h1⟩
  | .tup cs, y, v, hu, h => by
    obtain ⟨ds, rfl, hx⟩ := hu
    obtain ⟨vs, rfl, h1⟩ := h
    exact ⟨vs, rfl, UpL_VR hb cs ds vs.toList hx h1⟩
  | .int .., y, v, hu, h => by cases hu; exact h
  | .bool .., y, v, hu, h => by cases hu; exact h
  | .str .., y, v, hu, h => by cases hu; exact h
  | .unit, y, v, hu, h => by cases hu; exact h
  | .ptr .., y, v, hu, h => by cases hu; exact h
  | .ip .., y, v, hu, h => by cases hu; exact h
  | .row .., y, v, hu, h => by cases hu; exact h
  | .map .., y, v, hu, h => by cases hu; exact h
  | .fn .., y, v, hu, h => by cases hu; exact h
  | .nilf, y, v, hu, h => by cases hu; exact h
  | .nlit .., y, v, hu, h => by cases hu; exact h
  | .xl .., y, v, hu, h => by cases hu; exact h
  | .sh .., y, v, hu, h => by cases hu; exact h
theorem UpL_VR {o b : Bool} (hb : o = true → b = true) {w : World} {g : Ghost} : ∀ (xs ys : List PV) (vs : List Value), UpL b xs ys → VRl o w g xs vs → VRl o w g ys vs
  | [], ys, vs, hu, h => by cases hu; exact h
  | x :: xs, ys, vs, hu, h => by
    obtain ⟨y, ys', rfl, h1, h2⟩ := hu
    obtain ⟨v, vs', rfl, h3, h4⟩ := h
    exact ⟨v, vs', rfl, Up_VR hb x y v h1 h3, UpL_VR hb xs ys' vs' h2 h4⟩
theorem UpL_VRe {w : World} {g : Ghost} {sz : Nat} : ∀ (xs ys : List PV) (vs : List Value), UpL false xs ys → VRe w g sz xs vs → VRe w g sz ys vs
  | [], ys, vs, hu, h => by cases hu; exact h
  | x :: xs, ys, vs, hu, h => by
    obtain ⟨y, ys', rfl, h1, h2⟩ := hu
    obtain ⟨us, vs', rfl, ⟨hl, h3⟩, h4⟩ := VRe_cons.1 h
    refine VRe_cons.2 ⟨us, vs', rfl, ⟨hl, ?_⟩, UpL_VRe xs ys' vs' h2 h4⟩
    rcases h3 with ⟨cs, e, h5, h6⟩ | ⟨h5, v, rfl, h6⟩
    · have hag : VR false w g x (.agg us.toArray) := by rw [e]; exact ⟨h5, us.toArray, rfl, by simpa using h6⟩
      have h7 := Up_VR (o := false) (b := false) (fun h => h) x y _ h1 hag
      rw [e] at h1
      obtain ⟨ds, rfl, h1⟩ := h1
      obtain ⟨k1, vs2, k2, k3⟩ := h7
      cases k2
      exact .inl ⟨ds, rfl, k1, by simpa using k3⟩
    · exact .inr ⟨by rw [Up_isCell h1]; exact h5, v, rfl, Up_VR (o := false) (b := false) (fun h => h) x y v h1 h6⟩
end
theorem Up_toks_lst {s : Nat} {xs : List PV} {own : Bool} {y : PV} {v : Value} (hu : Up true (.lst s xs own) y) : toks y v = toks (.lst s xs own) v := by
  obtain ⟨s', ys, o', rfl, hs, ho, hx⟩ := hu
  have e := ho rfl
  subst e
  have hl := UpL_length hx
  cases o' with
  | false => simp [toks]
  | true =>
    cases v with
    | slice A n cap =>
      cases A with
      | none => simp only [toks]
      | some a => simp only [toks, hl]
    | _ => simp only [toks]
mutual
theorem Up_toks : ∀ (x y : PV) (v : Value), Up true x y → toks y v = toks x v
  | .lst s xs own, y, v, hu => Up_toks_lst hu
  | .agg cs, y, v, hu => by
    obtain ⟨ds, rfl, hx⟩ := hu
    have hrec := fun l => UpL_toks cs ds l hx
    cases v <;> simp only [toks, hrec]
  | .tup cs, y, v, hu => by
    obtain ⟨ds, rfl, hx⟩ := hu
    have hrec := fun l => UpL_toks cs ds l hx
    cases v <;> simp only [toks, hrec]
  | .int .., y, v, hu => by cases hu; rfl
  | .bool .., y, v, hu => by cases hu; rfl
  | .str .., y, v, hu => by cases hu; rfl
  | .unit, y, v, hu => by cases hu; rfl
  | .ptr .., y, v, hu => by cases hu; rfl
  | .ip .., y, v, hu => by cases hu; rfl
  | .row .., y, v, hu => by cases hu; rfl
  | .map .., y, v, hu => by cases hu; rfl
  | .fn .., y, v, hu => by cases hu; rfl
  | .nilf, y, v, hu => by cases hu; rfl
  | .nlit .., y, v, hu => by cases hu; rfl
  | .xl .., y, v, hu => by cases hu; rfl
  | .sh .., y, v, hu => by cases hu; rfl
theorem UpL_toks : ∀ (xs ys : List PV) (vs : List Value), UpL true xs ys → toksL ys vs = toksL xs vs
  | [], ys, vs, hu => by cases hu; rfl
  | x :: xs, ys, vs, hu => by
    obtain ⟨y, ys', rfl, h1, h2⟩ := hu
    have r1 := fun v => Up_toks x y v h1
    have r2 := fun l => UpL_toks xs ys' l h2
    cases vs with
    | nil => simp [toksL]
    | cons v vs => simp only [toksL, r1, r2]
end
theorem Up_lst {b : Bool} {s s' : Nat} {xs ys : List PV} {o o' : Bool} : Up b (.lst s xs o) (.lst s' ys o') ↔ (s' = s ∨ (s = 0 ∧ xs = [])) ∧ (b = true → o' = o) ∧ UpL false xs ys := by
  constructor
  · rintro ⟨_, _, _, e, h⟩
    cases e
    exact h
  · exact fun h => ⟨_, _, _, rfl, h⟩
theorem Up_agg {b : Bool} {cs ds : List PV} : Up b (.agg cs) (.agg ds) ↔ UpL b cs ds := by
  constructor
  · rintro ⟨_, e, h⟩
    cases e
    exact h
  · exact fun h => ⟨_, rfl, h⟩
theorem Up_tup {b : Bool} {cs ds : List PV} : Up b (.tup cs) (.tup ds) ↔ UpL b cs ds := by
  constructor
  · rintro ⟨_, e, h⟩
    cases e
    exact h
  · exact fun h => ⟨_, rfl, h⟩
theorem UpL_cons {b : Bool} {x y : PV} {xs ys : List PV} : UpL b (x :: xs) (y :: ys) ↔ Up b x y ∧ UpL b xs ys := by
  constructor
  · rintro ⟨_, _, e, h⟩
    cases e
    exact h
  · exact fun h => ⟨_, _, rfl, h⟩
/-- Slots alike. -/
def UpA (b : Bool) : List (Nat × PV) → List (Nat × PV) → Prop
  | [], l => l = []
  | (i, x) :: l, (j, y) :: l' => i = j ∧ Up b x y ∧ UpA b l l'
  | _ :: _, [] => False
theorem UpA_getS {b : Bool} (i : Nat) : ∀ {l l' : List (Nat × PV)}, UpA b l l' → Up b (getS l i) (getS l' i)
  | [], l', h => by cases h; exact Up_refl b _
  | (j, x) :: l, [], h => h.elim
  | (j, x) :: l, (j2, y) :: l2, h => by
    obtain ⟨rfl, h1, h2⟩ := h
    simp only [getS]
    split
    · exact h1
    · exact UpA_getS i h2
theorem UpL_map_range {b : Bool} {f f' : Nat → PV} (h : ∀ i, Up b (f i) (f' i)) : ∀ l : List Nat, UpL b (l.map f) (l.map f')
  | [] => rfl
  | i :: l => ⟨_, _, rfl, h i, UpL_map_range h l⟩
theorem MS_up {b : Bool} {n : Nat} {l l' : List (Nat × PV)} (h : UpA b l l') : UpL b (MS n l) (MS n l') := UpL_map_range (fun i => UpA_getS i h) _
theorem keep_up {b : Bool} {keep : List Nat} {n : Nat} {l l' : List (Nat × PV)} (h : UpA b (keepA keep l) l') : UpL b (keepL keep 0 (MS n l)) (MS n l') := by
  rw [keepL_MS]
  exact MS_up h
section
variable {P : Program} {Q : PPost} {st : List PV} {H : Heap}
theorem pwp_up {pc : PCode} {st' : List PV} (hu : UpL true st st') (h : pwp P pc Q st' H) : pwp P pc Q st H := by
  intro hh c hc rr hrr dq out a w g hR
  exact h hh c hc rr hrr dq out a w g ⟨hR.wr, hR.hp, UpL_VR (fun h => h) st st' _ hu hR.tm, fun b => by rw [UpL_toks st st' _ hu]; exact hR.un b, hR.df⟩
/-- A loop, between whose rounds the slots may be said otherwise. -/
theorem pwp_loopU (keep : List Nat) (I : Nat → List PV → Heap → Prop) {x : PCode} {n : Nat} (h0 : ∃ st2 H2, UpL true (keepL keep 0 st) st2 ∧ H2.Sublist H ∧ I n st2 H2)
    (h : ∀ n st H, I n st H → pwp P x (thenP (fun st' H' => ∃ m, m < n ∧ ∃ st2 H2, UpL true (keepL keep 0 st') st2 ∧ H2.Sublist H' ∧ I m st2 H2) Q) st H) : pwp P (.loop x) Q st H := by
  refine pwp_loop (fun m s H' => ∃ st2 H2, UpL true (keepL keep 0 s) st2 ∧ H2.Sublist H' ∧ I m st2 H2) h0 ?_
  rintro m s H' ⟨st2, H2, h1, h2, h3⟩
  exact pwp_drop h2 (pwp_keep keep (pwp_up h1 (h m _ _ h3)))
/-- A contract, whose result may be said otherwise. -/
theorem SpecH_up {f : Nat} {args : List PV} {R R' : PV → Heap → Prop} (h : SpecH P f H args R) (hr : ∀ r H', R r H' → ∃ r', Up true r r' ∧ R' r' H') : SpecH P f H args R' := by
  refine ⟨h.1, fun out w g vals h1 h2 h3 h4 => (h.2 out w g vals h1 h2 h3 h4).mono ?_⟩
  rintro e w' ⟨v, r, H', g', rfl, a2, a3, a4, a5, a6, a7⟩
  obtain ⟨r', hu, hR⟩ := hr _ _ a2
  exact ⟨v, r', H', g', rfl, hR, a3, a4, Up_VR (fun h => h) r r' v hu a5, fun t => by rw [Up_toks r r' v hu]; exact a6 t, a7⟩
/-- .. whose arguments may be said otherwise. -/
theorem SpecH_args {f : Nat} {args args' : List PV} {R : PV → Heap → Prop} (hu : UpL true args args') (h : SpecH P f H args' R) : SpecH P f H args R :=
  ⟨h.1, fun out w g vals h1 h2 h3 h4 => h.2 out w g vals h1 h2 (UpL_VR (fun h => h) args args' _ hu h3) fun t => by rw [UpL_toks args args' _ hu]; exact h4 t⟩
theorem PSpec_up {f : Nat} {args args' : List PV} {r r' : PV} (h : PSpec P f args' r) (hu : UpL true args args') (hr : Up true r r') : PSpec P f args r' := fun H =>
  SpecH_up (SpecH_args hu (h H)) fun r2 H2 ⟨e1, e2⟩ => ⟨r', by rw [e1]; exact hr, rfl, e2⟩
theorem spec_ofU {h : Hint} {f : Nat} {p : PFn} {args : List PV} {H : Heap} {R : PV → Heap → Prop} (hf : compF P h f = some p) (hl : args.length ≤ p.ntmps)
    (hb : pwp P p.body (fun e st' H' => (e = .normal ∨ e = .ret) ∧ ∃ rs r H2, resL st' H' p.res = some rs ∧ H2.Sublist H' ∧ Up true (resV rs) r ∧ R r H2) (MS p.ntmps (idxA 0 args)) H) : SpecH P f H args R := by
  refine SpecH_up (R := fun r H' => ∃ r', Up true r r' ∧ R r' H') (spec_of hf hl (pwp_mono hb ?_)) fun r H' h => h
  rintro e st' H' ⟨h1, rs, r, H2, h2, h3, h4, h5⟩
  exact ⟨h1, rs, H2, h2, h3, r, h4, h5⟩
end
end Go.Proofs.YtdphjapaoaokmaaDoor.E
/- A logic of plain values, part 34: steps that are taken one by one. -/
namespace Go.Proofs.YtdphjapaoaokmaaDoor.E
open Go Go.RowKit
set_option linter.unusedVariables false
set_option linter.unusedSimpArgs false
def runK (P : Program) (k : PK) (d : Option Nat) (ops : List POp) (K : List PV → Heap → Prop) (st : List PV) (H : Heap) : Prop :=
  match k with
  | .al cs => ∀ b, hget H b = none → runM P ops K (putSt st d (.ptr (some (b, 0)))) ((b, cs) :: H)
  | .bx sz x => (cellsOf (argT st x)).all PV.isCell = true ∧ ∀ b, hget H b = none → runM P ops K (putSt (takeAt st x) d (.ptr (some (b, 0)))) ((b, cellsOf (argT st x)) :: H)
  | .sto sz x v => match arg st x with
    | .ptr (some (b, off)) => match hget H b with
      | some cs => (cellsOf (argT st v)).length = sz ∧ off + sz ≤ cs.length ∧ (cellsOf (argT st v)).all PV.isCell = true ∧
            runM P ops K (putSt (takeAt st v) d .unit) (hset H b (cs.take off ++ cellsOf (argT st v) ++ cs.drop (off + sz)))
      | none => False
    | _ => False
  | .ld sz ag true x => match arg st x with
    | .ptr (some (b, off)) => match hget H b with
      | some cs => match partP sz ag cs off with
        | some r => runM P ops K (putSt st d r) (hset H b (cs.take off ++ lendL ((cs.drop off).take sz) ++ cs.drop (off + sz)))
        | none => False
      | none => False
    | _ => False
  | .mk sz bytes ag zero l c true => match arg st l, arg st c with
    | .int _ ln, .int _ cn => 0 ≤ ln ∧ ln ≤ cn ∧ cn * bytes ≤ 281474976710656 ∧ ∀ b, hget H b = none → runM P ops K (putSt st d (.row b 0 ln.toNat cn.toNat)) ((b, repCells cn.toNat zero) :: H)
    | _, _ => False
  | .bsl sz len ag zero ps true => match fillP zero (elemParts sz st ps) with
    | some cs => ∀ b, hget H b = none → runM P ops K (putSt st d (.row b 0 len len)) ((b, cs) :: H)
    | none => False
  | .eqN ne x => match arg st x with
    | .lst s xs o => (xs ≠ [] → runM P ops K (putSt st d (.bool ne)) H) ∧ (xs = [] → ∀ b, runM P ops K (putSt st d (.bool b)) H)
    | _ => False
  | .appR sz bytes zero x y => appB sz bytes zero (arg st x) (arg st y) (fun v H' => runM P ops K (putSt st d v) H') H
  | .cpy sz x y => cpyB sz (arg st x) (arg st y) (fun v H' => runM P ops K (putSt st d v) H') H
  | .clr sz zero x => clrB sz zero (arg st x) (fun v H' => runM P ops K (putSt st d v) H') H
  | .cap x => capB (arg st x) (fun v H' => runM P ops K (putSt st d v) H') H
  | .callF f args tk => callK P f H (callArgs st args tk) ops K (callTake st args tk) d
  | .callV fx args => match arg st fx with
    | .fn (.func f) first cap => callK P f H (lendL first ++ args.map (arg st) ++ lendL cap) ops K st d
    | _ => False
  | k => match pev st H k with
    | some r => runM P ops K (putSt (ptake st k) d r) H
    | none => False
section
variable {P : Program} {K : List PV → Heap → Prop} {st : List PV} {H : Heap} {d : Option Nat} {k : PK} {ops : List POp} {t : Nat} {w : Bool}
theorem runM_n : runM P (⟨d, none, k⟩ :: ops) K st H = runK P k d ops K st H := by rw [runM_cons]; rfl
theorem runM_t (h : st.getD t .unit = .bool w) : runM P (⟨d, some (t, w), k⟩ :: ops) K st H = runK P k d ops K st H := by
  rw [runM_cons, runB]
  simp only [goes, h, gval, beq_self_eq_true]
  rfl
theorem runM_f (h : st.getD t .unit = .bool (!w)) : runM P (⟨d, some (t, w), k⟩ :: ops) K st H = runM P ops K (putSt st d (.tup [])) H := by
  rw [runM_cons, runB]
  have : ((some (!w)) == some w) = false := by cases w <;> rfl
  simp only [goes, h, gval, this]
theorem runM_s (h : st.getD t .unit = .tup []) : runM P (⟨d, some (t, w), k⟩ :: ops) K st H = runM P ops K (putSt st d (.tup [])) H := by
  rw [runM_cons, runB]
  have : ((none : Option Bool) == some w) = false := rfl
  simp only [goes, h, gval, this]
end
def planK (P : Program) (k : PK) (d : Option Nat) (ops : List POp) (K : List PV → Heap → Prop) (st : List PV) (H : Heap) : Prop :=
  match k with
    | .cpy sz x y => cpyB sz (arg st x) (arg st y) (fun v H' => planM P ops K (putSt st d v) H') H
    | .callF f args tk => callD P f H (callArgs st args tk) ops K (callTake st args tk) d
    | .callV fx args => match arg st fx with
      | .fn (.func f) first cap => callD P f H (lendL first ++ args.map (arg st) ++ lendL cap) ops K st d
      | _ => False
    | k => match pev st H k with
      | some r => planM P ops K (putSt (ptake st k) d r) H
      | none => False
def planSK (P : Program) (late : List (Nat × Nat)) (k : PK) (d : Option Nat) (ops : List POp) (i : Nat) (rd wr : Uses) (K : List PV → Heap → Prop) (st : List PV) (H : Heap) : Prop :=
  match k with
    | .sto sz x v => match arg st x with
      | .ptr (some (b, off)) => match hget H b with
        | some cs => (cellsOf (argT st v)).length = sz ∧ off + sz ≤ cs.length ∧ (cellsOf (argT st v)).all PV.isCell = true ∧ (∀ e ∈ rd, (e.1, i) ∈ late → apartC e.2 (b, off, sz)) ∧
            planS P late ops (i + 1) rd ((i, b, off, sz) :: wr) K (putSt (takeAt st v) d .unit) (hset H b (cs.take off ++ cellsOf (argT st v) ++ cs.drop (off + sz)))
        | none => False
      | _ => False
    | .ld sz ag true x => match arg st x with
      | .ptr (some (b, off)) => match hget H b with
        | some cs => match partP sz ag cs off with
          | some r => off + sz ≤ cs.length ∧ (∀ e ∈ rd, (e.1, i) ∈ late → apartC e.2 (b, off, sz)) ∧
              planS P late ops (i + 1) rd ((i, b, off, sz) :: wr) K (putSt st d r) (hset H b (cs.take off ++ lendL ((cs.drop off).take sz) ++ cs.drop (off + sz)))
          | none => False
        | none => False
      | _ => False
    | .cpy sz x y => cpyB sz (arg st x) (arg st y) (fun v H' => planS P late ops (i + 1) rd wr K (putSt st d v) H') H
    | .callF f args tk => ∃ r, PSpec P f (callArgs st args tk) r ∧ planS P late ops (i + 1) rd wr K (putSt (callTake st args tk) d r) H
    | .callV fx args => match arg st fx with
      | .fn (.func f) first cap => ∃ r, PSpec P f (lendL first ++ args.map (arg st) ++ lendL cap) r ∧ planS P late ops (i + 1) rd wr K (putSt st d r) H
      | _ => False
    | k => match pev st H k with
      | some r => match ldCells st k with
        | some c => (∀ e ∈ wr, (i, e.1) ∈ late → apartC c e.2) ∧ planS P late ops (i + 1) ((i, c) :: rd) wr K (putSt (ptake st k) d r) H
        | none => planS P late ops (i + 1) rd wr K (putSt (ptake st k) d r) H
      | none => False
section
variable {P : Program} {K : List PV → Heap → Prop} {st : List PV} {H : Heap} {d : Option Nat} {k : PK} {ops : List POp} {t : Nat} {w : Bool}
theorem planM_n : planM P (⟨d, none, k⟩ :: ops) K st H = planK P k d ops K st H := by rw [planM_cons]; rfl
theorem planM_t (h : st.getD t .unit = .bool w) : planM P (⟨d, some (t, w), k⟩ :: ops) K st H = planK P k d ops K st H := by
  rw [planM_cons, planB]
  simp only [goes, h, gval, beq_self_eq_true]
  rfl
theorem planM_f (h : st.getD t .unit = .bool (!w)) : planM P (⟨d, some (t, w), k⟩ :: ops) K st H = planM P ops K (putSt st d (.tup [])) H := by
  rw [planM_cons, planB]
  have : ((some (!w)) == some w) = false := by cases w <;> rfl
  simp only [goes, h, gval, this]
theorem planM_s (h : st.getD t .unit = .tup []) : planM P (⟨d, some (t, w), k⟩ :: ops) K st H = planM P ops K (putSt st d (.tup [])) H := by
  rw [planM_cons, planB]
  have : ((none : Option Bool) == some w) = false := rfl
  simp only [goes, h, gval, this]
variable {late : List (Nat × Nat)} {i : Nat} {rd wr : Uses}
theorem planS_n : planS P late (⟨d, none, k⟩ :: ops) i rd wr K st H = planSK P late k d ops i rd wr K st H := by rw [planS_cons]; rfl
theorem planS_t (h : st.getD t .unit = .bool w) : planS P late (⟨d, some (t, w), k⟩ :: ops) i rd wr K st H = planSK P late k d ops i rd wr K st H := by
  rw [planS_cons, planSB]
  simp only [goes, h, gval, beq_self_eq_true]
  rfl
theorem planS_f (h : st.getD t .unit = .bool (!w)) : planS P late (⟨d, some (t, w), k⟩ :: ops) i rd wr K st H = planS P late ops (i + 1) rd wr K (putSt st d (.tup [])) H := by
  rw [planS_cons, planSB]
  have : ((some (!w)) == some w) = false := by cases w <;> rfl
  simp only [goes, h, gval, this]
theorem planS_s (h : st.getD t .unit = .tup []) : planS P late (⟨d, some (t, w), k⟩ :: ops) i rd wr K st H = planS P late ops (i + 1) rd wr K (putSt st d (.tup [])) H := by
  rw [planS_cons, planSB]
  have : ((none : Option Bool) == some w) = false := rfl
  simp only [goes, h, gval, this]
end
/-! ## the flow of control -/
section
variable {P : Program} {Q : PPost} {st : List PV} {H : Heap}
/-- A region, and what comes behind it. -/
theorem pwp_sr {ops : List POp} {y : PCode} (h : ∀ K : List PV → Heap → Prop, (∀ st' H', pwp P y Q st' H' → K st' H') → runM P ops K st H) : pwp P (.seq (.region ops) y) Q st H :=
  pwp_seq (pwp_regionM fun K hK => h K fun st' H' h' => hK st' H' h')
theorem pwp_sd (hmix : P.follows .mixedOrders = true) {ops : List POp} {late : List (Nat × Nat)} {y : PCode} (h : ∀ K : List PV → Heap → Prop, (∀ st' H', pwp P y Q st' H' → K st' H') → planM P ops K st H) : pwp P (.seq (.draw ops late) y) Q st H :=
  pwp_seq (pwp_drawM hmix fun K hK => h K fun st' H' h' => hK st' H' h')
theorem pwp_ss (hmix : P.follows .mixedOrders = true) {ops : List POp} {late : List (Nat × Nat)} {y : PCode} (h : ∀ K : List PV → Heap → Prop, (∀ st' H', pwp P y Q st' H' → K st' H') → planS P late ops 0 [] [] K st H) : pwp P (.seq (.draw ops late) y) Q st H :=
  pwp_seq (pwp_drawS hmix fun K hK => h K fun st' H' h' => hK st' H' h')
theorem pwp_cT {x y : PCode} {p : Arg} (hb : argT st p = .bool true) (h : pwp P x Q st H) : pwp P (.cond p x y) Q st H := pwp_cond hb (fun _ => h) (fun e => by cases e)
theorem pwp_cF {x y : PCode} {p : Arg} (hb : argT st p = .bool false) (h : pwp P y Q st H) : pwp P (.cond p x y) Q st H := pwp_cond hb (fun e => by cases e) (fun _ => h)
theorem pwp_sF {x z : PCode} {p : Arg} (hb : argT st p = .bool false) (h : pwp P z Q st H) : pwp P (.seq (.cond p x .skip) z) Q st H := pwp_seq (pwp_cF hb (pwp_skip h))
theorem pwp_sT {z y : PCode} {p : Arg} (hb : argT st p = .bool true) (h : pwp P z Q st H) : pwp P (.seq (.cond p .skip y) z) Q st H := pwp_seq (pwp_cT hb (pwp_skip h))
theorem thenP_ret {R : List PV → Heap → Prop} : thenP R Q .ret st H = Q .ret st H := rfl
theorem inBlockP_ret {id : Nat} : inBlockP id Q .ret st H = Q .ret st H := rfl
theorem pwp_retB {id : Nat} {R : List PV → Heap → Prop} (h : Q .ret st H) : pwp P .ret (inBlockP id (thenP R Q)) st H := pwp_ret h
theorem pwp_retT {R : List PV → Heap → Prop} (h : Q .ret st H) : pwp P .ret (thenP R Q) st H := pwp_ret h
/-- What an if hangs on: the slot, and what comes behind either arm. -/
def IfP (P : Program) (c : Arg) (x y : PCode) (Q : PPost) (st : List PV) (H : Heap) : Prop := ∃ b, argT st c = .bool b ∧ (b = true → pwp P x Q st H) ∧ (b = false → pwp P y Q st H)
theorem ifT {c : Arg} {x y : PCode} (hb : argT st c = .bool true) (h : pwp P x Q st H) : IfP P c x y Q st H := ⟨true, hb, (fun _ => h), (fun e => by cases e)⟩
theorem ifF {c : Arg} {x y : PCode} (hb : argT st c = .bool false) (h : pwp P y Q st H) : IfP P c x y Q st H := ⟨false, hb, (fun e => by cases e), fun _ => h⟩
theorem ifB {c : Arg} {x y : PCode} {p : Prop} [Decidable p] (hb : argT st c = .bool (decide p)) (h1 : p → pwp P x Q st H) (h2 : ¬ p → pwp P y Q st H) : IfP P c x y Q st H :=
  ⟨_, hb, fun e => h1 (of_decide_eq_true e), fun e => h2 (of_decide_eq_false e)⟩
/-- A region and an if (one arm of which may leave), and what comes behind. -/
theorem pwp_rif {ops : List POp} {c : Arg} {x y z : PCode} (h : ∀ K : List PV → Heap → Prop, (∀ st' H', IfP P c x y (thenP (pwp P z Q) Q) st' H' → K st' H') → runM P ops K st H) : pwp P (.seq (.seq (.region ops) (.cond c x y)) z) Q st H :=
  pwp_seq (pwp_sr fun K hK => h K fun st' H' ⟨b, h1, h2, h3⟩ => hK st' H' (pwp_cond h1 h2 h3))
theorem pwp_rifE {ops : List POp} {c : Arg} {x y : PCode} (h : ∀ K : List PV → Heap → Prop, (∀ st' H', IfP P c x y Q st' H' → K st' H') → runM P ops K st H) : pwp P (.seq (.region ops) (.cond c x y)) Q st H :=
  pwp_sr fun K hK => h K fun st' H' ⟨b, h1, h2, h3⟩ => hK st' H' (pwp_cond h1 h2 h3)
theorem pwp_dif (hmix : P.follows .mixedOrders = true) {ops : List POp} {late : List (Nat × Nat)} {c : Arg} {x y z : PCode} (h : ∀ K : List PV → Heap → Prop, (∀ st' H', IfP P c x y (thenP (pwp P z Q) Q) st' H' → K st' H') → planM P ops K st H) : pwp P (.seq (.seq (.draw ops late) (.cond c x y)) z) Q st H :=
  pwp_seq (pwp_sd hmix fun K hK => h K fun st' H' ⟨b, h1, h2, h3⟩ => hK st' H' (pwp_cond h1 h2 h3))
theorem useU {f : Nat} {args args' : List PV} {r : PV} {ops : List POp} {K : List PV → Heap → Prop} {d : Option Nat} (h : PSpec P f args' r) (hu : UpL true args args') (hK : runM P ops K (putSt st d r) H) : callK P f H args ops K st d :=
  useP (fun H => SpecH_args hu (h H)) hK
end
end Go.Proofs.YtdphjapaoaokmaaDoor.E
/- A logic of plain values, part 35: rows of structs as lists, and back. -/
namespace Go.Proofs.YtdphjapaoaokmaaDoor.E
open Go Go.RowKit
set_option linter.unusedVariables false
set_option linter.unusedSimpArgs false
/-- Elements of so many cells, that are lent. -/
def Flat (sz : Nat) (xs : List PV) : Prop := ∀ x ∈ xs, lend x = x ∧ ∃ cs, x = .agg cs ∧ cs.length = sz
theorem Flat.map {α : Type} {sz : Nat} {f : α → PV} (h : ∀ a, lend (f a) = f a ∧ ∃ cs, f a = .agg cs ∧ cs.length = sz) (l : List α) : Flat sz (l.map f) := fun x hx => by
  obtain ⟨a, _, rfl⟩ := List.mem_map.1 hx
  exact h a
theorem Flat.len {sz : Nat} : ∀ {xs : List PV}, Flat sz xs → (xs.flatMap cellsOf).length = xs.length * sz
  | [], _ => by simp
  | x :: xs, h => by
    obtain ⟨_, cs, rfl, hc⟩ := h x (List.mem_cons_self ..)
    rw [List.flatMap_cons, List.length_append, Flat.len (fun y hy => h y (List.mem_cons_of_mem _ hy)), List.length_cons, Nat.succ_mul]
    simp only [cellsOf, hc]
    omega
theorem chunk_flat {sz : Nat} (ys : List PV) : ∀ {xs : List PV}, Flat sz xs → chunk sz xs.length (xs.flatMap cellsOf ++ ys) = xs
  | [], _ => rfl
  | x :: xs, h => by
    obtain ⟨_, cs, rfl, hc⟩ := h x (List.mem_cons_self ..)
    rw [List.flatMap_cons, List.length_cons, chunk, List.append_assoc]
    simp only [cellsOf]
    rw [List.take_left' hc, List.drop_left' hc, chunk_flat ys (fun y hy => h y (List.mem_cons_of_mem _ hy))]
theorem lendL_append (xs ys : List PV) : lendL (xs ++ ys) = lendL xs ++ lendL ys := by simp [lendL_eq_map]
theorem lendL_idem (xs : List PV) : lendL (lendL xs) = lendL xs := lendL_lendL xs
theorem Flat.lend {sz : Nat} : ∀ {xs : List PV}, Flat sz xs → lendL (xs.flatMap cellsOf) = xs.flatMap cellsOf
  | [], _ => rfl
  | x :: xs, h => by
    obtain ⟨hl, cs, rfl, hc⟩ := h x (List.mem_cons_self ..)
    rw [List.flatMap_cons, lendL_append, Flat.lend (fun y hy => h y (List.mem_cons_of_mem _ hy))]
    simp only [E.lend, PV.agg.injEq] at hl
    simp only [cellsOf, hl]
theorem take_flat {sz : Nat} {xs : List PV} (h : Flat sz xs) (ys : List PV) : (xs.flatMap cellsOf ++ ys).take (xs.length * sz) = xs.flatMap cellsOf := List.take_left' h.len
theorem rowL_flat {sz : Nat} {xs : List PV} (h : Flat sz xs) (ys : List PV) {cap : Nat} (h1 : xs.length ≤ cap) (h2 : cap ≤ maxLen) : rowL sz true (xs.flatMap cellsOf ++ ys) xs.length cap = some (.lst sz xs false) := by
  unfold rowL
  have hl : xs.length * sz ≤ (xs.flatMap cellsOf ++ ys).length := by rw [List.length_append, h.len]; omega
  rw [if_pos ⟨h1, h2, hl, fun e => by cases e⟩, take_flat h, h.lend]
  have := chunk_flat [] h
  rw [List.append_nil] at this
  simp only [elemsOf, if_true, this]
theorem rowL_of {sz : Nat} {xs cs : List PV} {n cap : Nat} (h : Flat sz xs) (hn : xs.length = n) (h1 : n ≤ cap) (h2 : cap ≤ maxLen) (hl : n * sz ≤ cs.length) (he : lendL (cs.take (n * sz)) = xs.flatMap cellsOf) :
    rowL sz true cs n cap = some (.lst sz xs false) := by
  unfold rowL
  rw [if_pos ⟨h1, h2, hl, fun e => by cases e⟩, he]
  have := chunk_flat [] h
  rw [List.append_nil, hn] at this
  simp only [elemsOf, if_true, this]
theorem cellsY_lst {sz : Nat} {H : Heap} {xs : List PV} {o : Bool} : cellsY sz H (.lst sz xs o) = some (lendL (xs.flatMap cellsOf), xs.length) := by simp [cellsY]
theorem cellsY_flat {sz : Nat} {H : Heap} {xs : List PV} {o : Bool} (h : Flat sz xs) : cellsY sz H (.lst sz xs o) = some (xs.flatMap cellsOf, xs.length) := by simp [cellsY, h.lend]
theorem hget_cons_ne {H : Heap} {b c : Nat} {cs : List PV} (h : hget H b = none) (hc : hget ((c, cs) :: H) b = none) : c ≠ b := by
  intro e
  simp [hget, e] at hc
theorem hget_cons_none {H : Heap} {b c : Nat} {cs : List PV} : hget ((c, cs) :: H) b = none ↔ c ≠ b ∧ hget H b = none := by
  simp only [hget]
  by_cases e : c = b <;> simp [e]
/-- Cells in the midst. -/
theorem mid_get {A B : List PV} {c : PV} {o : Nat} (h : A.length = o) : (A ++ c :: B)[o]? = some c := by
  subst h
  simp
theorem mid_get1 {A B : List PV} {c0 c : PV} {o : Nat} (h : A.length = o) : (A ++ c0 :: c :: B)[o + 1]? = some c := by
  subst h
  simp
theorem mid_get2 {A B : List PV} {c0 c1 c : PV} {o : Nat} (h : A.length = o) : (A ++ c0 :: c1 :: c :: B)[o + 2]? = some c := by
  subst h
  simp
theorem mid_set {A B : List PV} {c v : PV} {o : Nat} (h : A.length = o) : (A ++ c :: B).take o ++ [v] ++ (A ++ c :: B).drop (o + 1) = A ++ v :: B := by
  subst h
  simp
theorem mid_drop {A B : List PV} {c : PV} {o : Nat} (h : A.length = o) : (A ++ c :: B).drop (o + 1) = B := by
  subst h
  simp
theorem frzL_append (b : Nat) (f : Nat → Nat → Option PV) (q : Nat → Option PV) (xs ys : List PV) : frzL b f q (xs ++ ys) = frzL b f q xs ++ frzL b f q ys := by simp [frzL_eq_map]
theorem frzH_id {b : Nat} {f : Nat → Nat → Option PV} {q : Nat → Option PV} {L : List Nat} : ∀ {H : Heap}, hget H b = none → (∀ x ∈ L, hget H x = none) → frzH b f q L H = H
  | [], _, _ => rfl
  | (c, cs) :: H, hb, hx => by
    obtain ⟨h1, h2⟩ := hget_cons_none.1 hb
    have hc : L.contains c = false := by
      cases h : L.contains c with
      | false => rfl
      | true =>
        have := hx c (by simpa using h)
        simp [hget] at this
    simp only [frzH, if_neg h1, hc]
    rw [frzH_id h2 (fun x hm => (hget_cons_none.1 (hx x hm)).2)]
    rfl
def frzA (b : Nat) (f : Nat → Nat → Option PV) (q : Nat → Option PV) : List (Nat × PV) → List (Nat × PV)
  | [] => []
  | (i, x) :: l => (i, frz b f q x) :: frzA b f q l
theorem getS_frzA (b : Nat) (f : Nat → Nat → Option PV) (q : Nat → Option PV) (i : Nat) : ∀ l, getS (frzA b f q l) i = frz b f q (getS l i)
  | [] => rfl
  | (j, x) :: l => by
    simp only [frzA, getS]
    split
    · rfl
    · exact getS_frzA b f q i l
theorem frzL_MS (b : Nat) (f : Nat → Nat → Option PV) (q : Nat → Option PV) (n : Nat) (l : List (Nat × PV)) : frzL b f q (MS n l) = MS n (frzA b f q l) := by
  rw [frzL_eq_map]
  unfold MS
  rw [List.map_map]
  apply List.map_congr_left
  intro i _
  exact (getS_frzA b f q i l).symm
theorem mid_set1 {A B : List PV} {c0 c v : PV} {o : Nat} (h : A.length = o) : (A ++ c0 :: c :: B).take (o + 1) ++ [v] ++ (A ++ c0 :: c :: B).drop (o + 1 + 1) = A ++ c0 :: v :: B := by
  have := mid_set (A := A ++ [c0]) (B := B) (c := c) (v := v) (o := o + 1) (by simp [h])
  simpa using this
theorem mid_set2 {A B : List PV} {c0 c1 c v : PV} {o : Nat} (h : A.length = o) : (A ++ c0 :: c1 :: c :: B).take (o + 2) ++ [v] ++ (A ++ c0 :: c1 :: c :: B).drop (o + 2 + 1) = A ++ c0 :: c1 :: v :: B := by
  have := mid_set (A := A ++ [c0, c1]) (B := B) (c := c) (v := v) (o := o + 2) (by simp [h])
  simpa using this
end Go.Proofs.YtdphjapaoaokmaaDoor.E
/- A logic of plain values, part 36: regions whose order is drawn, in which variables are made. -/
namespace Go.Proofs.YtdphjapaoaokmaaDoor.E
open Go Go.RowKit
set_option linter.unusedVariables false
set_option linter.unusedSimpArgs false
variable {dq : List Deferred}
/-! ## blocks ahead of others -/
theorem hget_app {X H : Heap} {b : Nat} : hget (X ++ H) b = (match hget X b with | some cs => some cs | none => hget H b) := by
  induction X with
  | nil => rfl
  | cons p X ih =>
    obtain ⟨c, cs⟩ := p
    simp only [List.cons_append, hget]
    split
    · rfl
    · exact ih
theorem hset_app_right {X H : Heap} {b : Nat} {ds : List PV} (h : hget X b = none) : hset (X ++ H) b ds = X ++ hset H b ds := by
  induction X with
  | nil => rfl
  | cons p X ih =>
    obtain ⟨c, cs⟩ := p
    obtain ⟨h1, h2⟩ := hget_cons_none.1 h
    simp only [List.cons_append, hset, if_neg h1, ih h2]
theorem hset_app_left {X H : Heap} {b : Nat} {cs ds : List PV} (h : hget X b = some cs) : hset (X ++ H) b ds = hset X b ds ++ H := by
  induction X with
  | nil => cases h
  | cons p X ih =>
    obtain ⟨c, es⟩ := p
    simp only [hget] at h
    simp only [List.cons_append, hset]
    split
    · rfl
    · rename_i hne
      rw [if_neg hne] at h
      simp only [List.cons_append, ih h]
def Apart (X H : Heap) : Prop := ∀ b cs, hget H b = some cs → hget X b = none
theorem Apart.get {X H : Heap} (h : Apart X H) {b : Nat} {cs : List PV} (hb : hget H b = some cs) : hget (X ++ H) b = some cs := by
  rw [hget_app, h b cs hb]
  exact hb
theorem apart_of_HRel {w : World} {g : Ghost} : ∀ {X H : Heap}, HRel w g (X ++ H) → Apart X H
  | [], H, _ => fun b cs _ => rfl
  | (c, ds) :: X, H, h => fun b cs hb => by
    obtain ⟨h0, _, _, _, h4⟩ := h
    have ih := apart_of_HRel h4 b cs hb
    refine hget_cons_none.2 ⟨fun e => ?_, ih⟩
    subst e
    have h1 : hget (X ++ H) c = none := h0
    rw [hget_app, ih] at h1
    rw [hb] at h1
    cases h1
section
variable {P : Program} {op : POp} {st : List PV} {H H' X : Heap} {f : List PV → List PV}
theorem cellsY_app {sz : Nat} (hA : Apart X H) {p : PV} {r : List PV × Nat} (h : cellsY sz H p = some r) : cellsY sz (X ++ H) p = some r := by
  cases p with
  | row b off len cap =>
    simp only [cellsY] at h ⊢
    obtain ⟨cs, h1, h2⟩ := bind_spec h
    rw [hA.get h1]
    exact h2
  | _ => exact h
theorem Ev0_frame (hA : Apart X H) (hE : Ev0 P op st H f H') : Ev0 P op st (X ++ H) f (X ++ H') := by
  obtain ⟨d, gd, k⟩ := op
  unfold Ev0 at hE ⊢
  have pure_ : isLd k = false → (∃ r, pev st H k = some r ∧ f = (fun s => putSt (ptake s k) d r) ∧ H' = H) → ∃ r, pev st (X ++ H) k = some r ∧ f = (fun s => putSt (ptake s k) d r) ∧ X ++ H' = X ++ H := by
    rintro hk ⟨r, h1, h2, rfl⟩
    exact ⟨r, by rw [← h1]; exact pev_same (fun _ _ => rfl) (.inl hk), h2, rfl⟩
  cases k with
  | al z => exact hE.elim
  | bx s x => exact hE.elim
  | appR s b z x y => exact hE.elim
  | clr s z x => exact hE.elim
  | cap x => exact hE.elim
  | ld s ag tk x =>
    cases tk with
    | true =>
      obtain ⟨b, off, cs, r, h1, h2, h3, h4, h5, rfl⟩ := hE
      exact ⟨b, off, cs, r, h1, hA.get h2, h3, h4, h5, (hset_app_right (hA _ _ h2)).symm⟩
    | false =>
      obtain ⟨r, h1, h2, rfl⟩ := hE
      refine ⟨r, ?_, h2, rfl⟩
      simp only [pev, ldP] at h1 ⊢
      split at h1
      · exact h1
      · rename_i b off e
        obtain ⟨cs, h3, h4⟩ := bind_spec h1
        simp only [hA.get h3, Option.bind_some]
        exact h4
      · cases h1
  | mk s b ag z l c mu =>
    cases mu with
    | true => exact hE.elim
    | false => exact pure_ rfl hE
  | bsl s n ag z ps mu =>
    cases mu with
    | true => exact hE.elim
    | false => exact pure_ rfl hE
  | sto s x v =>
    obtain ⟨b, off, cs, h1, h2, h3, h4, h5, h6, rfl⟩ := hE
    exact ⟨b, off, cs, h1, hA.get h2, h3, h4, h5, h6, (hset_app_right (hA _ _ h2)).symm⟩
  | cpy s x y =>
    obtain ⟨b, off, n, cap, cs, ys, m, h1, h2, h3, h4, h5, rfl⟩ := hE
    exact ⟨b, off, n, cap, cs, ys, m, h1, hA.get h2, h3, cellsY_app hA h4, h5, (hset_app_right (hA _ _ h2)).symm⟩
  | callF n xs tk =>
    obtain ⟨r, h1, h2, rfl⟩ := hE
    exact ⟨r, h1, h2, rfl⟩
  | callV fx xs =>
    obtain ⟨n, first, cap, r, h1, h2, h3, rfl⟩ := hE
    exact ⟨n, first, cap, r, h1, h2, h3, rfl⟩
  | _ => exact pure_ rfl hE
theorem Ev_frame (hA : Apart X H) (hE : Ev P op st H f H') : Ev P op st (X ++ H) f (X ++ H') := by
  unfold Ev at hE ⊢
  split at hE
  · exact Ev0_frame hA hE
  · rename_i t want h
    obtain ⟨b, hb, hE⟩ := hE
    refine ⟨b, hb, ?_⟩
    split at hE
    · rename_i hw; rw [if_pos hw]; exact Ev0_frame hA hE
    · rename_i hw; rw [if_neg hw]; exact ⟨hE.1, by rw [hE.2]⟩
/-- The slots may be others, where the operation does not look. -/
theorem Ev_slots {st' : List PV} (h : Same (readsOf op) st st') (hE : Ev P op st H f H') : Ev P op st' H f H' := by
  obtain ⟨H2', q1, q2, q3⟩ := Ev_same (H2 := H) h hE (fun _ => rfl) (fun _ _ r h => h)
  cases hs : isSto op.k with
  | true => rw [← q3 hs]; exact q1
  | false =>
    obtain ⟨e1, e2⟩ := q2 hs
    rw [e2] at q1
    rw [e1]
    exact q1
end
/-! ## the order of the blocks -/
theorem hget_none_mem {H : Heap} {b : Nat} : hget H b = none ↔ ∀ p ∈ H, p.1 ≠ b := by
  induction H with
  | nil => simp [hget]
  | cons p H ih =>
    obtain ⟨c, cs⟩ := p
    rw [hget_cons_none, ih]
    simp
def HOk (w : World) (g : Ghost) (p : Nat × List PV) : Prop := g p.1 = .mut ∧ p.2.all PV.isCell = true ∧ (∃ c e, w.heap[p.1]? = some (.cells c e (0, 0)) ∧ VRl true w g p.2 c.toList)
theorem HRel_iff {w : World} {g : Ghost} : ∀ {H : Heap}, HRel w g H ↔ (H.map (·.1)).Nodup ∧ (∀ p ∈ H, HOk w g p) ∧ GL w g
  | [] => by simp [HRel]
  | (b, cs) :: H => by
    simp only [HRel, HRel_iff (H := H), List.map_cons, List.nodup_cons, hget_none_mem]
    constructor
    · rintro ⟨h0, h1, h2, h3, h4, h5, h6⟩
      refine ⟨⟨fun hm => ?_, h4⟩, fun p hp => ?_, h6⟩
      · obtain ⟨p, hp, e⟩ := List.mem_map.1 hm
        exact h0 p hp e
      · rcases List.mem_cons.1 hp with rfl | hp
        · exact ⟨h1, h2, h3⟩
        · exact h5 p hp
    · rintro ⟨⟨h0, h4⟩, h5, h6⟩
      obtain ⟨h1, h2, h3⟩ := h5 (b, cs) (List.mem_cons_self ..)
      exact ⟨fun p hp e => h0 (List.mem_map.2 ⟨p, hp, e⟩), h1, h2, h3, h4, fun p hp => h5 p (List.mem_cons_of_mem _ hp), h6⟩
theorem toksH_flat (w : World) : ∀ H : Heap, toksH w H = H.flatMap fun p => toksB w p.1 p.2
  | [] => rfl
  | (b, cs) :: H => by simp [toksH, toksH_flat w H]
theorem Rel_perm {out : List Nat} {st : List PV} {H H2 : Heap} {a : Act} {w : World} {g : Ghost} (h : Rel dq out st H a w g) (hp : H.Perm H2) : Rel dq out st H2 a w g := by
  obtain ⟨h1, h2, h3⟩ := HRel_iff.1 h.hp
  refine ⟨h.wr, HRel_iff.2 ⟨(hp.map _).nodup_iff.1 h1, fun p hm => h2 p (hp.mem_iff.2 hm), h3⟩, h.tm, fun b => ?_, h.df⟩
  have e : (toksH w H2).count b = (toksH w H).count b := by
    rw [toksH_flat, toksH_flat]
    exact ((hp.flatMap_right _).count_eq b).symm
  rw [e]
  exact h.un b
/-! ## what stands for the new variables -/
abbrev Nw := Nat × Nat × Nat × Nat
def matS : List (Nw × Nat) → List PV → List PV
  | [], st => st
  | (e, b) :: o, st => (matS o st).set e.2.2.1 (.ptr (some (b, 0)))
def zerosOf (ps : List POp) (e : Nw) : List PV := match (ps.getD e.1 default).k with | .al cs => cs | _ => []
def matH (ps : List POp) (l : Nat → Bool) (st : List PV) : List (Nw × Nat) → Heap
  | [] => []
  | (e, b) :: o => (b, if l e.2.1 then cellsOf (st.getD e.2.2.1 .unit) else zerosOf ps e) :: matH ps l st o
theorem matS_length : ∀ (o : List (Nw × Nat)) (st : List PV), (matS o st).length = st.length
  | [], st => rfl
  | (e, b) :: o, st => by simp [matS, matS_length o st]
theorem matS_obs : ∀ (o : List (Nw × Nat)) (st : List PV) (n : Nat), (∀ p ∈ o, p.1.2.2.1 ≠ n / 2) → obs (matS o st) n = obs st n
  | [], st, n, _ => rfl
  | (e, b) :: o, st, n, h => by
    rw [matS, obs_set, if_neg (fun e2 => h (e, b) (List.mem_cons_self ..) e2.symm)]
    exact matS_obs o st n fun p hp => h p (List.mem_cons_of_mem _ hp)
theorem matS_set : ∀ (o : List (Nw × Nat)) (st : List PV) (d : Nat) (x : PV), (∀ p ∈ o, p.1.2.2.1 ≠ d) → matS o (st.set d x) = (matS o st).set d x
  | [], st, d, x, _ => rfl
  | (e, b) :: o, st, d, x, h => by
    rw [matS, matS, matS_set o st d x (fun p hp => h p (List.mem_cons_of_mem _ hp))]
    exact List.set_comm _ _ (Ne.symm (h (e, b) (List.mem_cons_self ..)))
/-- A slot that is set anyway. -/
theorem matS_over : ∀ (o : List (Nw × Nat)) (st : List PV) (d : Nat) (x : PV), (∃ p ∈ o, p.1.2.2.1 = d) → matS o (st.set d x) = matS o st
  | [], st, d, x, h => by obtain ⟨p, hp, _⟩ := h; cases hp
  | (e, b) :: o, st, d, x, h => by
    by_cases hin : ∃ p ∈ o, p.1.2.2.1 = d
    · rw [matS, matS, matS_over o st d x hin]
    · have hno : ∀ p ∈ o, p.1.2.2.1 ≠ d := fun p hp e2 => hin ⟨p, hp, e2⟩
      have hd : e.2.2.1 = d := by
        obtain ⟨p, hp, e2⟩ := h
        rcases List.mem_cons.1 hp with rfl | hp
        · exact e2
        · exact absurd e2 (hno p hp)
      rw [matS, matS, matS_set o st d x hno, hd, List.set_set]
theorem slot_set {f : List PV → List PV} {ws : List Nat} (hf : Slotwise f ws) {d : Nat} (h1 : 2 * d ∉ ws) (h2 : 2 * d + 1 ∉ ws) (s : List PV) (x : PV) : f (s.set d x) = (f s).set d x := by
  apply ext_obs
  intro n
  have hlen : d < (f s).length ↔ d < s.length := by
    have := obs_lt (hf.rest s (2 * d) h1)
    have e : 2 * d / 2 = d := by omega
    rwa [e] at this
  by_cases hn : n / 2 = d
  · have hnw : n ∉ ws := by
      have : n = 2 * d ∨ n = 2 * d + 1 := by omega
      rcases this with rfl | rfl <;> assumption
    rw [hf.rest _ n hnw, obs_set, obs_set, if_pos hn, if_pos hn]
    by_cases hd : d < s.length
    · rw [if_pos hd, if_pos (hlen.2 hd)]
    · rw [if_neg hd, if_neg (fun h => hd (hlen.1 h))]
  · rw [obs_set, if_neg hn]
    refine hf.slot _ _ n ?_
    rw [obs_set, if_neg hn]
theorem matS_slot {f : List PV → List PV} {ws : List Nat} (hf : Slotwise f ws) : ∀ (o : List (Nw × Nat)) (st : List PV), (∀ p ∈ o, 2 * p.1.2.2.1 ∉ ws ∧ 2 * p.1.2.2.1 + 1 ∉ ws) → f (matS o st) = matS o (f st)
  | [], st, _ => rfl
  | (e, b) :: o, st, h => by
    obtain ⟨h1, h2⟩ := h (e, b) (List.mem_cons_self ..)
    rw [matS, matS, slot_set hf h1 h2, matS_slot hf o st fun p hp => h p (List.mem_cons_of_mem _ hp)]
theorem getD_of_obs {s s' : List PV} {d : Nat} (h : obs s (2 * d + 1) = obs s' (2 * d + 1)) : s.getD d .unit = s'.getD d .unit := by
  rw [obs_odd, obs_odd] at h
  simp only [List.getD_eq_getElem?_getD, h]
theorem matH_congr {ps : List POp} {l l' : Nat → Bool} {st st' : List PV} : ∀ (o : List (Nw × Nat)), (∀ p ∈ o, l p.1.2.1 = l' p.1.2.1 ∧ st.getD p.1.2.2.1 .unit = st'.getD p.1.2.2.1 .unit) → matH ps l st o = matH ps l' st' o
  | [], _ => rfl
  | (e, b) :: o, h => by
    obtain ⟨h1, h2⟩ := h (e, b) (List.mem_cons_self ..)
    rw [matH, matH, h1, h2, matH_congr o fun p hp => h p (List.mem_cons_of_mem _ hp)]
theorem matH_keys (ps : List POp) (l : Nat → Bool) (st : List PV) : ∀ o : List (Nw × Nat), (matH ps l st o).map (·.1) = o.map (·.2)
  | [] => rfl
  | (e, b) :: o => by simp [matH, matH_keys ps l st o]
/-- The rest, for whatever blocks the new variables have. -/
def newK : List Nw → (List PV → Heap → Prop) → List PV → Heap → Prop
  | [], K, st, H => K st H
  | e :: nw, K, st, H => ∀ b, hget H b = none → newK nw K (st.set e.2.2.1 (.ptr (some (b, 0)))) ((b, cellsOf (st.getD e.2.2.1 .unit)) :: H)
theorem nodup_inj {α β : Type} {f : α → β} : ∀ {l : List α}, (l.map f).Nodup → ∀ {a b : α}, a ∈ l → b ∈ l → f a = f b → a = b
  | [], _, a, b, ha, _, _ => by cases ha
  | x :: l, h, a, b, ha, hb, e => by
    rw [List.map_cons, List.nodup_cons] at h
    rcases List.mem_cons.1 ha with h1 | h1 <;> rcases List.mem_cons.1 hb with h2 | h2
    · rw [h1, h2]
    · exact absurd (List.mem_map.2 ⟨b, h2, by rw [← e, h1]⟩) h.1
    · exact absurd (List.mem_map.2 ⟨a, h1, by rw [e, h2]⟩) h.1
    · exact nodup_inj h.2 h1 h2 e
theorem newOk_spec {ps : List POp} {e : Nw} (h : newOk ps e = true) : ∃ cs v, ps[e.1]? = some ⟨some e.2.2.1, none, .al cs⟩ ∧ ps[e.2.1]? = some ⟨none, none, .sto e.2.2.2 (.t e.2.2.1) v⟩ ∧ cs.length = e.2.2.2 ∧ cs.all PV.isCell = true ∧
    (∀ x, v = .t x → x ≠ e.2.2.1) ∧ e.1 < e.2.1 ∧ ∀ i, i < ps.length → i ≠ e.1 → i ≠ e.2.1 → ∀ t ∈ readsOf (ps.getD i default) ++ writesOf (ps.getD i default), t ≠ 2 * e.2.2.1 ∧ t ≠ 2 * e.2.2.1 + 1 := by
  unfold newOk at h
  split at h
  · rename_i d cs sz t v e1 e2
    simp only [Bool.and_eq_true, beq_iff_eq, decide_eq_true_eq, List.all_eq_true, List.mem_range, Bool.or_eq_true, Bool.not_eq_true'] at h
    obtain ⟨⟨⟨⟨⟨⟨⟨h1, h2⟩, h3⟩, h4⟩, h5⟩, h6⟩, h7⟩, h8⟩ := h
    subst h1 h2 h4
    refine ⟨cs, v, e1, e2, h3, List.all_eq_true.2 h6, fun x hx => ?_, h7, fun i hi n1 n2 t ht => ?_⟩
    · subst hx
      simpa using h5
    · rcases h8 i hi with (h8 | h8) | h8
      · exact absurd h8 n1
      · exact absurd h8 n2
      · simp only [touches, Bool.or_eq_false_iff, List.contains_eq_mem, decide_eq_false_iff_not] at h8
        exact ⟨fun e3 => h8.1 (e3 ▸ ht), fun e3 => h8.2 (e3 ▸ ht)⟩
  · cases h
theorem virt_get {news : List Nw} {ps : List POp} {i : Nat} {p : POp} (h : ps[i]? = some p) : (virt news ps)[i]? = some (virtOp news i p) := by
  have hi : i < ps.length := (List.getElem?_eq_some_iff.1 h).1
  unfold virt
  rw [List.getElem?_map, List.getElem?_range hi]
  simp only [Option.map_some, List.getD_eq_getElem?_getD, h, Option.getD_some]
theorem virt_length (news : List Nw) (ps : List POp) : (virt news ps).length = ps.length := by simp [virt]
theorem obs_takeAt (st : List PV) (v : Arg) (n : Nat) (h : ∀ x, v = .t x → n / 2 ≠ x) : obs (takeAt st v) n = obs st n := by
  cases v with
  | c _ => rfl
  | t x => rw [takeAt, obs_set, if_neg (h x rfl)]
theorem matS_getD : ∀ (o : List (Nw × Nat)) (st : List PV) (e : Nw) (b : Nat), (e, b) ∈ o → (o.map (·.1.2.2.1)).Nodup → e.2.2.1 < st.length → (matS o st).getD e.2.2.1 .unit = .ptr (some (b, 0))
  | [], st, e, b, h, _, _ => by cases h
  | (e1, b1) :: o, st, e, b, h, hn, hl => by
    rw [List.map_cons, List.nodup_cons] at hn
    rcases List.mem_cons.1 h with h | h
    · cases h
      rw [matS, List.getD_eq_getElem?_getD, List.getElem?_set, if_pos rfl, if_pos (by rw [matS_length]; exact hl)]
      rfl
    · have hne : e1.2.2.1 ≠ e.2.2.1 := fun e2 => hn.1 (List.mem_map.2 ⟨(e, b), h, e2.symm⟩)
      rw [matS, List.getD_eq_getElem?_getD, List.getElem?_set, if_neg hne, ← List.getD_eq_getElem?_getD]
      exact matS_getD o st e b h hn.2 hl
theorem matH_get (ps : List POp) (l : Nat → Bool) (st : List PV) : ∀ (o : List (Nw × Nat)) (e : Nw) (b : Nat), (e, b) ∈ o → (o.map (·.2)).Nodup → hget (matH ps l st o) b = some (if l e.2.1 then cellsOf (st.getD e.2.2.1 .unit) else zerosOf ps e)
  | [], e, b, h, _ => by cases h
  | (e1, b1) :: o, e, b, h, hn => by
    rw [List.map_cons, List.nodup_cons] at hn
    rcases List.mem_cons.1 h with h | h
    · cases h
      simp [matH, hget]
    · have hne : b1 ≠ b := fun e2 => hn.1 (List.mem_map.2 ⟨(e, b), h, e2.symm⟩)
      rw [matH, hget, if_neg hne]
      exact matH_get ps l st o e b h hn.2
theorem matH_store (ps : List POp) (l : Nat → Bool) (st st' : List PV) (cs : List PV) (k : Nat) : ∀ (o : List (Nw × Nat)) (e : Nw) (b : Nat), (e, b) ∈ o → (o.map (·.2)).Nodup → (o.map (·.1)).Nodup → e.2.1 = k → cellsOf (st'.getD e.2.2.1 .unit) = cs →
    (∀ p ∈ o, p.1 ≠ e → p.1.2.1 ≠ k ∧ st.getD p.1.2.2.1 .unit = st'.getD p.1.2.2.1 .unit) → hset (matH ps l st o) b cs = matH ps (fun i => l i || i == k) st' o
  | [], e, b, h, _, _, _, _, _ => by cases h
  | (e1, b1) :: o, e, b, h, hn, hn2, hk, hc, hoth => by
    rw [List.map_cons, List.nodup_cons] at hn hn2
    rcases List.mem_cons.1 h with h | h
    · cases h
      have : matH ps l st o = matH ps (fun i => l i || i == k) st' o := matH_congr o fun p hp => by
        have hpe : p.1 ≠ e1 := fun e2 => hn2.1 (List.mem_map.2 ⟨p, hp, e2⟩)
        obtain ⟨h1, h2⟩ := hoth p (List.mem_cons_of_mem _ hp) hpe
        refine ⟨?_, h2⟩
        have : (p.1.2.1 == k) = false := by simpa using h1
        simp [this]
      simp only [matH, hset, if_pos, hk, beq_self_eq_true, Bool.or_true, hc, this]
    · have hne : b1 ≠ b := fun e2 => hn.1 (List.mem_map.2 ⟨(e, b), h, e2.symm⟩)
      have hpe : e1 ≠ e := fun e2 => hn2.1 (List.mem_map.2 ⟨(e, b), h, e2.symm⟩)
      obtain ⟨h1, h2⟩ := hoth (e1, b1) (List.mem_cons_self ..) hpe
      have h1' : (e1.2.1 == k) = false := by simpa using h1
      rw [matH, matH, hset, if_neg hne, matH_store ps l st st' cs k o e b h hn.2 hn2.2 hk hc (fun p hp => hoth p (List.mem_cons_of_mem _ hp))]
      simp only at h2
      simp only [h1', Bool.or_false, h2]
theorem newK_perm (ps : List POp) (l : Nat → Bool) (hl : ∀ k, l k = true) (bl : Nw → Nat) : ∀ (news : List Nw) (K : List PV → Heap → Prop) (st : List PV) (H : Heap), newK news K st H → (news.map (·.2.2.1)).Nodup → (news.map bl).Nodup → (∀ e ∈ news, hget H (bl e) = none) →
    K (matS (news.reverse.map fun e => (e, bl e)) st) (matH ps l st (news.reverse.map fun e => (e, bl e)) ++ H)
  | [], K, st, H, h, _, _, _ => h
  | e :: nw, K, st, H, h, hd, hb, hH => by
    rw [List.map_cons, List.nodup_cons] at hd hb
    have h1 := h (bl e) (hH e (List.mem_cons_self ..))
    have h2 := newK_perm ps l hl bl nw K _ _ h1 hd.2 hb.2 (fun e' he' => hget_cons_none.2 ⟨fun e2 => hb.1 (List.mem_map.2 ⟨e', he', e2.symm⟩), hH e' (List.mem_cons_of_mem _ he')⟩)
    have hds : ∀ p ∈ (nw.reverse.map fun e => (e, bl e)), p.1.2.2.1 ≠ e.2.2.1 := fun p hp => by
      obtain ⟨e', he', rfl⟩ := List.mem_map.1 hp
      exact fun e2 => hd.1 (List.mem_map.2 ⟨e', List.mem_reverse.1 he', e2⟩)
    rw [matS_set _ _ _ _ hds] at h2
    have e1 : matS ((e :: nw).reverse.map fun e => (e, bl e)) st = (matS (nw.reverse.map fun e => (e, bl e)) st).set e.2.2.1 (.ptr (some (bl e, 0))) := by
      have : ∀ (o : List (Nw × Nat)) (s : List PV), (∀ p ∈ o, p.1.2.2.1 ≠ e.2.2.1) → matS (o ++ [(e, bl e)]) s = (matS o s).set e.2.2.1 (.ptr (some (bl e, 0))) := by
        intro o
        induction o with
        | nil => intro s _; rfl
        | cons p o ih =>
          intro s hp
          obtain ⟨e', b'⟩ := p
          rw [List.cons_append, matS, matS, ih s (fun p hp' => hp p (List.mem_cons_of_mem _ hp'))]
          exact (List.set_comm _ _ (hp (e', b') (List.mem_cons_self ..))).symm
      rw [List.reverse_cons, List.map_append]
      exact this _ _ hds
    have e2 : matH ps l st ((e :: nw).reverse.map fun e => (e, bl e)) ++ H = matH ps l (st.set e.2.2.1 (.ptr (some (bl e, 0)))) (nw.reverse.map fun e => (e, bl e)) ++ (bl e, cellsOf (st.getD e.2.2.1 .unit)) :: H := by
      have : ∀ (o : List (Nw × Nat)) (s : List PV), matH ps l s (o ++ [(e, bl e)]) = matH ps l s o ++ [(bl e, cellsOf (s.getD e.2.2.1 .unit))] := by
        intro o s
        induction o with
        | nil => simp [matH, hl]
        | cons p o ih => obtain ⟨e', b'⟩ := p; rw [List.cons_append, matH, matH, ih]; rfl
      rw [List.reverse_cons, List.map_append]
      simp only [List.map_cons, List.map_nil]
      rw [this, List.append_assoc]
      congr 1
      exact matH_congr _ fun p hp => ⟨rfl, by
        rw [List.getD_eq_getElem?_getD, List.getD_eq_getElem?_getD, List.getElem?_set, if_neg (fun e3 => hds p hp e3.symm)]⟩
    rw [e1, e2]
    exact h2
theorem matS_perm : ∀ {o o2 : List (Nw × Nat)}, o.Perm o2 → (o.map (·.1.2.2.1)).Nodup → ∀ st, matS o st = matS o2 st
  | _, _, .nil, _, st => rfl
  | _, _, .cons p h, hn, st => by
    rw [List.map_cons, List.nodup_cons] at hn
    rw [matS, matS, matS_perm h hn.2 st]
  | _, _, .swap p q o, hn, st => by
    simp only [List.map_cons, List.nodup_cons, List.mem_cons, not_or] at hn
    rw [matS, matS, matS, matS]
    exact List.set_comm _ _ (Ne.symm hn.1.1)
  | _, _, .trans h1 h2, hn, st => by
    rw [matS_perm h1 hn st]
    exact matS_perm h2 ((h1.map _).nodup_iff.1 hn) st
theorem matH_perm (ps : List POp) (l : Nat → Bool) (st : List PV) : ∀ {o o2 : List (Nw × Nat)}, o.Perm o2 → (matH ps l st o).Perm (matH ps l st o2)
  | _, _, .nil => .nil
  | _, _, .cons p h => by rw [matH, matH]; exact .cons _ (matH_perm ps l st h)
  | _, _, .swap p q o => by rw [matH, matH, matH, matH]; exact .swap _ _ _
  | _, _, .trans h1 h2 => (matH_perm ps l st h1).trans (matH_perm ps l st h2)
theorem virt_sto {news : List Nw} {ps : List POp} (hspec : ∀ e ∈ news, ∃ cs v, ps[e.1]? = some ⟨some e.2.2.1, none, .al cs⟩ ∧ ps[e.2.1]? = some ⟨none, none, .sto e.2.2.2 (.t e.2.2.1) v⟩ ∧ cs.length = e.2.2.2 ∧ cs.all PV.isCell = true ∧
    (∀ x, v = .t x → x ≠ e.2.2.1) ∧ e.1 < e.2.1 ∧ ∀ i, i < ps.length → i ≠ e.1 → i ≠ e.2.1 → ∀ t ∈ readsOf (ps.getD i default) ++ writesOf (ps.getD i default), t ≠ 2 * e.2.2.1 ∧ t ≠ 2 * e.2.2.1 + 1)
    (hnd : (news.map (·.2.2.1)).Nodup) {e : Nw} (he : e ∈ news) {v : Arg} : virtOp news e.2.1 ⟨none, none, .sto e.2.2.2 (.t e.2.2.1) v⟩ = ⟨some e.2.2.1, none, .mvc e.2.2.2 v⟩ := by
  unfold virtOp
  simp only
  cases hf : news.find? (fun x => x.2.1 == e.2.1) with
  | none =>
    have := List.find?_eq_none.1 hf e he
    simp at this
  | some e' =>
    have h1 := List.find?_some hf
    have h2 := List.mem_of_find?_eq_some hf
    simp only [beq_iff_eq] at h1
    obtain ⟨_, v1, _, g1, _⟩ := hspec e he
    obtain ⟨_, v2, _, g2, _⟩ := hspec e' h2
    rw [h1, g1] at g2
    simp only [Option.some.injEq, POp.mk.injEq, PK.sto.injEq, Arg.t.injEq, true_and] at g2
    have := nodup_inj hnd he h2 g2.2.1
    subst this
    rfl
theorem nodup_of_map {α β : Type} {f : α → β} : ∀ {l : List α}, (l.map f).Nodup → l.Nodup
  | [], _ => List.nodup_nil
  | x :: l, h => by
    rw [List.map_cons, List.nodup_cons] at h
    rw [List.nodup_cons]
    exact ⟨fun hm => h.1 (List.mem_map.2 ⟨x, hm, rfl⟩), nodup_of_map h.2⟩
theorem block_of : ∀ ord : List (Nw × Nat), (ord.map (·.1)).Nodup → ∃ bl : Nw → Nat, ∀ p ∈ ord, bl p.1 = p.2
  | [], _ => ⟨fun _ => 0, fun p h => by cases h⟩
  | (e, b) :: o, h => by
    rw [List.map_cons, List.nodup_cons] at h
    obtain ⟨bl, hb⟩ := block_of o h.2
    refine ⟨fun e' => if e' = e then b else bl e', fun p hp => ?_⟩
    rcases List.mem_cons.1 hp with rfl | hp
    · simp
    · have : p.1 ≠ e := fun e2 => h.1 (List.mem_map.2 ⟨p, hp, e2⟩)
      simp only [if_neg this]
      exact hb p hp
theorem nodup_map_on {α β : Type} {f : α → β} : ∀ {l : List α}, l.Nodup → (∀ a ∈ l, ∀ b ∈ l, f a = f b → a = b) → (l.map f).Nodup
  | [], _, _ => List.nodup_nil
  | x :: l, h, hi => by
    rw [List.nodup_cons] at h
    rw [List.map_cons, List.nodup_cons]
    refine ⟨fun hm => ?_, nodup_map_on h.2 fun a ha b hb => hi a (List.mem_cons_of_mem _ ha) b (List.mem_cons_of_mem _ hb)⟩
    obtain ⟨y, hy, e⟩ := List.mem_map.1 hm
    have := hi y (List.mem_cons_of_mem _ hy) x (List.mem_cons_self ..) e
    subst this
    exact h.1 hy
section
variable {P : Program} {Q : PPost} {st : List PV} {H : Heap}
/-- A region whose order is drawn, in which variables are made. -/
theorem pwp_drawN (hmix : P.follows .mixedOrders = true) {vops : List POp} {late : List (Nat × Nat)} {news : List Nw} (hsl : ∀ e ∈ news, e.2.2.1 < st.length)
    (h : planOps P late vops 0 [] [] (newK news fun st' H' => Q .normal st' H') st H) : pwp P (.drawN vops late news) Q st H := by
  intro hh c hc rr hrr dq out a w g hR
  cases c <;> simp only [compC] at hc
  case region id os draw =>
    obtain ⟨ps, q1, hc⟩ := bind_spec hc
    split at hc
    · rename_i hd
      rcases compD_cases hc with ⟨l, q2, hc⟩ | ⟨l, q2, hc, hok, hals, hnd⟩
      · cases hc
      cases hc
      subst hd
      obtain ⟨hlen, hgt0⟩ := compOps_get q1
      obtain ⟨d1, d2⟩ := drew_rel hR
      have hpl : ps.length = os.size := hlen
      generalize hnews : newsOf ps = news at *
      have hspec := fun e he => newOk_spec (hok e he)
      refine any_WR postOf_in hrr hmix (draw_core (R := fun l st' H' a' w' => ∃ g' ord, Rel dq out (matS ord st') (matH ps l st' ord ++ H') a' w' g' ∧ Evol out w g w' g' ∧ (∀ e ∈ news, l e.1 = true ↔ e ∈ ord.map (·.1)) ∧ (∀ p ∈ ord, p.1 ∈ news) ∧ (ord.map (·.1)).Nodup ∧ (∀ e ∈ news, e.2.2.1 < st'.length))
        (by rw [virt_length]; exact hpl) q2 h ⟨g, [], d1, d2, fun e he => by simp, fun p hp => (by cases hp), by simp, hsl⟩ ?_ ?_)
      · rintro j o q l st1 H1 f H' a1 w1 N ho hq ⟨g1, ord, hR1, hE1, hiff, hmem, hnd1, hsl1⟩ hEv hlj hdn hup hN
        have hjlt : j < ps.length := by rw [hpl]; exact (Array.getElem?_eq_some_iff.1 ho).1
        have hp : ps[j]? = some ps[j] := List.getElem?_eq_getElem hjlt
        generalize hpj : ps[j] = p at hp
        rw [virt_get hp, Option.some.injEq] at hq
        obtain ⟨p', k1, k2, k3, k4⟩ := hgt0 j o (by rw [Array.getElem?_toList]; exact ho)
        rw [hp] at k1
        cases k1
        have hgetD : ps.getD j default = p := by rw [List.getD_eq_getElem?_getD, hp]; rfl
        have hA : Apart (matH ps l st1 ord) H1 := apart_of_HRel hR1.hp
        have hkeys : (ord.map (·.2)).Nodup := by
          have := (HRel_iff.1 hR1.hp).1
          rw [List.map_append, matH_keys] at this
          exact (List.nodup_append.1 this).1
        have hds : (ord.map (·.1.2.2.1)).Nodup := by
          have : ord.map (·.1.2.2.1) = (ord.map (·.1)).map (·.2.2.1) := by simp [List.map_map]
          rw [this]
          exact nodup_map_on hnd1 fun x hx y hy e => by
            obtain ⟨p1, hp1, rfl⟩ := List.mem_map.1 hx
            obtain ⟨p2, hp2, rfl⟩ := List.mem_map.1 hy
            exact nodup_inj hnd (hmem p1 hp1) (hmem p2 hp2) e
        -- what other operations leave alone
        have hfree : ∀ e ∈ news, j ≠ e.1 → j ≠ e.2.1 → ∀ t ∈ readsOf p ++ writesOf p, t ≠ 2 * e.2.2.1 ∧ t ≠ 2 * e.2.2.1 + 1 := fun e he n1 n2 => by
          obtain ⟨_, _, _, _, _, _, _, _, hx⟩ := hspec e he
          rw [← hgetD]
          exact hx j hjlt n1 n2
        have halx : ∀ e ∈ news, j = e.1 → ∃ cs, p = ⟨some e.2.2.1, none, .al cs⟩ ∧ cs.length = e.2.2.2 ∧ cs.all PV.isCell = true := fun e he n1 => by
          obtain ⟨cs, v, h1, _, h3, h4, _⟩ := hspec e he
          rw [← n1, hp, Option.some.injEq] at h1
          exact ⟨cs, h1, h3, h4⟩
        have hstx : ∀ e ∈ news, j = e.2.1 → ∃ v, p = ⟨none, none, .sto e.2.2.2 (.t e.2.2.1) v⟩ ∧ (∀ x, v = .t x → x ≠ e.2.2.1) := fun e he n1 => by
          obtain ⟨cs, v, _, h2, _, _, h5, _⟩ := hspec e he
          rw [← n1, hp, Option.some.injEq] at h2
          exact ⟨v, h2, h5⟩
        by_cases hA1 : ∃ e ∈ news, j = e.1
        · -- a variable is made
          obtain ⟨e, he, rfl⟩ := hA1
          obtain ⟨cs, rfl, hcl, hca⟩ := halx e he rfl
          have hq2 : q = ⟨some e.2.2.1, none, .mv false (.c .unit)⟩ := by rw [← hq]; rfl
          subst hq2
          obtain ⟨r, h1, rfl, rfl⟩ : ∃ r, pev st1 H1 (.mv false (.c .unit)) = some r ∧ f = (fun s => putSt (ptake s (.mv false (.c .unit))) (some e.2.2.1) r) ∧ H' = H1 := hEv
          have hr : r = .unit := by
            simp only [pev, arg, argT, lend, Bool.false_eq_true, if_false, Option.some.injEq] at h1
            exact h1.symm
          subst hr
          have hlt : e.1 < e.2.1 := by obtain ⟨_, _, _, _, _, _, _, h6, _⟩ := hspec e he; exact h6
          have heo : ∀ p2 ∈ ord, p2.1 ≠ e := fun p2 hp2 e2 => by
            have := (hiff e he).2 (List.mem_map.2 ⟨p2, hp2, e2⟩)
            rw [hlj] at this
            cases this
          have hdo : ∀ p2 ∈ ord, p2.1.2.2.1 ≠ e.2.2.1 := fun p2 hp2 e2 => heo p2 hp2 (nodup_inj hnd (hmem p2 hp2) he e2)
          have hlst : l e.2.1 = false := by
            obtain ⟨cs', v', _, g2, _, _, _, _, _⟩ := hspec e he
            have hkl : e.2.1 < os.size := by rw [← hpl]; exact (List.getElem?_eq_some_iff.1 g2).1
            refine hup e.2.1 _ hlt hkl (virt_get g2) ?_
            rw [virt_sto hspec hnd he]
            simp [indepB, apartB, writesOf, dstW, readsOf]
          unfold wpOp
          simp only [ho]
          rw [if_pos ((wanted_spec k3 hR1.tm).1 rfl)]
          refine .inl (Oper.wp_mono ?_ (step_sound (op := ⟨some e.2.2.1, none, .al cs⟩) (K := fun s3 H3 => ∃ b, s3 = (matS ord st1).set e.2.2.1 (.ptr (some (b, 0))) ∧ H3 = (b, cs) :: (matH ps l st1 ord ++ H')) k2 k4 hR1 (fun b hb => ⟨b, rfl, rfl⟩)))
          rintro a2 w2 ⟨s3, H3, g2, ⟨b, rfl, rfl⟩, h2, h3⟩
          refine hN a2 w2 ⟨g2, (e, b) :: ord, ?_, hE1.trans h3, fun e2 he2 => ?_, fun p2 hp2 => ?_, ?_, fun e2 he2 => ?_⟩
          · have e1 : matS ((e, b) :: ord) (putSt (ptake st1 (.mv false (.c .unit))) (some e.2.2.1) .unit) = (matS ord st1).set e.2.2.1 (.ptr (some (b, 0))) := by
              simp only [putSt, ptake, Bool.false_eq_true, if_false, matS]
              rw [matS_set ord st1 _ _ hdo, List.set_set]
            have e2 : matH ps (fun k => l k || k == e.1) (putSt (ptake st1 (.mv false (.c .unit))) (some e.2.2.1) .unit) ((e, b) :: ord) = (b, cs) :: matH ps l st1 ord := by
              have hz : zerosOf ps e = cs := by simp only [zerosOf, hgetD]
              have hne : (e.2.1 == e.1) = false := by simp; omega
              simp only [matH, hlst, hne, Bool.or_self, Bool.false_eq_true, if_false, hz]
              congr 1
              refine matH_congr ord fun p2 hp2 => ⟨?_, ?_⟩
              · have : (p2.1.2.1 == e.1) = false := by
                  simp only [beq_eq_false_iff_ne, ne_eq]
                  intro e3
                  obtain ⟨v3, h4, _⟩ := hstx p2.1 (hmem p2 hp2) e3.symm
                  cases h4
                simp [this]
              · simp only [putSt, ptake, Bool.false_eq_true, if_false]
                rw [List.getD_eq_getElem?_getD, List.getD_eq_getElem?_getD, List.getElem?_set, if_neg (fun e3 => hdo p2 hp2 e3.symm)]
            rw [e1, e2]
            exact h2
          · simp only [List.map_cons, List.mem_cons, Bool.or_eq_true, beq_iff_eq, hiff e2 he2]
            constructor
            · rintro (h4 | h4)
              · exact .inr h4
              · obtain ⟨cs2, h5, _⟩ := halx e2 he2 h4.symm
                simp only [POp.mk.injEq, Option.some.injEq] at h5
                exact .inl (nodup_inj hnd he2 he h5.1.symm)
            · rintro (h4 | h4)
              · exact .inr (by rw [h4])
              · exact .inl h4
          · rcases List.mem_cons.1 hp2 with rfl | hp2
            · exact he
            · exact hmem p2 hp2
          · rw [List.map_cons, List.nodup_cons]
            exact ⟨fun hm => by obtain ⟨p2, hp2, e2⟩ := List.mem_map.1 hm; exact heo p2 hp2 e2, hnd1⟩
          · simp only [putSt, ptake, Bool.false_eq_true, if_false, List.length_set]
            exact hsl1 e2 he2
        by_cases hB1 : ∃ e ∈ news, j = e.2.1
        · -- its first value
          obtain ⟨e, he, rfl⟩ := hB1
          obtain ⟨v, rfl, hvx⟩ := hstx e he rfl
          have hq2 : q = ⟨some e.2.2.1, none, .mvc e.2.2.2 v⟩ := by rw [← hq]; exact virt_sto hspec hnd he
          subst hq2
          obtain ⟨r, h1, rfl, rfl⟩ : ∃ r, pev st1 H1 (.mvc e.2.2.2 v) = some r ∧ f = (fun s => putSt (ptake s (.mvc e.2.2.2 v)) (some e.2.2.1) r) ∧ H' = H1 := hEv
          simp only [pev, mvcP] at h1
          obtain ⟨⟨hrl, hrc⟩, h1⟩ := ite_spec h1
          cases h1
          obtain ⟨cs, v0, g1, g2, hcl, hca, _, hlt, _⟩ := hspec e he
          have hl1 : l e.1 = true := by
            refine hdn e.1 _ hlt (virt_get g1) ?_
            simp [virtOp, indepB, apartB, writesOf, dstW, readsOf]
          obtain ⟨⟨e', b⟩, hm, he'⟩ := List.mem_map.1 ((hiff e he).1 hl1)
          simp only at he'
          subst he'
          have hother : ∀ p2 ∈ ord, p2.1 ≠ e' → e'.2.1 ≠ p2.1.1 ∧ e'.2.1 ≠ p2.1.2.1 ∧ p2.1.2.2.1 ≠ e'.2.2.1 := fun p2 hp2 hne => by
            have hd : p2.1.2.2.1 ≠ e'.2.2.1 := fun e3 => hne (nodup_inj hnd (hmem p2 hp2) he e3)
            refine ⟨fun e3 => ?_, fun e3 => ?_, hd⟩
            · obtain ⟨_, h4, _⟩ := halx p2.1 (hmem p2 hp2) e3
              cases h4
            · obtain ⟨_, h4, _⟩ := hstx p2.1 (hmem p2 hp2) e3
              simp only [POp.mk.injEq, PK.sto.injEq, Arg.t.injEq, true_and] at h4
              exact hd h4.2.1.symm
          have hxd : ∀ x, v = .t x → ∀ p2 ∈ ord, p2.1.2.2.1 ≠ x := fun x hx p2 hp2 e3 => by
            by_cases hpe : p2.1 = e'
            · rw [hpe] at e3; exact hvx x hx e3.symm
            · obtain ⟨n1, n2, _⟩ := hother p2 hp2 hpe
              have := (hfree p2.1 (hmem p2 hp2) n1 n2 (2 * x) (by subst hx; simp [readsOf, needs, argsOf, softs])).1
              omega
          have hargT : argT (matS ord st1) v = argT st1 v := by
            cases v with
            | c _ => rfl
            | t x => exact getD_of_obs (matS_obs ord st1 (2 * x + 1) fun p2 hp2 e3 => hxd x rfl p2 hp2 (by omega))
          have htake : takeAt (matS ord st1) v = matS ord (takeAt st1 v) := by
            cases v with
            | c _ => rfl
            | t x =>
              have e3 : (matS ord st1).getD x .unit = st1.getD x .unit := hargT
              simp only [takeAt]
              rw [e3, matS_set ord st1 x _ (hxd x rfl)]
          have hz : zerosOf ps e' = cs := by
            simp only [zerosOf, List.getD_eq_getElem?_getD, g1, Option.getD_some]
          have hgX := matH_get ps l st1 ord e' b hm hkeys
          rw [hlj, if_neg (by simp), hz] at hgX
          have hsd : ((takeAt st1 v).set e'.2.2.1 (argT st1 v)).getD e'.2.2.1 .unit = argT st1 v := by
            have hlen : (takeAt st1 v).length = st1.length := by cases v <;> simp [takeAt]
            rw [List.getD_eq_getElem?_getD, List.getElem?_set, if_pos rfl, if_pos (by rw [hlen]; exact hsl1 e' he)]
            rfl
          unfold wpOp
          simp only [ho]
          rw [if_pos ((wanted_spec k3 hR1.tm).1 rfl)]
          refine .inl (Oper.wp_mono ?_ (step_sound (op := ⟨none, none, .sto e'.2.2.2 (.t e'.2.2.1) v⟩) (K := fun s3 H3 => s3 = takeAt (matS ord st1) v ∧ H3 = hset (matH ps l st1 ord ++ H') b (cellsOf (argT st1 v))) k2 k4 hR1 ?_))
          · rintro a2 w2 ⟨s3, H3, g2, ⟨rfl, rfl⟩, h2, h3⟩
            refine hN a2 w2 ⟨g2, ord, ?_, hE1.trans h3, fun e2 he2 => ?_, hmem, hnd1, fun e2 he2 => ?_⟩
            · have e1 : matS ord (putSt (ptake st1 (.mvc e'.2.2.2 v)) (some e'.2.2.1) (argT st1 v)) = takeAt (matS ord st1) v := by
                simp only [putSt, ptake]
                rw [matS_over ord _ _ _ ⟨_, hm, rfl⟩, htake]
              have e2 := matH_store ps l st1 ((takeAt st1 v).set e'.2.2.1 (argT st1 v)) (cellsOf (argT st1 v)) e'.2.1 ord e' b hm hkeys hnd1 rfl (by rw [hsd]) (fun p2 hp2 hne => by
                obtain ⟨n1, n2, n3⟩ := hother p2 hp2 hne
                refine ⟨fun e3 => n2 e3.symm, ?_⟩
                rw [List.getD_eq_getElem?_getD, List.getD_eq_getElem?_getD, List.getElem?_set, if_neg (Ne.symm n3)]
                cases v with
                | c _ => rfl
                | t x => rw [takeAt, List.getElem?_set, if_neg (Ne.symm (hxd x rfl p2 hp2))])
              rw [e1]
              rw [hset_app_left hgX, e2] at h2
              exact h2
            · have : (e2.1 == e'.2.1) = false := by
                simp only [beq_eq_false_iff_ne, ne_eq]
                intro e3
                obtain ⟨_, h4, _⟩ := halx e2 he2 e3.symm
                cases h4
              simp only [this, Bool.or_false]
              exact hiff e2 he2
            · have hlen : (takeAt st1 v).length = st1.length := by cases v <;> simp [takeAt]
              simp only [putSt, ptake, List.length_set, hlen]
              exact hsl1 e2 he2
          · refine ⟨b, 0, cs, ?_, ?_, ?_, ?_, ?_, ?_⟩
            · simp only [arg, argT]
              rw [matS_getD ord st1 e' b hm hds (hsl1 e' he)]
              rfl
            · rw [hget_app, hgX]
            · rw [hargT]; exact hrl
            · omega
            · rw [hargT]; exact hrc
            · refine ⟨rfl, ?_⟩
              rw [hargT, List.take_zero, List.nil_append, List.drop_of_length_le (by omega), List.append_nil]
        · -- any other
          have hnoal : isAl p.k = false := by
            cases hal : isAl p.k with
            | false => rfl
            | true =>
              have := List.all_eq_true.1 hals j (List.mem_range.2 hjlt)
              rw [hgetD, hal] at this
              simp only [Bool.not_true, Bool.false_or, List.any_eq_true, beq_iff_eq] at this
              obtain ⟨e, he, e1⟩ := this
              exact absurd ⟨e, he, e1.symm⟩ hA1
          have hqp : q = p := by
            rw [← hq]
            unfold virtOp
            split
            · rename_i e; rw [e] at hnoal; cases hnoal
            · have : news.find? (fun e => e.2.1 == j) = none := by
                rw [List.find?_eq_none]
                intro e he hb
                exact hB1 ⟨e, he, by simpa using (beq_iff_eq.1 hb).symm⟩
              rw [this]
            · rfl
          subst hqp
          have hfr : ∀ p2 ∈ ord, ∀ t ∈ readsOf q ++ writesOf q, t ≠ 2 * p2.1.2.2.1 ∧ t ≠ 2 * p2.1.2.2.1 + 1 := fun p2 hp2 => hfree p2.1 (hmem p2 hp2) (fun e => hA1 ⟨_, hmem p2 hp2, e⟩) (fun e => hB1 ⟨_, hmem p2 hp2, e⟩)
          have hloc := Ev_local hEv
          have hsame : Same (readsOf q) st1 (matS ord st1) := fun t ht => (matS_obs ord st1 t fun p2 hp2 e => by
            obtain ⟨h1, h2⟩ := hfr p2 hp2 t (List.mem_append_left _ ht)
            omega).symm
          have hEv2 := Ev_frame (X := matH ps l st1 ord) hA (Ev_slots hsame hEv)
          have hmatS : f (matS ord st1) = matS ord (f st1) := matS_slot hloc ord st1 fun p2 hp2 =>
            ⟨fun hm => (hfr p2 hp2 _ (List.mem_append_right _ hm)).1 rfl, fun hm => (hfr p2 hp2 _ (List.mem_append_right _ hm)).2 rfl⟩
          have hmatH : matH ps l st1 ord = matH ps (fun k => l k || k == j) (f st1) ord := matH_congr ord fun p2 hp2 => by
            constructor
            · have : (p2.1.2.1 == j) = false := by simpa using fun e => hB1 ⟨_, hmem p2 hp2, e.symm⟩
              simp [this]
            · exact getD_of_obs (hloc.rest st1 _ fun hm => (hfr p2 hp2 _ (List.mem_append_right _ hm)).2 rfl).symm
          refine op_any ho k2 k3 k4 hR1 hEv2 fun a2 w2 g2 h1 h2 => hN a2 w2 ⟨g2, ord, ?_, hE1.trans h2, fun e he => ?_, hmem, hnd1, fun e he => ?_⟩
          · rw [hmatS, hmatH] at h1
            exact h1
          · have : (e.1 == j) = false := by simpa using fun e2 => hA1 ⟨e, he, e2.symm⟩
            simp only [this, Bool.or_false]
            exact hiff e he
          · have := obs_lt (hloc.rest st1 (2 * e.2.2.1) fun hm => (hfree e he (fun e2 => hA1 ⟨e, he, e2⟩) (fun e2 => hB1 ⟨e, he, e2⟩) _ (List.mem_append_right _ hm)).1 rfl)
            have e3 : 2 * e.2.2.1 / 2 = e.2.2.1 := by omega
            rw [e3] at this
            exact this.2 (hsl1 e he)
      · rintro l a' w' st' H' hall hK ⟨g', ord, hR1, hE1, hiff, hmem, hnd1, hsl1⟩
        have hperm : (ord.map (·.1)).Perm news := by
          refine (List.perm_ext_iff_of_nodup hnd1 ?_).2 fun e => ⟨fun hm => ?_, fun he => ?_⟩
          · exact nodup_of_map hnd
          · obtain ⟨p2, hp2, rfl⟩ := List.mem_map.1 hm
            exact hmem p2 hp2
          · obtain ⟨cs, v, g1, _⟩ := hspec e he
            exact (hiff e he).1 (hall _ (by rw [← hpl]; exact (List.getElem?_eq_some_iff.1 g1).1))
        have hl2 : matH ps l st' ord = matH ps (fun _ => true) st' ord := matH_congr ord fun p2 hp2 => ⟨by
          obtain ⟨cs, v, _, g2, _⟩ := hspec p2.1 (hmem p2 hp2)
          exact hall _ (by rw [← hpl]; exact (List.getElem?_eq_some_iff.1 g2).1), rfl⟩
        rw [hl2] at hR1
        have hkeys : (ord.map (·.2)).Nodup := by
          have := (HRel_iff.1 hR1.hp).1
          rw [List.map_append, matH_keys] at this
          exact (List.nodup_append.1 this).1
        have hA : Apart (matH ps (fun _ => true) st' ord) H' := apart_of_HRel hR1.hp
        -- the block of each
        obtain ⟨bl, hbl⟩ : ∃ bl : Nw → Nat, ∀ p2 ∈ ord, bl p2.1 = p2.2 := block_of ord hnd1
        have ho2 : ord = (ord.map (·.1)).map fun e => (e, bl e) := by
          rw [List.map_map]
          conv => lhs; rw [← List.map_id ord]
          refine List.map_congr_left fun p2 hp2 => ?_
          simp [hbl p2 hp2]
        have hpo : ord.Perm (news.reverse.map fun e => (e, bl e)) := by
          rw [ho2]
          exact (hperm.trans (List.reverse_perm news).symm).map _
        have hdso : (ord.map (·.1.2.2.1)).Nodup := by
          have : ord.map (·.1.2.2.1) = (ord.map (·.1)).map (·.2.2.1) := by simp [List.map_map]
          rw [this]
          exact (hperm.map _).nodup_iff.2 hnd
        have hbn : (news.map bl).Nodup := by
          have h1 : (ord.map (·.2)) = (ord.map (·.1)).map bl := by
            rw [List.map_map]
            exact List.map_congr_left fun p2 hp2 => (hbl p2 hp2).symm
          rw [h1] at hkeys
          exact (hperm.map _).nodup_iff.1 hkeys
        have hfr : ∀ e ∈ news, hget H' (bl e) = none := fun e he => by
          cases hh : hget H' (bl e) with
          | none => rfl
          | some q =>
            have := hA _ _ hh
            obtain ⟨p2, hp2, rfl⟩ := List.mem_map.1 (hperm.mem_iff.2 he)
            rw [hbl p2 hp2] at this
            rw [matH_get ps _ st' ord p2.1 p2.2 hp2 hkeys] at this
            cases this
        have hKK := newK_perm ps (fun _ => true) (fun _ => rfl) bl news _ st' H' hK hnd hbn hfr
        refine ⟨.normal, _, _, g', rfl, hKK, ?_, hE1⟩
        rw [← matS_perm hpo hdso st']
        exact (Rel_perm hR1 ((matH_perm ps _ st' hpo).append_right _)).d
    · cases hc
  case seq => obtain ⟨_, _, hc⟩ := bind_spec hc; obtain ⟨_, _, hc⟩ := map_spec hc; cases hc
  case cond => obtain ⟨_, _, hc⟩ := bind_spec hc; obtain ⟨_, _, hc⟩ := bind_spec hc; obtain ⟨_, _, hc⟩ := map_spec hc; cases hc
  case block => obtain ⟨_, _, hc⟩ := map_spec hc; cases hc
  case loop => obtain ⟨_, _, hc⟩ := map_spec hc; cases hc
  case rangeFunc => obtain ⟨_, _, hc⟩ := bind_spec hc; obtain ⟨_, _, hc⟩ := bind_spec hc; obtain ⟨_, _, hc⟩ := bind_spec hc; obtain ⟨_, hc⟩ := ite_spec hc; cases hc
  all_goals cases hc
theorem pwp_drawNS (hmix : P.follows .mixedOrders = true) {vops : List POp} {late : List (Nat × Nat)} {news : List Nw} (hsl : ∀ e ∈ news, e.2.2.1 < st.length)
    (h : ∀ K : List PV → Heap → Prop, (∀ st' H', Q .normal st' H' → K st' H') → planS P late vops 0 [] [] (newK news K) st H) : pwp P (.drawN vops late news) Q st H := pwp_drawN hmix hsl (planS_plan (h _ fun _ _ h => h))
theorem pwp_sn (hmix : P.follows .mixedOrders = true) {vops : List POp} {late : List (Nat × Nat)} {news : List Nw} {y : PCode} (hsl : ∀ e ∈ news, e.2.2.1 < st.length)
    (h : ∀ K : List PV → Heap → Prop, (∀ st' H', pwp P y Q st' H' → K st' H') → planS P late vops 0 [] [] (newK news K) st H) : pwp P (.seq (.drawN vops late news) y) Q st H :=
  pwp_seq (pwp_drawNS hmix hsl fun K hK => h K fun st' H' h' => hK st' H' h')
theorem MS_length (n : Nat) (l : List (Nat × PV)) : (MS n l).length = n := by simp [MS]
end
end Go.Proofs.YtdphjapaoaokmaaDoor.E
/- A logic of plain values, part 37: cells of blocks said otherwise. -/
namespace Go.Proofs.YtdphjapaoaokmaaDoor.E
open Go Go.RowKit
set_option linter.unusedVariables false
set_option linter.unusedSimpArgs false
variable {dq : List Deferred}
theorem ite_none {α : Type} {c : Prop} [Decidable c] {x : α} {y : Option α} (h : (if c then some x else y) = none) : ¬ c ∧ y = none := by
  split at h
  · cases h
  · exact ⟨by assumption, h⟩
def HUp : Heap → Heap → Prop
  | [], H2 => H2 = []
  | (b, cs) :: H, (c, ds) :: H2 => b = c ∧ UpL true cs ds ∧ HUp H H2
  | _ :: _, [] => False
theorem HUp_refl : ∀ H : Heap, HUp H H
  | [] => rfl
  | (b, cs) :: H => ⟨rfl, UpL_refl _ _, HUp_refl H⟩
theorem HUp_none {b : Nat} : ∀ {H H2 : Heap}, HUp H H2 → hget H b = none → hget H2 b = none
  | [], H2, h, _ => by cases h; rfl
  | (c, cs) :: H, [], h, _ => h.elim
  | (c, cs) :: H, (d, ds) :: H2, h, hb => by
    obtain ⟨rfl, _, h⟩ := h
    obtain ⟨h1, h2⟩ := hget_cons_none.1 hb
    exact hget_cons_none.2 ⟨h1, HUp_none h h2⟩
theorem HUp_rel {w : World} {g : Ghost} : ∀ {H H2 : Heap}, HUp H H2 → HRel w g H → HRel w g H2 ∧ toksH w H2 = toksH w H
  | [], H2, h, hg => by cases h; exact ⟨hg, rfl⟩
  | (c, cs) :: H, [], h, _ => h.elim
  | (c, cs) :: H, (d, ds) :: H2, h, hr => by
    obtain ⟨rfl, hu, h⟩ := h
    obtain ⟨h0, h1, h2, ⟨cc, e, h3, h4⟩, h5⟩ := hr
    obtain ⟨i1, i2⟩ := HUp_rel h h5
    refine ⟨⟨HUp_none h h0, h1, by rw [UpL_all hu]; exact h2, ⟨cc, e, h3, UpL_VR (fun h => h) cs ds _ hu h4⟩, i1⟩, ?_⟩
    have : toksB w c ds = toksB w c cs := by simp only [toksB, h3, UpL_toks cs ds _ hu]
    simp only [toksH, this, i2]
section
variable {P : Program} {Q : PPost} {st : List PV} {H : Heap}
theorem pwp_upH {pc : PCode} {H2 : Heap} (hu : HUp H H2) (h : pwp P pc Q st H2) : pwp P pc Q st H := by
  intro hh c hc rr hrr dq out a w g hR
  obtain ⟨h1, h2⟩ := HUp_rel hu hR.hp
  exact h hh c hc rr hrr dq out a w g ⟨hR.wr, h1, hR.tm, fun b => by rw [h2]; exact hR.un b, hR.df⟩
/-- A loop, between whose rounds slots and cells may be said otherwise. -/
theorem pwp_loopV (keep : List Nat) (I : Nat → List PV → Heap → Prop) {x : PCode} {n : Nat} (h0 : ∃ st2 H2 H3, UpL true (keepL keep 0 st) st2 ∧ H2.Sublist H ∧ HUp H2 H3 ∧ I n st2 H3)
    (h : ∀ n st H, I n st H → pwp P x (thenP (fun st' H' => ∃ m, m < n ∧ ∃ st2 H2 H3, UpL true (keepL keep 0 st') st2 ∧ H2.Sublist H' ∧ HUp H2 H3 ∧ I m st2 H3) Q) st H) : pwp P (.loop x) Q st H := by
  refine pwp_loop (fun m s H' => ∃ st2 H2 H3, UpL true (keepL keep 0 s) st2 ∧ H2.Sublist H' ∧ HUp H2 H3 ∧ I m st2 H3) h0 ?_
  rintro m s H' ⟨st2, H2, H3, h1, h2, h3, h4⟩
  exact pwp_drop h2 (pwp_upH h3 (pwp_keep keep (pwp_up h1 (h m _ _ h4))))
/-- Only these slots are kept, and said so. -/
theorem pwp_kept {pc : PCode} {keep : List Nat} {n : Nat} {l l' : List (Nat × PV)} (e : keepA keep l = l') (h : pwp P pc Q (MS n l') H) : pwp P pc Q (MS n l) H :=
  pwp_keep keep (by rw [keepL_MS, e]; exact h)
theorem pwp_difE (hmix : P.follows .mixedOrders = true) {ops : List POp} {late : List (Nat × Nat)} {c : Arg} {x y : PCode} (h : ∀ K : List PV → Heap → Prop, (∀ st' H', IfP P c x y Q st' H' → K st' H') → planM P ops K st H) : pwp P (.seq (.draw ops late) (.cond c x y)) Q st H :=
  pwp_sd hmix fun K hK => h K fun st' H' ⟨b, h1, h2, h3⟩ => hK st' H' (pwp_cond h1 h2 h3)
end
end Go.Proofs.YtdphjapaoaokmaaDoor.E
/- A logic of plain values, part 38: calls in drawn regions that store. -/
namespace Go.Proofs.YtdphjapaoaokmaaDoor.E
open Go Go.RowKit
set_option linter.unusedVariables false
set_option linter.unusedSimpArgs false
def callDS (P : Program) (late : List (Nat × Nat)) (f : Nat) (args : List PV) (ops : List POp) (i : Nat) (rd wr : Uses) (K : List PV → Heap → Prop) (st : List PV) (d : Option Nat) (H : Heap) : Prop :=
  ∃ r, PSpec P f args r ∧ planS P late ops (i + 1) rd wr K (putSt st d r) H
section
variable {P : Program} {K : List PV → Heap → Prop} {st : List PV} {H : Heap} {d : Option Nat} {ops : List POp} {t : Nat} {w : Bool} {late : List (Nat × Nat)} {i : Nat} {rd wr : Uses} {f : Nat} {args : List Arg} {tk : List Bool}
@[simp high] theorem planS_call : planS P late (⟨d, none, .callF f args tk⟩ :: ops) i rd wr K st H = callDS P late f (callArgs st args tk) ops i rd wr K (callTake st args tk) d H := by
  rw [planS_n]
  rfl
theorem useDS {args : List PV} {r : PV} (h : PSpec P f args r) (hK : planS P late ops (i + 1) rd wr K (putSt st d r) H) : callDS P late f args ops i rd wr K st d H := ⟨r, h, hK⟩
end
end Go.Proofs.YtdphjapaoaokmaaDoor.E
/- A logic of plain values, part 39: a cut between two parts of a function. -/
namespace Go.Proofs.YtdphjapaoaokmaaDoor.E
open Go Go.RowKit
set_option linter.unusedVariables false
set_option linter.unusedSimpArgs false
attribute [simp] runM_nil runM_n runM_t runM_f runM_s runK pev ptake putSt arg argT takeAt lend lendL
attribute [simp] thenP inBlockP binP binBP intP unP lenP fadP ldP fldP extP extTake
attribute [simp] optN emptyOr cvMP cvIP hget hset partP cellsOf callArgs callTake fillP
attribute [simp] partsOf elemParts elemsOf chunk PV.isCell mmP eqSP eqCells planM_nil planM_n planM_t planM_f planM_s planK
attribute [simp] keepL_MS keepA MS_getD MS_get MS_set getS idxA bxP nckP idxP newK mvcP
attribute [simp] planS_nil planS_n planS_t planS_f planS_s planSK ldCells apartC frzL_append frzL_MS frzA frzL frz frzH
attribute [simp] appB cpyB clrB capB cellsY repCells UpA Up_refl UpL_refl Up_lst Up_agg Up_tup UpL_cons
section
variable {sz bytes s s2 b off len cap : Nat} {xs ys : List PV} {o ag : Bool} {k k2 : IntKind} {n m : Int} {t : List Int} {zero : List PV} {lo hi mx : Option PV}
@[simp] theorem mkP_eq : mkP sz bytes ag zero (.int k n) (.int k2 m) = if 0 ≤ n ∧ n ≤ m ∧ m * bytes ≤ 281474976710656 then some (.lst sz (List.replicate n.toNat (if ag then .agg zero else zero.headD .unit)) true) else none := rfl
@[simp] theorem appP_eq : appP sz bytes (.lst s xs true) (.lst s2 ys o) = if emptyOr s sz xs ∧ (s2 = sz ∨ ys.isEmpty = true) ∧ (xs.length + ys.length) * bytes ≤ 140737488355328 then some (.lst sz (xs ++ ys) true) else none := rfl
@[simp] theorem appP_eqs : appP sz bytes (.lst s xs true) (.str t) = if emptyOr s sz xs ∧ sz = 1 ∧ (xs.length + t.length) * bytes ≤ 140737488355328 then some (.lst sz (xs ++ t.map (.int .u8)) true) else none := rfl
@[simp] theorem appP_no {y : PV} : appP sz bytes (.lst s xs false) y = none := rfl
@[simp] theorem iadP_eq : iadP sz (.lst s xs o) (.int k n) = if 0 ≤ n ∧ n < xs.length ∧ s = sz then some (.ip s xs n.toNat 0) else none := rfl
@[simp] theorem iadP_row : iadP sz (.row b off len cap) (.int k n) = if 0 ≤ n ∧ n < len then some (.ptr (some (b, off + n.toNat * sz))) else none := rfl
@[simp] theorem sliP_eq : sliP sz (.lst s xs o) lo hi mx = (optN 0 lo).bind fun l => (optN xs.length hi).bind fun h =>
    if l ≤ h ∧ h ≤ xs.length ∧ (s = sz ∨ xs.isEmpty = true) then
      match mx with
      | none => some (.lst s ((xs.take h).drop l) false)
      | some m => if optN 0 (some m) = some h ∧ hi.isSome = true then some (.lst s ((xs.take h).drop l) true) else none
    else none := rfl
@[simp] theorem sliP_row : sliP sz (.row b off len cap) lo hi mx = (optN 0 lo).bind fun l => (optN len hi).bind fun h => (optN cap mx).bind fun m =>
    if l ≤ h ∧ h ≤ m ∧ m ≤ cap ∧ (mx.isSome = true → hi.isSome = true) then some (if m = l then .row b off 0 0 else .row b (off + l * sz) (h - l) (m - l)) else none := rfl
@[simp] theorem slsP_eq : slsP (.str t) lo hi = (optN 0 lo).bind fun l => (optN t.length hi).bind fun h => if l ≤ h ∧ h ≤ t.length then some (.str ((t.take h).drop l)) else none := rfl
@[simp] theorem cvBP_eq : cvBP (.str t) = if t.length ≤ 9223372036854775807 then some (.lst 1 (t.map (.int .u8)) false) else none := rfl
end
theorem toks1 {p : PV} {v : Value} (h : toks p v = []) : toksL [p] [v] = [] := by simp [toksL, h]
theorem toks2 {p q : PV} {v w : Value} (h : toks p v = []) (k : toks q w = []) : toksL [p, q] [v, w] = [] := by simp [toksL, h, k]
theorem toks3 {p q r : PV} {v w u : Value} (h : toks p v = []) (k : toks q w = []) (m : toks r u = []) : toksL [p, q, r] [v, w, u] = [] := by simp [toksL, h, k, m]
theorem toks4 {p q r s : PV} {v w u x : Value} (h : toks p v = []) (k : toks q w = []) (m : toks r u = []) (n : toks s x = []) : toksL [p, q, r, s] [v, w, u, x] = [] := by simp [toksL, h, k, m, n]
section
variable {P : Program} {Q : PPost} {st : List PV} {H : Heap}
/-- Behind the first part these slots and blocks are as told. -/
theorem pwp_cut (keep : List Nat) (I : List PV → Heap → Prop) {x y : PCode} (h1 : pwp P x (thenP (fun st' H' => ∃ st2 H2, keepL keep 0 st' = st2 ∧ H2.Sublist H' ∧ I st2 H2) Q) st H)
    (h2 : ∀ st H, I st H → pwp P y Q st H) : pwp P (.seq x y) Q st H := by
  refine pwp_seq (pwp_mono h1 ?_)
  intro e st' H' h
  cases e with
  | normal =>
    obtain ⟨st2, H2, h3, h4, h5⟩ := h
    exact pwp_drop h4 (pwp_keep keep (by rw [h3]; exact h2 _ _ h5))
  | ret => exact h
  | exit id => exact h
/-- A part that comes to an end as told. -/
theorem cut_to {keep : List Nat} {n : Nat} {l l' : List (Nat × PV)} {I : List PV → Heap → Prop} {H' H2 : Heap} (e : keepA keep l = l') (hs : H2.Sublist H') (h : I (MS n l') H2) :
    ∃ st2 H2, keepL keep 0 (MS n l) = st2 ∧ H2.Sublist H' ∧ I st2 H2 := ⟨_, H2, rfl, hs, by rw [keepL_MS, e]; exact h⟩
end
section
variable {P : Program} {K : List PV → Heap → Prop} {st : List PV} {H : Heap} {d : Option Nat} {ops : List POp} {t : Nat} {w : Bool} {late : List (Nat × Nat)} {i : Nat} {rd wr : Uses} {f : Nat} {args : List Arg} {tk : List Bool}
@[simp high] theorem planS_callT (h : st.getD t .unit = .bool w) : planS P late (⟨d, some (t, w), .callF f args tk⟩ :: ops) i rd wr K st H = callDS P late f (callArgs st args tk) ops i rd wr K (callTake st args tk) d H := by
  rw [planS_t h]
  rfl
end
end Go.Proofs.YtdphjapaoaokmaaDoor.E
/- A logic of plain values, part 40: numbers within their bounds. -/
namespace Go.Proofs.YtdphjapaoaokmaaDoor.E
open Go Go.RowKit
set_option linter.unusedVariables false
set_option linter.unusedSimpArgs false
/-- A condition that reckoning decides. -/
structure Ok (p : Prop) : Prop where
  h : p
@[simp] theorem bits_i64 : IntKind.i64.bits = 64 := rfl
@[simp] theorem bits_u64 : IntKind.u64.bits = 64 := rfl
@[simp] theorem bits_u32 : IntKind.u32.bits = 32 := rfl
@[simp] theorem bits_u8 : IntKind.u8.bits = 8 := rfl
theorem wrap_un {k : IntKind} (hs : k.signed = false) {x : Int} (h0 : 0 ≤ x) (h1 : x < 2 ^ k.bits) : k.wrap x = x := by
  unfold IntKind.wrap
  simp only [hs, Bool.false_and, Bool.false_eq_true, if_false]
  exact Int.emod_eq_of_lt h0 h1
@[simp] theorem wr_i64 {x : Int} (h : Ok (-9223372036854775808 ≤ x ∧ x < 9223372036854775808)) : IntKind.i64.wrap x = x := w64 h.h.1 (by have := h.h; omega)
@[simp] theorem wr_u64 {x : Int} (h : Ok (0 ≤ x ∧ x < 18446744073709551616)) : IntKind.u64.wrap x = x := wrap_un rfl h.h.1 h.h.2
@[simp] theorem wr_u32 {x : Int} (h : Ok (0 ≤ x ∧ x < 4294967296)) : IntKind.u32.wrap x = x := wrap_un rfl h.h.1 h.h.2
@[simp] theorem wr_u8 {x : Int} (h : Ok (0 ≤ x ∧ x < 256)) : IntKind.u8.wrap x = x := wrap_un rfl h.h.1 h.h.2
/-- .. and past them. -/
theorem wrap_mod {k : IntKind} (hs : k.signed = false) (x : Int) : k.wrap x = x % 2 ^ k.bits := by
  unfold IntKind.wrap
  simp only [hs, Bool.false_and, Bool.false_eq_true, if_false]
theorem wm_u8 (x : Int) : IntKind.u8.wrap x = x % 256 := wrap_mod rfl x
theorem wm_u32 (x : Int) : IntKind.u32.wrap x = x % 4294967296 := wrap_mod rfl x
theorem wm_u64 (x : Int) : IntKind.u64.wrap x = x % 18446744073709551616 := wrap_mod rfl x
@[simp] theorem tdiv_ok {x y : Int} (h : Ok (0 ≤ x)) : x.tdiv y = x / y := Int.tdiv_eq_ediv_of_nonneg h.h
@[simp] theorem tmod_ok {x y : Int} (h : Ok (0 ≤ x)) : x.tmod y = x % y := Int.tmod_eq_emod_of_nonneg h.h
@[simp] theorem fdiv_ok {x y : Int} (h : Ok (0 ≤ y)) : x.fdiv y = x / y := Int.fdiv_eq_ediv_of_nonneg x h.h
theorem ofInt_nat {x : Int} (h : 0 ≤ x) (n : Nat) (h2 : x < 2 ^ n) : (BitVec.ofInt n x).toNat = x.toNat := by
  obtain ⟨m, rfl⟩ := Int.eq_ofNat_of_zero_le h
  rw [BitVec.ofInt_natCast, BitVec.toNat_ofNat, Int.toNat_natCast]
  exact Nat.mod_eq_of_lt (by exact_mod_cast h2)
theorem wrap_nat {k : IntKind} (hs : k.signed = false) {n : Nat} (h : n < 2 ^ k.bits) : k.wrap (n : Int) = n := wrap_un hs (by omega) (by exact_mod_cast h)
theorem bits_xor {k : IntKind} (hs : k.signed = false) {x y : Int} (h : 0 ≤ x ∧ x < 2 ^ k.bits ∧ 0 ≤ y ∧ y < 2 ^ k.bits) : bitsP .xor k x y = some ((x.toNat ^^^ y.toNat : Nat) : Int) := by
  obtain ⟨h1, h2, h3, h4⟩ := h
  simp only [bitsP, BitVec.toNat_xor, ofInt_nat h1 _ h2, ofInt_nat h3 _ h4]
  rw [wrap_nat hs]
  have e : ((2 ^ k.bits : Nat) : Int) = 2 ^ k.bits := by exact Int.natCast_pow 2 _
  exact Nat.xor_lt_two_pow (by omega) (by omega)
theorem bits_or {k : IntKind} (hs : k.signed = false) {x y : Int} (h : 0 ≤ x ∧ x < 2 ^ k.bits ∧ 0 ≤ y ∧ y < 2 ^ k.bits) : bitsP .or k x y = some ((x.toNat ||| y.toNat : Nat) : Int) := by
  obtain ⟨h1, h2, h3, h4⟩ := h
  simp only [bitsP, BitVec.toNat_or, ofInt_nat h1 _ h2, ofInt_nat h3 _ h4]
  rw [wrap_nat hs]
  have e : ((2 ^ k.bits : Nat) : Int) = 2 ^ k.bits := by exact Int.natCast_pow 2 _
  exact Nat.or_lt_two_pow (by omega) (by omega)
theorem bits_and {k : IntKind} (hs : k.signed = false) {x y : Int} (h : 0 ≤ x ∧ x < 2 ^ k.bits ∧ 0 ≤ y ∧ y < 2 ^ k.bits) : bitsP .and k x y = some ((x.toNat &&& y.toNat : Nat) : Int) := by
  obtain ⟨h1, h2, h3, h4⟩ := h
  simp only [bitsP, BitVec.toNat_and, ofInt_nat h1 _ h2, ofInt_nat h3 _ h4]
  rw [wrap_nat hs]
  have e : ((2 ^ k.bits : Nat) : Int) = 2 ^ k.bits := by exact Int.natCast_pow 2 _
  exact Nat.lt_of_le_of_lt Nat.and_le_left (by omega)
section
variable {x y : Int}
@[simp] theorem xor_u8 (h : Ok (0 ≤ x ∧ x < 256 ∧ 0 ≤ y ∧ y < 256)) : bitsP .xor .u8 x y = some ((x.toNat ^^^ y.toNat : Nat) : Int) := bits_xor rfl h.h
@[simp] theorem xor_u32 (h : Ok (0 ≤ x ∧ x < 4294967296 ∧ 0 ≤ y ∧ y < 4294967296)) : bitsP .xor .u32 x y = some ((x.toNat ^^^ y.toNat : Nat) : Int) := bits_xor rfl h.h
@[simp] theorem xor_u64 (h : Ok (0 ≤ x ∧ x < 18446744073709551616 ∧ 0 ≤ y ∧ y < 18446744073709551616)) : bitsP .xor .u64 x y = some ((x.toNat ^^^ y.toNat : Nat) : Int) := bits_xor rfl h.h
@[simp] theorem or_u8 (h : Ok (0 ≤ x ∧ x < 256 ∧ 0 ≤ y ∧ y < 256)) : bitsP .or .u8 x y = some ((x.toNat ||| y.toNat : Nat) : Int) := bits_or rfl h.h
@[simp] theorem or_u64 (h : Ok (0 ≤ x ∧ x < 18446744073709551616 ∧ 0 ≤ y ∧ y < 18446744073709551616)) : bitsP .or .u64 x y = some ((x.toNat ||| y.toNat : Nat) : Int) := bits_or rfl h.h
@[simp] theorem or_u32 (h : Ok (0 ≤ x ∧ x < 4294967296 ∧ 0 ≤ y ∧ y < 4294967296)) : bitsP .or .u32 x y = some ((x.toNat ||| y.toNat : Nat) : Int) := bits_or rfl h.h
@[simp] theorem and_u8 (h : Ok (0 ≤ x ∧ x < 256 ∧ 0 ≤ y ∧ y < 256)) : bitsP .and .u8 x y = some ((x.toNat &&& y.toNat : Nat) : Int) := bits_and rfl h.h
@[simp] theorem and_u32 (h : Ok (0 ≤ x ∧ x < 4294967296 ∧ 0 ≤ y ∧ y < 4294967296)) : bitsP .and .u32 x y = some ((x.toNat &&& y.toNat : Nat) : Int) := bits_and rfl h.h
@[simp] theorem and_u64 (h : Ok (0 ≤ x ∧ x < 18446744073709551616 ∧ 0 ≤ y ∧ y < 18446744073709551616)) : bitsP .and .u64 x y = some ((x.toNat &&& y.toNat : Nat) : Int) := bits_and rfl h.h
end
/-! tests that reckoning decides -/
section
variable {α : Type} {c : Prop} [Decidable c] {x y : α}
@[simp] theorem itT (h : Ok c) : ite c x y = x := if_pos h.h
@[simp] theorem itF (h : Ok (¬ c)) : ite c x y = y := if_neg h.h
end
section
variable {a b : Int} {m n : Nat}
@[simp] theorem dlt (h : Ok (a < b)) : decide (a < b) = true := decide_eq_true h.h
@[simp] theorem dltF (h : Ok (¬ a < b)) : decide (a < b) = false := decide_eq_false h.h
@[simp] theorem dle (h : Ok (a ≤ b)) : decide (a ≤ b) = true := decide_eq_true h.h
@[simp] theorem dleF (h : Ok (¬ a ≤ b)) : decide (a ≤ b) = false := decide_eq_false h.h
@[simp] theorem deq (h : Ok (a = b)) : decide (a = b) = true := decide_eq_true h.h
@[simp] theorem deqF (h : Ok (¬ a = b)) : decide (a = b) = false := decide_eq_false h.h
@[simp] theorem nlt (h : Ok (m < n)) : decide (m < n) = true := decide_eq_true h.h
@[simp] theorem nltF (h : Ok (¬ m < n)) : decide (m < n) = false := decide_eq_false h.h
@[simp] theorem nle (h : Ok (m ≤ n)) : decide (m ≤ n) = true := decide_eq_true h.h
@[simp] theorem nleF (h : Ok (¬ m ≤ n)) : decide (m ≤ n) = false := decide_eq_false h.h
@[simp] theorem neq (h : Ok (m = n)) : decide (m = n) = true := decide_eq_true h.h
@[simp] theorem neqF (h : Ok (¬ m = n)) : decide (m = n) = false := decide_eq_false h.h
end
@[simp] theorem and_ok {p q : Prop} (h : Ok p) : (p ∧ q) ↔ q := and_iff_right h.h
/-! rows of single cells -/
theorem rowL_plain {xs : List PV} {n : Nat} (h : lendL xs = xs) (hn : xs.length = n) (hl : n ≤ 9223372036854775807) : rowL 1 false xs n n = some (.lst 1 xs false) := by
  unfold rowL
  have hm : n ≤ maxLen := by simp only [maxLen]; omega
  rw [if_pos ⟨Nat.le_refl _, hm, by omega, fun _ => rfl⟩]
  have e : xs.take (n * 1) = xs := List.take_of_length_le (by omega)
  rw [e, h]
  simp [elemsOf]
theorem lendL_map {α : Type} {f : α → PV} (h : ∀ a, lend (f a) = f a) (l : List α) : lendL (l.map f) = l.map f := by
  rw [lendL_eq_map, List.map_map]
  exact List.map_congr_left fun a _ => h a
theorem set_cell {cs : List PV} {i : Nat} {v : PV} (h : i < cs.length) : cs.take i ++ v :: cs.drop (i + 1) = cs.set i v := by
  rw [List.set_eq_take_append_cons_drop, if_pos h]
/-- A loop of so many rounds, one by one. -/
def pRounds (P : Program) (x : PCode) (Q : PPost) : Nat → List PV → Heap → Prop
  | 0, _, _ => False
  | n + 1, st, H => pwp P x (thenP (pRounds P x Q n) Q) st H
theorem rnd {P : Program} {x : PCode} {Q : PPost} {st : List PV} {H : Heap} {n : Nat} (h : pwp P x (thenP (pRounds P x Q n) Q) st H) : pRounds P x Q (n + 1) st H := h
theorem pwp_rounds {P : Program} {x : PCode} {Q : PPost} {st : List PV} {H : Heap} (n : Nat) (h : pRounds P x Q n st H) : pwp P (.loop x) Q st H := by
  refine pwp_loop (fun m s H' => pRounds P x Q m s H') h ?_
  intro m s H' hr
  cases m with
  | zero => exact hr.elim
  | succ m =>
    refine pwp_mono hr ?_
    intro e s2 H2 hq
    cases e with
    | normal => exact ⟨m, Nat.lt_succ_self m, hq⟩
    | ret => exact hq
    | exit id => exact hq
/-- A block that is only read from here on. -/
theorem pwp_ro {P : Program} {Q : PPost} {pc : PCode} {n b : Nat} {H : Heap} {cs : List PV} {l : List (Nat × PV)} (hb : hget H b = none)
    (h : pwp P pc Q (MS n (frzA b (rowL 1 false cs) (ptrL cs) l)) H) : pwp P pc Q (MS n l) ((b, cs) :: H) := by
  refine pwp_freeze (b := b) 1 false [] (by simp [hget]; rfl) ?_
  rw [frzL_MS, frzH, if_pos rfl, frzH_id hb (fun x hx => by cases hx)]
  exact h
/-- An element, by a place that is within. -/
theorem get_at {α : Type} {l : List α} {i : Nat} {x : α} (h : i < l.length) (e : l[i] = x) : l[i]? = some x := by rw [List.getElem?_eq_getElem h, e]
def ci (l : List Nat) : List Int := l.map (fun (n : Nat) => (n : Int))
/-! lengths, under short names -/
theorem Li {l : List Nat} : (ci l).length = l.length := List.length_map ..
theorem Lm {α β : Type} {f : α → β} {l : List α} : (l.map f).length = l.length := List.length_map ..
theorem La {α : Type} {l m : List α} : (l ++ m).length = l.length + m.length := List.length_append ..
theorem Lc {α : Type} {x : α} {l : List α} : (x :: l).length = l.length + 1 := rfl
theorem Ln {α : Type} : ([] : List α).length = 0 := rfl
theorem Lt {α : Type} {l : List α} {n : Nat} : (l.take n).length = min n l.length := List.length_take ..
theorem Ld {α : Type} {l : List α} {n : Nat} : (l.drop n).length = l.length - n := List.length_drop ..
theorem Lr {α : Type} {x : α} {n : Nat} : (List.replicate n x).length = n := List.length_replicate ..
/-! operations whose conditions reckoning decides -/
section
variable {sz bytes s s2 : Nat} {xs ys : List PV} {o : Bool} {k k2 : IntKind} {n m : Int}
@[simp high] theorem appP_ok (h : Ok ((s = sz ∨ s = 0 ∧ xs.length = 0) ∧ (s2 = sz ∨ ys.length = 0) ∧ (xs.length + ys.length) * bytes ≤ 140737488355328)) :
    appP sz bytes (.lst s xs true) (.lst s2 ys o) = some (.lst sz (xs ++ ys) true) := by
  obtain ⟨h1, h2, h3⟩ := h.h
  refine if_pos ⟨?_, ?_, h3⟩
  · exact h1.imp id fun h => ⟨h.1, by rw [List.length_eq_zero_iff.1 h.2]; rfl⟩
  · exact h2.imp id fun h => by rw [List.length_eq_zero_iff.1 h]; rfl
@[simp high] theorem appPs_ok {t : List Int} (h : Ok ((s = 1 ∨ s = 0 ∧ xs.length = 0) ∧ (xs.length + t.length) * bytes ≤ 140737488355328)) :
    appP 1 bytes (.lst s xs true) (.str t) = some (.lst 1 (xs ++ t.map (.int .u8)) true) := by
  obtain ⟨h1, h3⟩ := h.h
  exact if_pos ⟨h1.imp id fun h => ⟨h.1, by rw [List.length_eq_zero_iff.1 h.2]; rfl⟩, rfl, h3⟩
@[simp high] theorem mkP_ok {ag : Bool} {zero : List PV} (h : Ok (0 ≤ n ∧ n ≤ m ∧ m * bytes ≤ 281474976710656)) :
    mkP sz bytes ag zero (.int k n) (.int k2 m) = some (.lst sz (List.replicate n.toNat (if ag then .agg zero else zero.headD .unit)) true) := if_pos h.h
@[simp high] theorem iadP_ok (h : Ok (0 ≤ n ∧ n < xs.length)) : iadP sz (.lst sz xs o) (.int k n) = some (.ip sz xs n.toNat 0) := if_pos ⟨h.h.1, h.h.2, rfl⟩
@[simp high] theorem sliP_hi (h : Ok (0 ≤ n ∧ n ≤ xs.length ∧ (s = sz ∨ xs.length = 0))) : sliP sz (.lst s xs o) none (some (.int k n)) none = some (.lst s (xs.take n.toNat) false) := by
  obtain ⟨h1, h2, h3⟩ := h.h
  have e : (0 ≤ n.toNat ∧ n.toNat ≤ xs.length ∧ (s = sz ∨ xs.isEmpty = true)) := ⟨by omega, by omega, h3.imp id fun h => by rw [List.length_eq_zero_iff.1 h]; rfl⟩
  simp only [sliP, optN, if_pos h1, Option.bind_some, if_pos e, List.drop_zero]
@[simp high] theorem sliP_lo (h : Ok (0 ≤ n ∧ n ≤ xs.length ∧ (s = sz ∨ xs.length = 0))) : sliP sz (.lst s xs o) (some (.int k n)) none none = some (.lst s (xs.drop n.toNat) false) := by
  obtain ⟨h1, h2, h3⟩ := h.h
  have e : (n.toNat ≤ xs.length ∧ xs.length ≤ xs.length ∧ (s = sz ∨ xs.isEmpty = true)) := ⟨by omega, Nat.le_refl _, h3.imp id fun h => by rw [List.length_eq_zero_iff.1 h]; rfl⟩
  simp only [sliP, optN, if_pos h1, Option.bind_some, if_pos e, List.take_length]
@[simp high] theorem sliP_lh (h : Ok (0 ≤ n ∧ n ≤ m ∧ m ≤ xs.length ∧ (s = sz ∨ xs.length = 0))) : sliP sz (.lst s xs o) (some (.int k n)) (some (.int k2 m)) none = some (.lst s ((xs.take m.toNat).drop n.toNat) false) := by
  obtain ⟨h1, h2, h3, h4⟩ := h.h
  have e : (n.toNat ≤ m.toNat ∧ m.toNat ≤ xs.length ∧ (s = sz ∨ xs.isEmpty = true)) := ⟨by omega, by omega, h4.imp id fun h => by rw [List.length_eq_zero_iff.1 h]; rfl⟩
  simp only [sliP, optN, if_pos h1, if_pos (Int.le_trans h1 h2), Option.bind_some, if_pos e]
@[simp high] theorem sliP_lhm {k3 : IntKind} (h : Ok (0 ≤ n ∧ n ≤ m ∧ m ≤ xs.length ∧ (s = sz ∨ xs.length = 0))) : sliP sz (.lst s xs o) (some (.int k n)) (some (.int k2 m)) (some (.int k3 m)) = some (.lst s ((xs.take m.toNat).drop n.toNat) true) := by
  obtain ⟨h1, h2, h3, h4⟩ := h.h
  have e : (n.toNat ≤ m.toNat ∧ m.toNat ≤ xs.length ∧ (s = sz ∨ xs.isEmpty = true)) := ⟨by omega, by omega, h4.imp id fun h => by rw [List.length_eq_zero_iff.1 h]; rfl⟩
  simp only [sliP, optN, if_pos h1, if_pos (Int.le_trans h1 h2), Option.bind_some, if_pos e]
  simp
@[simp high] theorem sliP_hm {k3 : IntKind} (h : Ok (0 ≤ m ∧ m ≤ xs.length ∧ (s = sz ∨ xs.length = 0))) : sliP sz (.lst s xs o) none (some (.int k2 m)) (some (.int k3 m)) = some (.lst s (xs.take m.toNat) true) := by
  obtain ⟨h1, h3, h4⟩ := h.h
  have e : (0 ≤ m.toNat ∧ m.toNat ≤ xs.length ∧ (s = sz ∨ xs.isEmpty = true)) := ⟨by omega, by omega, h4.imp id fun h => by rw [List.length_eq_zero_iff.1 h]; rfl⟩
  simp only [sliP, optN, if_pos h1, Option.bind_some, if_pos e]
  simp
variable {t : List Int}
@[simp high] theorem slsP_hi (h : Ok (0 ≤ n ∧ n ≤ t.length)) : slsP (.str t) none (some (.int k n)) = some (.str (t.take n.toNat)) := by
  obtain ⟨h1, h2⟩ := h.h
  have e : (0 ≤ n.toNat ∧ n.toNat ≤ t.length) := ⟨by omega, by omega⟩
  simp only [slsP, optN, if_pos h1, Option.bind_some, if_pos e, List.drop_zero]
@[simp high] theorem slsP_lo (h : Ok (0 ≤ n ∧ n ≤ t.length)) : slsP (.str t) (some (.int k n)) none = some (.str (t.drop n.toNat)) := by
  obtain ⟨h1, h2⟩ := h.h
  have e : (n.toNat ≤ t.length ∧ t.length ≤ t.length) := ⟨by omega, Nat.le_refl _⟩
  simp only [slsP, optN, if_pos h1, Option.bind_some, if_pos e, List.take_length]
@[simp high] theorem slsP_lh (h : Ok (0 ≤ n ∧ n ≤ m ∧ m ≤ t.length)) : slsP (.str t) (some (.int k n)) (some (.int k2 m)) = some (.str ((t.take m.toNat).drop n.toNat)) := by
  obtain ⟨h1, h2, h3⟩ := h.h
  have e : (n.toNat ≤ m.toNat ∧ m.toNat ≤ t.length) := ⟨by omega, by omega⟩
  simp only [slsP, optN, if_pos h1, if_pos (Int.le_trans h1 h2), Option.bind_some, if_pos e]
@[simp high] theorem cvBP_ok (h : Ok (t.length ≤ 9223372036854775807)) : cvBP (.str t) = some (.lst 1 (t.map (.int .u8)) false) := if_pos h.h
end
end Go.Proofs.YtdphjapaoaokmaaDoor.E
/- A logic of plain values, part 41: a row that nobody else knows, handed on, and taken up again. -/
namespace Go.Proofs.YtdphjapaoaokmaaDoor.E
open Go Go.RowKit
set_option linter.unusedVariables false
set_option linter.unusedSimpArgs false
variable {dq : List Deferred}
attribute [simp] bparts
theorem toksL_plain {cs : List PV} (h : lendL cs = cs) (vs : List Value) : toksL cs vs = [] := by
  have := toksL_lend cs vs
  rwa [h] at this
theorem VRl_plain {o : Bool} {w : World} {g : Ghost} {cs : List PV} {vs : List Value} (h : lendL cs = cs) (hv : VRl false w g cs vs) : VRl o w g cs vs := by
  have := VRl_lend (o := o) cs vs hv
  rwa [h] at this
theorem HRel.keepH {out : List Nat} {w w' : World} {g g' : Ghost} (hE : Evol out w g w' g') :
    ∀ {H : Heap}, HRel w g H → (∀ k cs, hget H k = some cs → w'.heap[k]? = w.heap[k]? ∧ g' k = .mut) → (∀ b ∈ toksH w H, b ∈ out) → HRel w' g' H ∧ toksH w' H = toksH w H
  | [], hg, _, _ => ⟨GL.evol hE hg, rfl⟩
  | (b, cs) :: H, h, hm, ho => by
    obtain ⟨h0, h1, h2, ⟨c, e, hc, hv⟩, hH⟩ := h
    obtain ⟨k1, k2⟩ := hm b cs (by simp [hget])
    obtain ⟨i1, i2⟩ := HRel.keepH hE hH (fun k ds hk => hm k ds (by
      have hne : b ≠ k := fun e => by subst e; rw [h0] at hk; cases hk
      simp only [hget, if_neg hne]
      exact hk)) (fun x hx => ho x (by simp [toksH, hx]))
    have ht : toksB w' b cs = toksB w b cs := by simp only [toksB, k1]
    refine ⟨⟨h0, k2, h2, ⟨c, e, k1.trans hc, VRl_mono hE true cs _ (fun _ x hx => ho x (by simp [toksH, toksB, hc, hx])) hv⟩, i1⟩, by simp only [toksH, ht, i2]⟩
/-- All that is owned lies in tails. -/
theorem Rel.owned {out : List Nat} {st : List PV} {H : Heap} {a : Act} {w : World} {g : Ghost} (h : Rel dq out st H a w g) : ∀ t ∈ out ++ toksL st a.tmps.toList ++ toksH w H, ∃ f, g t = .tail f := fun t ht => by
  simp only [List.mem_append] at ht
  rcases ht with (ht | ht) | ht
  · exact h.wr.outT t ht
  · exact toksL_tail st _ h.tm t ht
  · exact toksH_tail h.hp t ht
/-- A ghost that turns at one block, which nobody reads. -/
theorem evol_upd {out : List Nat} {w : World} {g : Ghost} {b : Nat} {m : Mode} (h1 : g b ≠ .imm) (h2 : ∀ f, g b = .tail f → f = 0) (ho : b ∉ out) : Evol out w g w (upd g b m) := by
  refine ⟨rfl, rfl, rfl, Nat.le_refl _, fun k hk hi => ⟨rfl, ?_⟩, fun k f c e fz h0 hf hc => ⟨c, fz, hc, rfl, .inr ⟨f, Nat.le_refl _, ?_⟩⟩, fun k hk => ⟨rfl, ?_⟩⟩
  · rw [upd_ne _ _ (fun e => by subst e; exact h1 hi)]; exact hi
  · rw [upd_ne _ _ (fun e => by subst e; have := h2 f hf; omega)]; exact hf
  · rw [upd_ne _ _ (fun e => by subst e; exact ho hk)]
theorem lendL_replicate {z : PV} (hz : lend z = z) (k : Nat) : lendL (List.replicate k z) = List.replicate k z := by
  rw [lendL_eq_map, List.map_replicate, hz]
theorem VRl_replicate {o : Bool} {w : World} {g : Ghost} {z : PV} : ∀ {us : List Value}, (∀ u ∈ us, VR o w g z u) → VRl o w g (List.replicate us.length z) us
  | [], _ => rfl
  | u :: us, h => ⟨u, us, rfl, h u (List.mem_cons_self ..), VRl_replicate fun x hx => h x (List.mem_cons_of_mem _ hx)⟩
theorem xl_cells {w : World} {g : Ghost} {cs : List PV} {z : PV} {vs us : List Value} {c : Array Value} (hall : cs.all PV.isCell = true) (hzc : z.isCell = true) (hcs : lendL cs = cs) (hz : lend z = z) (hvu : c.toList = vs ++ us) (hcv : VRl false w g cs vs) (hu : ∀ u ∈ us, VR false w g z u) :
    (cs ++ List.replicate us.length z).all PV.isCell = true ∧ lendL (cs ++ List.replicate us.length z) = cs ++ List.replicate us.length z ∧ VRl false w g (cs ++ List.replicate us.length z) c.toList := by
  refine ⟨by rw [List.all_append, hall, Bool.true_and, List.all_eq_true]; intro x hx; rw [List.eq_of_mem_replicate hx]; exact hzc, by rw [lendL_append, hcs, lendL_replicate hz], ?_⟩
  rw [hvu]
  exact VRl_append hcv (VRl_replicate hu)
section
variable {P : Program} {Q : PPost} {st : List PV} {H : Heap} {out : List Nat} {a : Act} {w : World} {g : Ghost}
theorem wrel_upd {b : Nat} {m : Mode} (h : WRel out w g) (hb : b < w.heap.size) (ho : b ∉ out) (hm : ∀ f, m = .tail f → ∃ c e, w.heap[b]? = some (.cells c e (0, 0)) ∧ f ≤ c.size) : WRel out w (upd g b m) := by
  refine ⟨fun k hk => ?_, fun k f hf => ?_, fun k hk => ?_⟩
  · rw [upd_ne _ _ (by omega)]; exact h.fresh k hk
  · by_cases e : k = b
    · subst e; rw [upd_same] at hf; exact hm f hf
    · rw [upd_ne _ _ e] at hf; exact h.tl k f hf
  · obtain ⟨f, hf⟩ := h.outT k hk
    exact ⟨f, by rw [upd_ne _ _ (fun e => by subst e; exact ho hk)]; exact hf⟩
/-- A row becomes a slice that nobody else knows. -/
theorem pack_rel {b m cap i k : Nat} {ds cs : List PV} {z : PV} (h : Rel dq out st ((b, cs) :: H) a w g) (hi : st[i]? = some (.row b 0 m cap)) (hm1 : m ≤ cap) (hm : cap ≤ 9223372036854775807) (hcs : lendL cs = cs) (hz : z.isCell = true) (hd : cs = ds ++ List.replicate k z) :
    Rel dq out (st.set i (.xl m ds z)) H a w (upd g b (.tail 0)) ∧ Evol out w g w (upd g b (.tail 0)) := by
  obtain ⟨h0, hmut, hall, ⟨c, e, hc, hcv⟩, hH⟩ := h.hp
  have hbl : b < w.heap.size := lt_of_heap hc
  have hne : ∀ t ∈ out ++ toksL st a.tmps.toList ++ toksH w H, t ≠ b := fun t ht e => by
    obtain ⟨f, hf⟩ := h.owned t (by
      simp only [List.mem_append, toksH] at ht ⊢
      rcases ht with (ht | ht) | ht
      · exact .inl (.inl ht)
      · exact .inl (.inr ht)
      · exact .inr (.inr ht))
    rw [e, hmut] at hf
    cases hf
  have hE : Evol (out ++ toksL st a.tmps.toList ++ toksH w H) w g w (upd g b (.tail 0)) := evol_upd (by rw [hmut]; simp) (fun f hf => by rw [hmut] at hf; cases hf) (fun hm => hne b hm rfl)
  have hno : b ∉ out := fun hm => hne b (by simp [hm]) rfl
  have hT : toksB w b cs = [] := by simp only [toksB, hc]; exact toksL_plain hcs _
  obtain ⟨hH', hTH⟩ := HRel.keepH (H := H) hE hH (fun k ds hk => by
    refine ⟨rfl, ?_⟩
    have hkb : k ≠ b := fun e => by subst e; rw [h0] at hk; cases hk
    rw [upd_ne _ _ hkb]
    exact (hH.mut_of_get hk).1) (fun t ht => by simp [ht])
  obtain ⟨v, hv, hvr⟩ := VRl_get h.tm hi
  have hvr' : v = .slice (some ⟨b, 0, none⟩) m cap := hvr
  subst hvr'
  have hset : a.tmps.toList.set i (.slice (some ⟨b, 0, none⟩) m cap) = a.tmps.toList := by
    obtain ⟨hl, he⟩ := List.getElem?_eq_some_iff.1 hv
    rw [← he]
    exact List.set_getElem_self hl
  have hx : VR true w (upd g b (.tail 0)) (.xl m ds z) (.slice (some ⟨b, 0, none⟩) m cap) := by
    have hw := VRl_weak _ _ (VRl_mono hE true cs _ (fun _ t ht => by rw [toksL_plain hcs] at ht; cases ht) hcv)
    have hlen := VRl_length hw
    rw [hd] at hw hall
    have h1 := VRl_take ds.length hw
    rw [List.take_left, List.drop_left] at h1
    rw [List.all_append, Bool.and_eq_true] at hall
    refine ⟨b, cap, rfl, hm1, by simp only [maxLen]; omega, fun _ => ⟨c, e, c.toList.take ds.length, c.toList.drop ds.length, hc, upd_same _ _ _, hall.1, hz, (List.take_append_drop _ _).symm, h1.1, fun u hu => ?_⟩⟩
    obtain ⟨j, hj, rfl⟩ := List.mem_iff_getElem.1 hu
    have hjl : j < k := by
      have := VRl_length h1.2
      rw [List.length_replicate] at this
      omega
    obtain ⟨v2, e1, e2⟩ := VRl_get h1.2 (i := j) (x := z) (by rw [List.getElem?_replicate, if_pos hjl])
    rw [List.getElem?_eq_getElem hj] at e1
    cases e1
    exact e2
  have htm := VRl_set i (VRl_mono hE true st _ (fun _ t ht => by simp [ht]) h.tm) hx
  rw [hset] at htm
  refine ⟨⟨wrel_upd h.wr hbl hno (fun f hf => by cases hf; exact ⟨c, e, hc, Nat.zero_le _⟩), hH', htm, fun t => ?_, h.df⟩, hE.sub (fun t ht => by simp [ht])⟩
  rw [hTH]
  have h1 := count_toksL_set t st a.tmps.toList i (.xl m ds z) (.row b 0 m cap) (.slice (some ⟨b, 0, none⟩) m cap) (.slice (some ⟨b, 0, none⟩) m cap) hi hv
  rw [hset] at h1
  have h2 := h.un t
  simp only [toksH, List.count_append, hT, List.count_nil, toks] at h1 h2
  by_cases e : t = b
  · subst e
    have z1 : (toksL st a.tmps.toList).count t = 0 := count_mem_zero fun hm => hne t (by simp [hm]) rfl
    have z2 : (toksH w H).count t = 0 := count_mem_zero fun hm => hne t (by simp [hm]) rfl
    have z3 : out.count t = 0 := count_mem_zero hno
    simp at h1
    omega
  · have : ([b] : List Nat).count t = 0 := by
      rw [List.count_singleton, if_neg (by simpa using Ne.symm e)]
    omega
/-- A block that is owned by what was just let go. -/
theorem adopt_rel {b : Nat} {cs : List PV} {c : Array Value} {e : TypeId} (h : Rel dq out st H a w g) (hc : w.heap[b]? = some (.cells c e (0, 0))) (hg : g b = .tail 0) (hall : cs.all PV.isCell = true) (hcs : lendL cs = cs) (hv : VRl false w g cs c.toList)
    (h0 : (toksL st a.tmps.toList).count b + (toksH w H).count b + out.count b = 0) : hget H b = none ∧ Rel dq out st ((b, cs) :: H) a w (upd g b .mut) ∧ Evol out w g w (upd g b .mut) := by
  have hno : ∀ t ∈ out ++ toksL st a.tmps.toList ++ toksH w H, t ≠ b := fun t ht e => by
    subst e
    simp only [List.mem_append] at ht
    rcases ht with (ht | ht) | ht
    · have := List.count_pos_iff.2 ht; omega
    · have := List.count_pos_iff.2 ht; omega
    · have := List.count_pos_iff.2 ht; omega
  have hE : Evol (out ++ toksL st a.tmps.toList ++ toksH w H) w g w (upd g b .mut) := evol_upd (by rw [hg]; simp) (fun f hf => by rw [hg] at hf; cases hf; rfl) (fun hm => hno b hm rfl)
  have hbl : b < w.heap.size := lt_of_heap hc
  have hnone : hget H b = none := by
    cases hh : hget H b with
    | none => rfl
    | some q =>
      have := (h.hp.mut_of_get hh).1
      rw [hg] at this
      cases this
  obtain ⟨hH', hTH⟩ := HRel.keep (H := H) hE (fun k hk => by
    refine ⟨rfl, ?_⟩
    by_cases e : k = b
    · subst e; exact upd_same _ _ _
    · rw [upd_ne _ _ e]; exact hk) h.hp (fun t ht => by simp [ht])
  refine ⟨hnone, ⟨wrel_upd h.wr hbl (fun hm => hno b (by simp [hm]) rfl) (fun f hf => by cases hf), ⟨hnone, upd_same _ _ _, hall, ⟨c, e, hc, VRl_plain hcs (VRl_mono hE false cs _ (fun h => by cases h) hv)⟩, hH'⟩,
    VRl_mono hE true st _ (fun _ t ht => by simp [ht]) h.tm, fun t => ?_, h.df⟩, hE.sub (fun t ht => by simp [ht])⟩
  have hT : toksB w b cs = [] := by simp only [toksB, hc]; exact toksL_plain hcs _
  simp only [toksH, hT, List.nil_append, hTH]
  exact h.un t
/-- A slice of a slot that nobody else knows is a row from here on. -/
theorem pwp_thawS {pc : PCode} {i m : Nat} {cs : List PV} {z : PV} (hi : st[i]? = some (.xl m cs z)) (hcs : lendL cs = cs) (hz : lend z = z) (h : ∀ b cap k, m ≤ cap → cap ≤ 9223372036854775807 → hget H b = none → pwp P pc Q (st.set i (.row b 0 m cap)) ((b, cs ++ List.replicate k z) :: H)) : pwp P pc Q st H := by
  intro hh c0 hc0 rr hrr dq out a w g hR
  obtain ⟨v, hv, hvr⟩ := VRl_get hR.tm hi
  obtain ⟨b, cap, rfl, hm1, hm2, hx⟩ := hvr
  obtain ⟨c, e, vs, us, hc, hg, hall, hzc, hvu, hcv, hu⟩ := hx rfl
  obtain ⟨hall, hcs, hcv⟩ := xl_cells hall hzc hcs hz hvu hcv hu
  have hset : a.tmps.toList.set i (.slice (some ⟨b, 0, none⟩) m cap) = a.tmps.toList := by
    obtain ⟨hl, he⟩ := List.getElem?_eq_some_iff.1 hv
    rw [← he]
    exact List.set_getElem_self hl
  have htm := VRl_set (x := .row b 0 m cap) i hR.tm (rfl : VR true w g (.row b 0 m cap) (.slice (some ⟨b, 0, none⟩) m cap))
  rw [hset] at htm
  have hcnt := fun t => count_toksL_set t st a.tmps.toList i (.row b 0 m cap) (.xl m cs z) (.slice (some ⟨b, 0, none⟩) m cap) (.slice (some ⟨b, 0, none⟩) m cap) hi hv
  rw [hset] at hcnt
  simp only [toks, List.count_nil, Nat.add_zero] at hcnt
  have hR1 : Rel dq out (st.set i (.row b 0 m cap)) H a w g := ⟨hR.wr, hR.hp, htm, fun t => by have := hR.un t; have := hcnt t; omega, hR.df⟩
  obtain ⟨k1, k2, k3⟩ := adopt_rel hR1 hc hg hall hcs hcv (by
    have := hcnt b
    have := hR.un b
    simp at *
    omega)
  exact wpIn_mono (h b cap us.length hm1 (by simp only [maxLen] at hm2; omega) k1 hh c0 hc0 rr hrr dq out a w _ k2) fun e a' w' hp => hp.trans k3
/-- .. one of a cell. -/
theorem pwp_thawH {pc : PCode} {s j m : Nat} {cs ds : List PV} {z : PV} (hs : hget H s = some ds) (hj : ds[j]? = some (.xl m cs z)) (hcs : lendL cs = cs) (hz : lend z = z) (h : ∀ b cap k, m ≤ cap → cap ≤ 9223372036854775807 → hget H b = none → pwp P pc Q st ((b, cs ++ List.replicate k z) :: hset H s (ds.set j (.row b 0 m cap)))) : pwp P pc Q st H := by
  intro hh c0 hc0 rr hrr dq out a w g hR
  obtain ⟨hmut, hall, c2, e2, hc2, hcv2⟩ := hR.hp.mut_of_get hs
  obtain ⟨v, hv, hvr⟩ := VRl_get hcv2 hj
  obtain ⟨b, cap, rfl, hm1, hm2, hx⟩ := hvr
  obtain ⟨c, e, vs, us, hc, hg, hcall, hzc, hvu, hcv, hu⟩ := hx rfl
  obtain ⟨hcall, hcs, hcv⟩ := xl_cells hcall hzc hcs hz hvu hcv hu
  have hset' : c2.toList.set j (.slice (some ⟨b, 0, none⟩) m cap) = c2.toList := by
    obtain ⟨hl, he⟩ := List.getElem?_eq_some_iff.1 hv
    rw [← he]
    exact List.set_getElem_self hl
  have hds : VRl true w g (ds.set j (.row b 0 m cap)) c2.toList := by
    have := VRl_set (x := .row b 0 m cap) j hcv2 (rfl : VR true w g (.row b 0 m cap) (.slice (some ⟨b, 0, none⟩) m cap))
    rwa [hset'] at this
  have hcnt := fun t => count_toksL_set t ds c2.toList j (.row b 0 m cap) (.xl m cs z) (.slice (some ⟨b, 0, none⟩) m cap) (.slice (some ⟨b, 0, none⟩) m cap) hj hv
  rw [hset'] at hcnt
  simp only [toks, List.count_nil, Nat.add_zero] at hcnt
  have hall2 : (ds.set j (.row b 0 m cap)).all PV.isCell = true := by
    rw [List.all_eq_true] at hall ⊢
    intro x hx
    rcases List.mem_or_eq_of_mem_set hx with hx | rfl
    · exact hall x hx
    · rfl
  have hH1 : HRel w g (hset H s (ds.set j (.row b 0 m cap))) := HRel_hset (out := toksH w H) (Evol.refl _ _ _) (fun _ _ => rfl) hall2 ⟨c2, e2, hc2, hds⟩ hR.hp hs (fun _ h => h)
  have hTs := fun t => toksH_hset t (w := w) (w' := w) (g := g) (b := s) (fun _ _ => rfl) (ds := ds.set j (.row b 0 m cap)) hR.hp hs
  simp only [toksB, hc2] at hTs
  have hR1 : Rel dq out st (hset H s (ds.set j (.row b 0 m cap))) a w g := ⟨hR.wr, hH1, hR.tm, fun t => by have := hR.un t; have := hcnt t; have := hTs t; omega, hR.df⟩
  obtain ⟨k1, k2, k3⟩ := adopt_rel hR1 hc hg hcall hcs hcv (by
    have h1 := hcnt b
    have h2 := hR.un b
    have h3 := hTs b
    have h4 : ([b] : List Nat).count b = 1 := by simp
    omega)
  have hn : hget H b = none := by
    cases hh : hget H b with
    | none => rfl
    | some q =>
      have := (hR.hp.mut_of_get hh).1
      rw [hg] at this
      cases this
  exact wpIn_mono (h b cap us.length hm1 (by simp only [maxLen] at hm2; omega) hn hh c0 hc0 rr hrr dq out a w _ k2) fun e a' w' hp => hp.trans k3
/-- A row is handed on as one that nobody else knows. -/
theorem pwp_pack {pc : PCode} {b m cap i k : Nat} {ds : List PV} {z : PV} (hi : st[i]? = some (.row b 0 m cap)) (hm1 : m ≤ cap) (hm : cap ≤ 9223372036854775807) (hds : lendL ds = ds) (hz : z.isCell = true) (hz2 : lend z = z) (h : pwp P pc Q (st.set i (.xl m ds z)) H) :
    pwp P pc Q st ((b, ds ++ List.replicate k z) :: H) := by
  intro hh c0 hc0 rr hrr dq out a w g hR
  obtain ⟨k1, k2⟩ := pack_rel hR hi hm1 hm (by rw [lendL_append, hds, lendL_replicate hz2]) hz rfl
  exact wpIn_mono (h hh c0 hc0 rr hrr dq out a w _ k1) fun e a' w' hp => hp.trans k2
/-- .. of slots that are known. -/
theorem pwp_packM {pc : PCode} {n b m cap k : Nat} (i : Nat) {l : List (Nat × PV)} {ds : List PV} {z : PV} (hin : i < n) (hi : getS l i = .row b 0 m cap) (hm1 : m ≤ cap) (hm : cap ≤ 9223372036854775807) (hds : lendL ds = ds) (hz : z.isCell = true) (hz2 : lend z = z) (h : pwp P pc Q (MS n ((i, .xl m ds z) :: l)) H) :
    pwp P pc Q (MS n l) ((b, ds ++ List.replicate k z) :: H) :=
  pwp_pack (i := i) (by rw [MS_getElem?, if_pos hin, hi]) hm1 hm hds hz hz2 (by rw [MS_set hin]; exact h)
theorem pwp_thawM {pc : PCode} {n m : Nat} (i : Nat) {l : List (Nat × PV)} {cs : List PV} {z : PV} (hin : i < n) (hi : getS l i = .xl m cs z) (hcs : lendL cs = cs) (hz : lend z = z)
    (h : ∀ b cap k, m ≤ cap → cap ≤ 9223372036854775807 → hget H b = none → pwp P pc Q (MS n ((i, .row b 0 m cap) :: l)) ((b, cs ++ List.replicate k z) :: H)) : pwp P pc Q (MS n l) H :=
  pwp_thawS (i := i) (by rw [MS_getElem?, if_pos hin, hi]) hcs hz fun b cap k h1 h2 h3 => by rw [MS_set hin]; exact h b cap k h1 h2 h3
end
end Go.Proofs.YtdphjapaoaokmaaDoor.E
