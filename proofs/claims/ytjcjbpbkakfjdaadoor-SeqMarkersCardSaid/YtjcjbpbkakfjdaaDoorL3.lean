/- A logic of plain values over the model's walk, part 3. -/
import Derived.RangeFuncIn
import Derived.RangeFuncRecord
import Derived.RangeFuncSeq
import Derived.Test.YtjcjbpbkakfjdaaDoorL2
/- A logic of plain values, part 27: code run on given values, where nothing is written. -/
namespace Go.Proofs.YtjcjbpbkakfjdaaDoor.E
open Go Go.RowKit
set_option linter.unusedVariables false
set_option linter.unusedSimpArgs false
def evOp (call : Nat → List PV → Option PV) (op : POp) (st : List PV) : Option (List PV) :=
  match op.k with
  | .callF f as tk => (call f (callArgs st as tk)).map fun r => putSt (callTake st as tk) op.dst r
  | .callV fx as => match arg st fx with
    | .fn (.func f) first cap => (call f (lendL first ++ as.map (arg st) ++ lendL cap)).map fun r => putSt st op.dst r
    | _ => none
  | .eqN ne x => match arg st x with
    | .lst _ (_ :: _) _ => some (putSt st op.dst (.bool ne))
    | _ => none
  | k => (pev st [] k).map fun r => putSt (ptake st k) op.dst r
def evOps (call : Nat → List PV → Option PV) : List POp → List PV → Option (List PV)
  | [], st => some st
  | op :: ops, st => match op.gd with
    | none => (evOp call op st).bind (evOps call ops)
    | some (t, want) => match gval (st.getD t .unit) with
      | some b => if b = some want then (evOp call op st).bind (evOps call ops) else evOps call ops (putSt st op.dst (.tup []))
      | none => none
def notN (op : POp) : Bool := match op.k with | .eqN _ _ => false | _ => true
def evLoop (f : List PV → Option (PExit × List PV)) : Nat → List PV → Option (PExit × List PV)
  | 0, _ => none
  | n + 1, st => match f st with
    | some (.normal, st') => evLoop f n st'
    | r => r
def ev (call : Nat → List PV → Option PV) (n : Nat) : PCode → List PV → Option (PExit × List PV)
  | .skip, st => some (.normal, st)
  | .region ops, st => (evOps call ops st).map fun st' => (.normal, st')
  | .drawN _ _ _, _ => none
  | .rangeF _ _ _ _, _ => none
  | .draw ops _, st => if ops.all notN = true then (evOps call ops st).map fun st' => (.normal, st') else none
  | .seq x y, st => match ev call n x st with
    | some (.normal, st') => ev call n y st'
    | r => r
  | .cond p x y, st => match argT st p with
    | .bool true => ev call n x st
    | .bool false => ev call n y st
    | _ => none
  | .block id x, st => match ev call n x st with
    | some (.exit i, st') => if i = id then some (.normal, st') else some (.exit i, st')
    | r => r
  | .loop x, st => evLoop (ev call n x) n st
  | .exit id, st => some (.exit id, st)
  | .ret, st => some (.ret, st)
def evF (tab : Nat → Option PFn) (prim : Nat → List PV → Option PV) (n : Nat) : Nat → Nat → List PV → Option PV
  | 0, _, _ => none
  | d + 1, f, args => match tab f with
    | none => prim f args
    | some p => match ev (evF tab prim n d) n p.body (args ++ List.replicate (p.ntmps - args.length) .unit) with
      | some (.normal, st) => (resL st [] p.res).map resV
      | some (.ret, st) => (resL st [] p.res).map resV
      | _ => none
section
variable {P : Program}
theorem pev_nil {st : List PV} {H : Heap} {k : PK} {r : PV} (h : pev st [] k = some r) : pev st H k = some r := by
  by_cases hk : isLd k = true
  · cases k with
    | ld sz ag tk x =>
      cases tk with
      | true => exact h
      | false =>
        simp only [pev] at h ⊢
        unfold ldP at h ⊢
        split at h
        · exact h
        · cases h
        · cases h
    | _ => cases hk
  · rw [← h]
    exact pev_same (fun _ _ => rfl) (.inl (by simpa using hk))
theorem ldCells_nil {st : List PV} {k : PK} {r : PV} (h : pev st [] k = some r) : ldCells st k = none := by
  cases k with
  | ld sz ag tk x =>
    cases tk with
    | true => cases h
    | false =>
      simp only [pev] at h
      unfold ldP at h
      split at h
      · rename_i e
        simp [ldCells, e]
      · cases h
      · cases h
  | _ => rfl
theorem resL_nil {st : List PV} {H : Heap} : ∀ {rs : List RV} {l : List PV}, resL st [] rs = some l → resL st H rs = some l
  | [], l, h => h
  | .t i :: rs, l, h => by
    obtain ⟨q, h1, rfl⟩ := map_spec h
    simp only [resL, resL_nil h1, Option.map_some]
  | .c i sz ag :: rs, l, h => by
    obtain ⟨q, h1, h2⟩ := bind_spec h
    split at h1
    · cases h1
    · cases h1
def Good (P : Program) (call : Nat → List PV → Option PV) : Prop := ∀ f args r, call f args = some r → PSpec P f args r
theorem evOp_step {call : Nat → List PV → Option PV} (hc : Good P call) {op : POp} {st st' : List PV} (h : evOp call op st = some st') {K : List PV → Heap → Prop} {H : Heap} (hK : K st' H) : stepOp P op K st H := by
  obtain ⟨d, gd, k⟩ := op
  have pure_ : (pev st [] k).map (fun r => putSt (ptake st k) d r) = some st' → ∃ r, pev st H k = some r ∧ K (putSt (ptake st k) d r) H := fun h => by
    obtain ⟨r, h1, rfl⟩ := map_spec h
    exact ⟨r, pev_nil h1, hK⟩
  have no : (pev st [] k).map (fun r => putSt (ptake st k) d r) = some st' → pev st [] k = none → False := fun h e => by rw [e] at h; cases h
  cases k with
  | callF f as tk =>
    obtain ⟨r, h1, rfl⟩ := map_spec h
    exact ⟨_, hc _ _ _ h1 H, fun r' H' ⟨e1, e2⟩ => by subst e1 e2; exact hK⟩
  | callV fx as =>
    unfold evOp at h
    simp only at h
    split at h
    · rename_i f first cap e
      obtain ⟨r, h1, rfl⟩ := map_spec h
      exact ⟨_, _, _, _, e, hc _ _ _ h1 H, fun r' H' ⟨e1, e2⟩ => by subst e1 e2; exact hK⟩
    · cases h
  | al z => exact (no h rfl).elim
  | bx s x => exact (no h rfl).elim
  | appR s b z x y => exact (no h rfl).elim
  | cpy s x y => exact (no h rfl).elim
  | clr s z x => exact (no h rfl).elim
  | cap x => exact (no h rfl).elim
  | sto s x v => exact (no h rfl).elim
  | eqN ne x =>
    unfold evOp at h
    simp only at h
    split at h
    · rename_i s y ys o e
      cases h
      exact ⟨s, y :: ys, o, e, fun _ => hK, fun hx => by cases hx⟩
    · cases h
  | ld s ag tk x =>
    cases tk with
    | true => exact (no h rfl).elim
    | false => exact pure_ h
  | mk s b ag z l c mu =>
    cases mu with
    | true => exact (no h rfl).elim
    | false => exact pure_ h
  | bsl s n ag z ps mu =>
    cases mu with
    | true => exact (no h rfl).elim
    | false => exact pure_ h
  | _ => exact pure_ h
theorem evOps_run {call : Nat → List PV → Option PV} (hc : Good P call) {K : List PV → Heap → Prop} {H : Heap} : ∀ {ops : List POp} {st st' : List PV}, evOps call ops st = some st' → K st' H → runOps P ops K st H
  | [], st, st', h, hK => by cases h; exact hK
  | op :: ops, st, st', h, hK => by
    unfold evOps at h
    unfold runOps
    split at h
    · rename_i hg
      obtain ⟨s1, h1, h2⟩ := bind_spec h
      rw [hg]
      exact evOp_step hc h1 (evOps_run hc h2 hK)
    · rename_i t want hg
      rw [hg]
      split at h
      · rename_i b hb
        refine ⟨b, hb, ?_⟩
        split at h
        · rename_i hbw
          obtain ⟨s1, h1, h2⟩ := bind_spec h
          rw [if_pos hbw]
          exact evOp_step hc h1 (evOps_run hc h2 hK)
        · rename_i hbw
          rw [if_neg hbw]
          exact evOps_run hc h hK
      · cases h
theorem evOp_plan {call : Nat → List PV → Option PV} (hc : Good P call) {late : List (Nat × Nat)} {i : Nat} {op : POp} {st st' : List PV} (hN : notN op = true) (h : evOp call op st = some st') {K : Uses → Uses → List PV → Heap → Prop} {H : Heap} (hK : K [] [] st' H) : planOp P late op i [] [] K st H := by
  obtain ⟨d, gd, k⟩ := op
  have pure_ : (pev st [] k).map (fun r => putSt (ptake st k) d r) = some st' → ∃ r, pev st H k = some r ∧ (∀ c, ldCells st k = some c → ∀ e ∈ ([] : Uses), (i, e.1) ∈ late → apartC c e.2) ∧
      K (match ldCells st k with | some c => (i, c) :: [] | none => []) [] (putSt (ptake st k) d r) H := fun h => by
    obtain ⟨r, h1, rfl⟩ := map_spec h
    refine ⟨r, pev_nil h1, fun c _ e he => (by cases he), ?_⟩
    rw [ldCells_nil h1]
    exact hK
  have no : (pev st [] k).map (fun r => putSt (ptake st k) d r) = some st' → pev st [] k = none → False := fun h e => by rw [e] at h; cases h
  cases k with
  | callF f as tk =>
    obtain ⟨r, h1, rfl⟩ := map_spec h
    exact ⟨r, hc _ _ _ h1, hK⟩
  | callV fx as =>
    unfold evOp at h
    simp only at h
    split at h
    · rename_i f first cap e
      obtain ⟨r, h1, rfl⟩ := map_spec h
      exact ⟨_, _, _, r, e, hc _ _ _ h1, hK⟩
    · cases h
  | al z => exact (no h rfl).elim
  | eqN ne x => cases hN
  | bx s x => exact (no h rfl).elim
  | appR s b z x y => exact (no h rfl).elim
  | cpy s x y => exact (no h rfl).elim
  | clr s z x => exact (no h rfl).elim
  | cap x => exact (no h rfl).elim
  | sto s x v => exact (no h rfl).elim
  | ld s ag tk x =>
    cases tk with
    | true => exact (no h rfl).elim
    | false => exact pure_ h
  | mk s b ag z l c mu =>
    cases mu with
    | true => exact (no h rfl).elim
    | false => exact pure_ h
  | bsl s n ag z ps mu =>
    cases mu with
    | true => exact (no h rfl).elim
    | false => exact pure_ h
  | _ => exact pure_ h
theorem evOps_plan {call : Nat → List PV → Option PV} (hc : Good P call) {late : List (Nat × Nat)} {K : List PV → Heap → Prop} {H : Heap} : ∀ {ops : List POp} {i : Nat} {st st' : List PV}, ops.all notN = true → evOps call ops st = some st' → K st' H → planOps P late ops i [] [] K st H
  | [], i, st, st', hN, h, hK => by cases h; exact hK
  | op :: ops, i, st, st', hN, h, hK => by
    simp only [List.all_cons, Bool.and_eq_true] at hN
    obtain ⟨hn, hN⟩ := hN
    unfold evOps at h
    unfold planOps
    split at h
    · rename_i hg
      obtain ⟨s1, h1, h2⟩ := bind_spec h
      rw [hg]
      exact evOp_plan hc hn h1 (evOps_plan hc hN h2 hK)
    · rename_i t want hg
      rw [hg]
      split at h
      · rename_i b hb
        refine ⟨b, hb, ?_⟩
        split at h
        · rename_i hbw
          obtain ⟨s1, h1, h2⟩ := bind_spec h
          rw [if_pos hbw]
          exact evOp_plan hc hn h1 (evOps_plan hc hN h2 hK)
        · rename_i hbw
          rw [if_neg hbw]
          exact evOps_plan hc hN h hK
      · cases h
theorem ev_loop {f : List PV → Option (PExit × List PV)} {x : PCode} {H : Heap} (hf : ∀ {st st' e} {Q : PPost}, f st = some (e, st') → Q e st' H → pwp P x Q st H) :
    ∀ {n : Nat} {st st' : List PV} {e : PExit} {Q : PPost}, evLoop f n st = some (e, st') → Q e st' H → pwp P (.loop x) Q st H := by
  intro n st st' e Q h hQ
  refine pwp_loop (fun m s H' => H' = H ∧ evLoop f m s = some (e, st')) (n := n) ⟨rfl, h⟩ ?_
  rintro m s H' ⟨rfl, hm⟩
  cases m with
  | zero => cases hm
  | succ m =>
    unfold evLoop at hm
    split at hm
    · rename_i s' hs
      exact hf hs ⟨m, Nat.lt_succ_self m, rfl, hm⟩
    · rename_i hne
      refine hf hm ?_
      cases e with
      | normal => exact absurd hm (by intro hm; exact hne _ hm)
      | exit i => exact hQ
      | ret => exact hQ
theorem ev_sound (hmix : P.follows .mixedOrders = true) {call : Nat → List PV → Option PV} (hc : Good P call) {n : Nat} {H : Heap} : ∀ {pc : PCode} {st st' : List PV} {e : PExit} {Q : PPost}, ev call n pc st = some (e, st') → Q e st' H → pwp P pc Q st H
  | .skip, st, st', e, Q, h, hQ => by cases h; exact pwp_skip hQ
  | .exit id, st, st', e, Q, h, hQ => by cases h; exact pwp_exit hQ
  | .ret, st, st', e, Q, h, hQ => by cases h; exact pwp_ret hQ
  | .region ops, st, st', e, Q, h, hQ => by
    obtain ⟨s1, h1, h2⟩ := map_spec h
    cases h2
    exact pwp_region (evOps_run hc h1 hQ)
  | .drawN _ _ _, st, st', e, Q, h, hQ => by cases h
  | .rangeF _ _ _ _, st, st', e, Q, h, hQ => by cases h
  | .draw ops late, st, st', e, Q, h, hQ => by
    unfold ev at h
    obtain ⟨hN, h⟩ := ite_spec h
    obtain ⟨s1, h1, h2⟩ := map_spec h
    cases h2
    exact pwp_draw hmix (evOps_plan hc hN h1 hQ)
  | .seq x y, st, st', e, Q, h, hQ => by
    unfold ev at h
    split at h
    · rename_i s1 h1
      exact pwp_seq (ev_sound hmix hc h1 (ev_sound hmix hc (Q := Q) h hQ))
    · rename_i hne
      refine pwp_seq (ev_sound hmix hc h ?_)
      cases e with
      | normal => exact absurd h (by intro h; exact hne _ h)
      | exit i => exact hQ
      | ret => exact hQ
  | .cond p x y, st, st', e, Q, h, hQ => by
    unfold ev at h
    split at h
    · rename_i hb
      exact pwp_cond hb (fun _ => ev_sound hmix hc h hQ) (fun h => by cases h)
    · rename_i hb
      exact pwp_cond hb (fun h => by cases h) (fun _ => ev_sound hmix hc h hQ)
    · cases h
  | .block id x, st, st', e, Q, h, hQ => by
    unfold ev at h
    refine pwp_block ?_
    split at h
    · rename_i i s1 h1
      refine ev_sound hmix hc h1 ?_
      unfold inBlockP
      split at h
      · rename_i hi
        cases h
        simp only [if_pos hi]
        exact hQ
      · rename_i hi
        cases h
        simp only [if_neg hi]
        exact hQ
    · rename_i hne
      refine ev_sound hmix hc h ?_
      cases e with
      | normal => exact hQ
      | exit i => exact absurd h (by intro h; exact hne _ _ h)
      | ret => exact hQ
  | .loop x, st, st', e, Q, h, hQ => ev_loop (fun h1 h2 => ev_sound hmix hc h1 h2) h hQ
theorem evF_sound (hmix : P.follows .mixedOrders = true) {tab : Nat → Option PFn} (htab : ∀ f p, tab f = some p → ∃ h, compF P h f = some p) {prim : Nat → List PV → Option PV} (hprim : Good P prim) {n : Nat} : ∀ d, Good P (evF tab prim n d)
  | 0, f, args, r, h => by cases h
  | d + 1, f, args, r, h => by
    intro H
    unfold evF at h
    split at h
    · exact hprim f args r h H
    · rename_i p hp
      obtain ⟨hh, hcf⟩ := htab f p hp
      refine spec_of_body hcf ?_
      split at h
      · rename_i st hst
        obtain ⟨rs, h1, rfl⟩ := map_spec h
        exact ev_sound hmix (evF_sound hmix htab hprim d) hst ⟨.inl rfl, rs, H, resL_nil h1, List.Sublist.refl _, rfl, rfl⟩
      · rename_i st hst
        obtain ⟨rs, h1, rfl⟩ := map_spec h
        exact ev_sound hmix (evF_sound hmix htab hprim d) hst ⟨.inr rfl, rs, H, resL_nil h1, List.Sublist.refl _, rfl, rfl⟩
      · cases h
end
def noPrim : Nat → List PV → Option PV := fun _ _ => none
theorem noPrim_good {P : Program} : Good P noPrim := fun f args r h => by cases h
def tabOf : List (Nat × PFn) → Nat → Option PFn
  | [], _ => none
  | (g, p) :: l, f => if g = f then some p else tabOf l f
def TabOk (P : Program) (l : List (Nat × PFn)) : Prop := ∀ f p, tabOf l f = some p → ∃ h, compF P h f = some p
theorem TabOk.nil {P : Program} : TabOk P [] := fun f p h => by cases h
theorem TabOk.cons {P : Program} {l : List (Nat × PFn)} {hh : Hint} {f : Nat} {p : PFn} (h : compF P hh f = some p) (t : TabOk P l) : TabOk P ((f, p) :: l) := by
  intro g q hq
  unfold tabOf at hq
  by_cases e : f = g
  · rw [if_pos e] at hq
    subst e
    cases hq
    exact ⟨hh, h⟩
  · rw [if_neg e] at hq
    exact t g q hq
end Go.Proofs.YtjcjbpbkakfjdaaDoor.E
/- A logic of plain values, part 28: what is no longer looked at is let go; loops. -/
namespace Go.Proofs.YtjcjbpbkakfjdaaDoor.E
open Go Go.RowKit
set_option linter.unusedVariables false
set_option linter.unusedSimpArgs false
variable {dq : List Deferred}
theorem w64 {x : Int} (h1 : -9223372036854775808 ≤ x) (h2 : x ≤ 9223372036854775807) : IntKind.i64.wrap x = x := by
  rw [IntKind.wrap_i64]
  omega
def keepL (keep : List Nat) : Nat → List PV → List PV
  | _, [] => []
  | i, x :: xs => (if keep.contains i then x else .unit) :: keepL keep (i + 1) xs
def getS : List (Nat × PV) → Nat → PV
  | [], _ => .unit
  | (k, v) :: l, i => if k = i then v else getS l i
def MS (n : Nat) (l : List (Nat × PV)) : List PV := (List.range n).map (getS l)
theorem MS_getElem? {n : Nat} {l : List (Nat × PV)} (i : Nat) : (MS n l)[i]? = if i < n then some (getS l i) else none := by
  unfold MS
  rw [List.getElem?_map]
  by_cases h : i < n
  · rw [List.getElem?_range h, if_pos h]; rfl
  · rw [List.getElem?_eq_none (by simp; omega), if_neg h]; rfl
theorem MS_getD {n : Nat} {l : List (Nat × PV)} {i : Nat} (h : i < n) : (MS n l).getD i .unit = getS l i := by
  rw [List.getD_eq_getElem?_getD, MS_getElem?, if_pos h]
  rfl
theorem MS_get {n : Nat} {l : List (Nat × PV)} {i : Nat} (h : i < n) : (MS n l)[i]?.getD .unit = getS l i := by
  rw [MS_getElem?, if_pos h]
  rfl
theorem MS_set {n : Nat} {l : List (Nat × PV)} {i : Nat} {v : PV} (h : i < n) : (MS n l).set i v = MS n ((i, v) :: l) := by
  apply List.ext_getElem?
  intro j
  rw [List.getElem?_set, MS_getElem?, MS_getElem?]
  have hl : (MS n l).length = n := by simp [MS]
  rw [hl]
  simp only [getS]
  by_cases hij : i = j
  · subst hij; simp [h]
  · simp [hij]
def keepA (keep : List Nat) (l : List (Nat × PV)) : List (Nat × PV) := keep.map fun k => (k, getS l k)
theorem getS_keepA (l : List (Nat × PV)) (j : Nat) : ∀ keep : List Nat, getS (keepA keep l) j = if keep.contains j then getS l j else .unit
  | [] => rfl
  | k :: ks => by
    have := getS_keepA l j ks
    simp only [keepA, List.map_cons, getS] at this ⊢
    by_cases h : k = j
    · subst h; simp
    · rw [if_neg h, this]
      have : (j == k) = false := by simp [Ne.symm h]
      simp only [List.contains_cons, this, Bool.false_or]
theorem keepL_getElem? (keep : List Nat) : ∀ (i : Nat) (st : List PV) (j : Nat), (keepL keep i st)[j]? = (st[j]?).map fun x => if keep.contains (i + j) then x else .unit
  | i, [], j => by simp [keepL]
  | i, x :: st, 0 => by simp [keepL]
  | i, x :: st, j + 1 => by
    simp only [keepL, List.getElem?_cons_succ]
    rw [keepL_getElem? keep (i + 1) st j, show i + 1 + j = i + (j + 1) by omega]
theorem keepL_MS (keep : List Nat) (n : Nat) (l : List (Nat × PV)) : keepL keep 0 (MS n l) = MS n (keepA keep l) := by
  apply List.ext_getElem?
  intro j
  rw [keepL_getElem?, MS_getElem?, MS_getElem?, getS_keepA, Nat.zero_add]
  by_cases h : j < n
  · rw [if_pos h, if_pos h]; rfl
  · rw [if_neg h, if_neg h]; rfl
def idxA : Nat → List PV → List (Nat × PV)
  | _, [] => []
  | i, x :: xs => (i, x) :: idxA (i + 1) xs
theorem getS_idxA : ∀ (xs : List PV) (i j : Nat), getS (idxA i xs) (i + j) = (xs[j]?).getD .unit
  | [], i, j => by simp [idxA, getS]
  | x :: xs, i, 0 => by simp [idxA, getS]
  | x :: xs, i, j + 1 => by
    simp only [idxA, getS, List.getElem?_cons_succ]
    rw [if_neg (by omega), show i + (j + 1) = i + 1 + j by omega, getS_idxA xs (i + 1) j]
theorem init_MS {args : List PV} {n : Nat} (h : args.length ≤ n) : args ++ List.replicate (n - args.length) .unit = MS n (idxA 0 args) := by
  apply List.ext_getElem?
  intro j
  have := getS_idxA args 0 j
  rw [Nat.zero_add] at this
  rw [MS_getElem?, this]
  by_cases h1 : j < args.length
  · rw [List.getElem?_append_left h1, if_pos (by omega), List.getElem?_eq_getElem h1]; rfl
  · rw [List.getElem?_append_right (by omega), List.getElem?_eq_none (l := args) (by omega), List.getElem?_replicate]
    by_cases h2 : j < n
    · rw [if_pos h2, if_pos (by omega)]; rfl
    · rw [if_neg h2, if_neg (by omega)]
theorem spec_of {P : Program} {h : Hint} {f : Nat} {p : PFn} {args : List PV} {H : Heap} {Q : PV → Heap → Prop} (hf : compF P h f = some p) (hl : args.length ≤ p.ntmps)
    (hb : pwp P p.body (fun e st' H' => (e = .normal ∨ e = .ret) ∧ ∃ rs H2, resL st' H' p.res = some rs ∧ H2.Sublist H' ∧ Q (resV rs) H2) (MS p.ntmps (idxA 0 args)) H) : SpecH P f H args Q := by
  refine spec_of_body hf ?_
  rw [init_MS hl]
  exact hb
theorem VRl_keep {o : Bool} {w : World} {g : Ghost} (keep : List Nat) : ∀ {i : Nat} {st : List PV} {vs : List Value}, VRl o w g st vs → VRl o w g (keepL keep i st) vs ∧ ∀ b, (toksL (keepL keep i st) vs).count b ≤ (toksL st vs).count b
  | i, [], vs, h => ⟨h, fun b => Nat.le_refl _⟩
  | i, x :: st, vs, h => by
    obtain ⟨v, vs', rfl, h1, h2⟩ := h
    obtain ⟨k1, k2⟩ := VRl_keep keep (i := i + 1) h2
    simp only [keepL]
    by_cases hk : keep.contains i = true
    · rw [if_pos hk]
      refine ⟨⟨v, vs', rfl, h1, k1⟩, fun b => ?_⟩
      have := k2 b
      simp only [toksL, List.count_append]
      omega
    · rw [if_neg hk]
      refine ⟨⟨v, vs', rfl, trivial, k1⟩, fun b => ?_⟩
      have := k2 b
      have e : toks .unit v = [] := by simp [toks]
      simp only [toksL, e, List.count_append, List.nil_append]
      omega
section
variable {P : Program} {Q : PPost} {st : List PV} {H : Heap}
theorem pwp_keep (keep : List Nat) {pc : PCode} (h : pwp P pc Q (keepL keep 0 st) H) : pwp P pc Q st H := by
  intro hh c hc rr hrr dq out a w g hR
  obtain ⟨k1, k2⟩ := VRl_keep keep (i := 0) hR.tm
  exact h hh c hc rr hrr dq out a w g ⟨hR.wr, hR.hp, k1, fun b => by have := hR.un b; have := k2 b; omega, hR.df⟩
theorem pwp_loopK (keep : List Nat) (I : Nat → List PV → Heap → Prop) {x : PCode} {n : Nat} (h0 : ∃ H2, H2.Sublist H ∧ I n (keepL keep 0 st) H2)
    (h : ∀ n st H, I n st H → pwp P x (thenP (fun st' H' => ∃ m, m < n ∧ ∃ H2, H2.Sublist H' ∧ I m (keepL keep 0 st') H2) Q) st H) : pwp P (.loop x) Q st H := by
  refine pwp_loop (fun m s H' => ∃ H2, H2.Sublist H' ∧ I m (keepL keep 0 s) H2) h0 ?_
  rintro m s H' ⟨H2, h1, h2⟩
  exact pwp_drop h1 (pwp_keep keep (h m _ _ h2))
end
end Go.Proofs.YtjcjbpbkakfjdaaDoor.E
/- A logic of plain values, part 29: the operations in a form that is quickly reckoned. -/
namespace Go.Proofs.YtjcjbpbkakfjdaaDoor.E
open Go Go.RowKit
set_option linter.unusedVariables false
set_option linter.unusedSimpArgs false
def callK (P : Program) (f : Nat) (H : Heap) (args : List PV) (ops : List POp) (K : List PV → Heap → Prop) (st : List PV) (d : Option Nat) : Prop :=
  ∃ Q, SpecH P f H args Q ∧ ∀ r H', Q r H' → runOps P ops K (putSt st d r) H'
def appB (sz bytes : Nat) (zero : List PV) (px py : PV) (rest : PV → Heap → Prop) (H : Heap) : Prop :=
  match px with
  | .row b off n cap => match hget H b with
    | some cs => match cellsY sz H py with
      | some (ys, m) => off = 0 ∧ cap * sz ≤ cs.length ∧ n ≤ cap ∧ cap ≤ maxLen ∧ (n + m) * bytes ≤ 140737488355328 ∧
          (n + m ≤ cap → rest (.row b 0 (n + m) cap) (hset H b (cs.take (n * sz) ++ ys ++ cs.drop ((n + m) * sz)))) ∧
          (cap < n + m → ∀ b' cap', hget H b' = none → n + m ≤ cap' → cap' ≤ maxLen → rest (.row b' 0 (n + m) cap') ((b', lendL (cs.take (n * sz)) ++ ys ++ repCells (cap' - (n + m)) zero) :: H))
      | none => False
    | none => False
  | _ => False
def cpyB (sz : Nat) (px py : PV) (rest : PV → Heap → Prop) (H : Heap) : Prop :=
  match px with
  | .row b off n cap => match hget H b with
    | some cs => match cellsY sz H py with
      | some (ys, m) => off + n * sz ≤ cs.length ∧ rest (.int .i64 (min m n : Nat)) (hset H b (cs.take off ++ ys.take (min m n * sz) ++ cs.drop (off + min m n * sz)))
      | none => False
    | none => False
  | _ => False
def clrB (sz : Nat) (zero : List PV) (px : PV) (rest : PV → Heap → Prop) (H : Heap) : Prop :=
  match px with
  | .row b off n cap => match hget H b with
    | some cs => off + n * sz ≤ cs.length ∧ rest .unit (hset H b (cs.take off ++ repCells n zero ++ cs.drop (off + n * sz)))
    | none => False
  | _ => False
def capB (px : PV) (rest : PV → Heap → Prop) (H : Heap) : Prop :=
  match px with
  | .row _ _ _ c => rest (.int .i64 c) H
  | .lst _ xs _ => ∀ c : Nat, xs.length ≤ c → c ≤ maxLen → rest (.int .i64 c) H
  | _ => False
theorem appB_mono {sz bytes : Nat} {zero : List PV} {px py : PV} {H : Heap} {r r' : PV → Heap → Prop} (h : appB sz bytes zero px py r H) (hr : ∀ v H', r v H' → r' v H') :
    ∃ b n cap cs ys m, px = .row b 0 n cap ∧ hget H b = some cs ∧ cap * sz ≤ cs.length ∧ n ≤ cap ∧ cap ≤ maxLen ∧ cellsY sz H py = some (ys, m) ∧ (n + m) * bytes ≤ 140737488355328 ∧
      (n + m ≤ cap → r' (.row b 0 (n + m) cap) (hset H b (cs.take (n * sz) ++ ys ++ cs.drop ((n + m) * sz)))) ∧
      (cap < n + m → ∀ b' cap', hget H b' = none → n + m ≤ cap' → cap' ≤ maxLen → r' (.row b' 0 (n + m) cap') ((b', lendL (cs.take (n * sz)) ++ ys ++ repCells (cap' - (n + m)) zero) :: H)) := by
  unfold appB at h
  split at h
  · split at h
    · rename_i cs e
      split at h
      · rename_i ys m e2
        obtain ⟨rfl, h1, h2, h3, h4, h5, h6⟩ := h
        exact ⟨_, _, _, cs, ys, m, rfl, e, h1, h2, h3, e2, h4, fun q => hr _ _ (h5 q), fun q b' c' q1 q2 q3 => hr _ _ (h6 q b' c' q1 q2 q3)⟩
      · exact h.elim
    · exact h.elim
  · exact h.elim
theorem cpyB_mono {sz : Nat} {px py : PV} {H : Heap} {r r' : PV → Heap → Prop} (h : cpyB sz px py r H) (hr : ∀ v H', r v H' → r' v H') :
    ∃ b off n cap cs ys m, px = .row b off n cap ∧ hget H b = some cs ∧ off + n * sz ≤ cs.length ∧ cellsY sz H py = some (ys, m) ∧
      r' (.int .i64 (min m n : Nat)) (hset H b (cs.take off ++ ys.take (min m n * sz) ++ cs.drop (off + min m n * sz))) := by
  unfold cpyB at h
  split at h
  · split at h
    · rename_i cs e
      split at h
      · rename_i ys m e2
        exact ⟨_, _, _, _, cs, ys, m, rfl, e, h.1, e2, hr _ _ h.2⟩
      · exact h.elim
    · exact h.elim
  · exact h.elim
theorem clrB_mono {sz : Nat} {zero : List PV} {px : PV} {H : Heap} {r r' : PV → Heap → Prop} (h : clrB sz zero px r H) (hr : ∀ v H', r v H' → r' v H') :
    ∃ b off n cap cs, px = .row b off n cap ∧ hget H b = some cs ∧ off + n * sz ≤ cs.length ∧ r' .unit (hset H b (cs.take off ++ repCells n zero ++ cs.drop (off + n * sz))) := by
  unfold clrB at h
  split at h
  · split at h
    · rename_i cs e
      exact ⟨_, _, _, _, cs, rfl, e, h.1, hr _ _ h.2⟩
    · exact h.elim
  · exact h.elim
theorem capB_mono {px : PV} {H : Heap} {r r' : PV → Heap → Prop} (h : capB px r H) (hr : ∀ v H', r v H' → r' v H') :
    (∃ b off n c, px = .row b off n c ∧ r' (.int .i64 c) H) ∨ (∃ s xs o, px = .lst s xs o ∧ ∀ c : Nat, xs.length ≤ c → c ≤ maxLen → r' (.int .i64 c) H) := by
  unfold capB at h
  split at h
  · exact .inl ⟨_, _, _, _, rfl, hr _ _ h⟩
  · exact .inr ⟨_, _, _, rfl, fun c h1 h2 => hr _ _ (h c h1 h2)⟩
  · exact h.elim
def goes (op : POp) (st : List PV) : Option Bool :=
  match op.gd with
  | none => some true
  | some (t, want) => match gval (st.getD t .unit) with
    | some b => some (b == some want)
    | none => none
def runM (P : Program) : List POp → (List PV → Heap → Prop) → List PV → Heap → Prop
  | [], K, st, H => K st H
  | op :: ops, K, st, H =>
    match goes op st with
    | none => False
    | some false => runM P ops K (putSt st op.dst (.tup [])) H
    | some true => match op.k with
      | .al cs => ∀ b, hget H b = none → runM P ops K (putSt st op.dst (.ptr (some (b, 0)))) ((b, cs) :: H)
      | .bx sz x => (cellsOf (argT st x)).all PV.isCell = true ∧ ∀ b, hget H b = none → runM P ops K (putSt (takeAt st x) op.dst (.ptr (some (b, 0)))) ((b, cellsOf (argT st x)) :: H)
      | .sto sz x v => match arg st x with
        | .ptr (some (b, off)) => match hget H b with
          | some cs => (cellsOf (argT st v)).length = sz ∧ off + sz ≤ cs.length ∧ (cellsOf (argT st v)).all PV.isCell = true ∧
              runM P ops K (putSt (takeAt st v) op.dst .unit) (hset H b (cs.take off ++ cellsOf (argT st v) ++ cs.drop (off + sz)))
          | none => False
        | _ => False
      | .ld sz ag true x => match arg st x with
        | .ptr (some (b, off)) => match hget H b with
          | some cs => match partP sz ag cs off with
            | some r => runM P ops K (putSt st op.dst r) (hset H b (cs.take off ++ lendL ((cs.drop off).take sz) ++ cs.drop (off + sz)))
            | none => False
          | none => False
        | _ => False
      | .mk sz bytes ag zero l c true => match arg st l, arg st c with
        | .int _ ln, .int _ cn => 0 ≤ ln ∧ ln ≤ cn ∧ cn * bytes ≤ 281474976710656 ∧ ∀ b, hget H b = none → runM P ops K (putSt st op.dst (.row b 0 ln.toNat cn.toNat)) ((b, repCells cn.toNat zero) :: H)
        | _, _ => False
      | .bsl sz len ag zero ps true => match fillP zero (elemParts sz st ps) with
        | some cs => ∀ b, hget H b = none → runM P ops K (putSt st op.dst (.row b 0 len len)) ((b, cs) :: H)
        | none => False
      | .eqN ne x => match arg st x with
        | .lst s xs o => (xs ≠ [] → runM P ops K (putSt st op.dst (.bool ne)) H) ∧ (xs = [] → ∀ b, runM P ops K (putSt st op.dst (.bool b)) H)
        | _ => False
      | .appR sz bytes zero x y => appB sz bytes zero (arg st x) (arg st y) (fun v H' => runM P ops K (putSt st op.dst v) H') H
      | .cpy sz x y => cpyB sz (arg st x) (arg st y) (fun v H' => runM P ops K (putSt st op.dst v) H') H
      | .clr sz zero x => clrB sz zero (arg st x) (fun v H' => runM P ops K (putSt st op.dst v) H') H
      | .cap x => capB (arg st x) (fun v H' => runM P ops K (putSt st op.dst v) H') H
      | .callF f args tk => callK P f H (callArgs st args tk) ops K (callTake st args tk) op.dst
      | .callV fx args => match arg st fx with
        | .fn (.func f) first cap => callK P f H (lendL first ++ args.map (arg st) ++ lendL cap) ops K st op.dst
        | _ => False
      | k => match pev st H k with
        | some r => runM P ops K (putSt (ptake st k) op.dst r) H
        | none => False
def runB (P : Program) (op : POp) (ops : List POp) (K : List PV → Heap → Prop) (st : List PV) (H : Heap) : Prop :=
  match goes op st with
  | none => False
  | some false => runM P ops K (putSt st op.dst (.tup [])) H
  | some true => match op.k with
    | .al cs => ∀ b, hget H b = none → runM P ops K (putSt st op.dst (.ptr (some (b, 0)))) ((b, cs) :: H)
    | .bx sz x => (cellsOf (argT st x)).all PV.isCell = true ∧ ∀ b, hget H b = none → runM P ops K (putSt (takeAt st x) op.dst (.ptr (some (b, 0)))) ((b, cellsOf (argT st x)) :: H)
    | .sto sz x v => match arg st x with
      | .ptr (some (b, off)) => match hget H b with
        | some cs => (cellsOf (argT st v)).length = sz ∧ off + sz ≤ cs.length ∧ (cellsOf (argT st v)).all PV.isCell = true ∧
            runM P ops K (putSt (takeAt st v) op.dst .unit) (hset H b (cs.take off ++ cellsOf (argT st v) ++ cs.drop (off + sz)))
        | none => False
      | _ => False
    | .ld sz ag true x => match arg st x with
      | .ptr (some (b, off)) => match hget H b with
        | some cs => match partP sz ag cs off with
          | some r => runM P ops K (putSt st op.dst r) (hset H b (cs.take off ++ lendL ((cs.drop off).take sz) ++ cs.drop (off + sz)))
          | none => False
        | none => False
      | _ => False
    | .mk sz bytes ag zero l c true => match arg st l, arg st c with
      | .int _ ln, .int _ cn => 0 ≤ ln ∧ ln ≤ cn ∧ cn * bytes ≤ 281474976710656 ∧ ∀ b, hget H b = none → runM P ops K (putSt st op.dst (.row b 0 ln.toNat cn.toNat)) ((b, repCells cn.toNat zero) :: H)
      | _, _ => False
    | .bsl sz len ag zero ps true => match fillP zero (elemParts sz st ps) with
      | some cs => ∀ b, hget H b = none → runM P ops K (putSt st op.dst (.row b 0 len len)) ((b, cs) :: H)
      | none => False
    | .eqN ne x => match arg st x with
      | .lst s xs o => (xs ≠ [] → runM P ops K (putSt st op.dst (.bool ne)) H) ∧ (xs = [] → ∀ b, runM P ops K (putSt st op.dst (.bool b)) H)
      | _ => False
    | .appR sz bytes zero x y => appB sz bytes zero (arg st x) (arg st y) (fun v H' => runM P ops K (putSt st op.dst v) H') H
    | .cpy sz x y => cpyB sz (arg st x) (arg st y) (fun v H' => runM P ops K (putSt st op.dst v) H') H
    | .clr sz zero x => clrB sz zero (arg st x) (fun v H' => runM P ops K (putSt st op.dst v) H') H
    | .cap x => capB (arg st x) (fun v H' => runM P ops K (putSt st op.dst v) H') H
    | .callF f args tk => callK P f H (callArgs st args tk) ops K (callTake st args tk) op.dst
    | .callV fx args => match arg st fx with
      | .fn (.func f) first cap => callK P f H (lendL first ++ args.map (arg st) ++ lendL cap) ops K st op.dst
      | _ => False
    | k => match pev st H k with
      | some r => runM P ops K (putSt (ptake st k) op.dst r) H
      | none => False
theorem runM_nil {P : Program} {K : List PV → Heap → Prop} {st : List PV} {H : Heap} : runM P [] K st H = K st H := by rw [runM]
theorem runM_cons {P : Program} {op : POp} {ops : List POp} {K : List PV → Heap → Prop} {st : List PV} {H : Heap} : runM P (op :: ops) K st H = runB P op ops K st H := by
  rw [runM]
  rfl
section
variable {P : Program} {Q : PPost} {st : List PV} {H : Heap}
theorem runM_run {K : List PV → Heap → Prop} : ∀ {ops : List POp} {st : List PV} {H : Heap}, runM P ops K st H → runOps P ops K st H
  | [], st, H, h => h
  | op :: ops, st, H, h => by
    have step : (match op.k with
      | .al cs => ∀ b, hget H b = none → runM P ops K (putSt st op.dst (.ptr (some (b, 0)))) ((b, cs) :: H)
      | .bx sz x => (cellsOf (argT st x)).all PV.isCell = true ∧ ∀ b, hget H b = none → runM P ops K (putSt (takeAt st x) op.dst (.ptr (some (b, 0)))) ((b, cellsOf (argT st x)) :: H)
      | .sto sz x v => match arg st x with
        | .ptr (some (b, off)) => match hget H b with
          | some cs => (cellsOf (argT st v)).length = sz ∧ off + sz ≤ cs.length ∧ (cellsOf (argT st v)).all PV.isCell = true ∧
              runM P ops K (putSt (takeAt st v) op.dst .unit) (hset H b (cs.take off ++ cellsOf (argT st v) ++ cs.drop (off + sz)))
          | none => False
        | _ => False
      | .ld sz ag true x => match arg st x with
        | .ptr (some (b, off)) => match hget H b with
          | some cs => match partP sz ag cs off with
            | some r => runM P ops K (putSt st op.dst r) (hset H b (cs.take off ++ lendL ((cs.drop off).take sz) ++ cs.drop (off + sz)))
            | none => False
          | none => False
        | _ => False
      | .mk sz bytes ag zero l c true => match arg st l, arg st c with
        | .int _ ln, .int _ cn => 0 ≤ ln ∧ ln ≤ cn ∧ cn * bytes ≤ 281474976710656 ∧ ∀ b, hget H b = none → runM P ops K (putSt st op.dst (.row b 0 ln.toNat cn.toNat)) ((b, repCells cn.toNat zero) :: H)
        | _, _ => False
      | .bsl sz len ag zero ps true => match fillP zero (elemParts sz st ps) with
        | some cs => ∀ b, hget H b = none → runM P ops K (putSt st op.dst (.row b 0 len len)) ((b, cs) :: H)
        | none => False
      | .eqN ne x => match arg st x with
        | .lst s xs o => (xs ≠ [] → runM P ops K (putSt st op.dst (.bool ne)) H) ∧ (xs = [] → ∀ b, runM P ops K (putSt st op.dst (.bool b)) H)
        | _ => False
      | .appR sz bytes zero x y => appB sz bytes zero (arg st x) (arg st y) (fun v H' => runM P ops K (putSt st op.dst v) H') H
      | .cpy sz x y => cpyB sz (arg st x) (arg st y) (fun v H' => runM P ops K (putSt st op.dst v) H') H
      | .clr sz zero x => clrB sz zero (arg st x) (fun v H' => runM P ops K (putSt st op.dst v) H') H
      | .cap x => capB (arg st x) (fun v H' => runM P ops K (putSt st op.dst v) H') H
      | .callF f args tk => callK P f H (callArgs st args tk) ops K (callTake st args tk) op.dst
      | .callV fx args => match arg st fx with
        | .fn (.func f) first cap => callK P f H (lendL first ++ args.map (arg st) ++ lendL cap) ops K st op.dst
        | _ => False
      | k => match pev st H k with
        | some r => runM P ops K (putSt (ptake st k) op.dst r) H
        | none => False) → stepOp P op (runOps P ops K) st H := by
      obtain ⟨d, gd, k⟩ := op
      intro h
      have pure_ : (match pev st H k with | some r => runM P ops K (putSt (ptake st k) d r) H | none => False) → ∃ r, pev st H k = some r ∧ runOps P ops K (putSt (ptake st k) d r) H := fun h => by
        split at h
        · rename_i r e
          exact ⟨r, e, runM_run h⟩
        · exact h.elim
      cases k with
      | al z => exact fun b hb => runM_run (h b hb)
      | bx s x => exact ⟨h.1, fun b hb => runM_run (h.2 b hb)⟩
      | sto s x v =>
        simp only at h
        split at h
        · rename_i b off e
          split at h
          · rename_i cs e2
            exact ⟨b, off, cs, e, e2, h.1, h.2.1, h.2.2.1, runM_run h.2.2.2⟩
          · exact h.elim
        · exact h.elim
      | ld s ag tk x =>
        cases tk with
        | false => exact pure_ h
        | true =>
          simp only at h
          split at h
          · rename_i b off e
            split at h
            · rename_i cs e2
              split at h
              · rename_i r e3
                exact ⟨b, off, cs, r, e, e2, e3, runM_run h⟩
              · exact h.elim
            · exact h.elim
          · exact h.elim
      | mk s b ag z l c mu =>
        cases mu with
        | false => exact pure_ h
        | true =>
          simp only at h
          split at h
          · rename_i k1 ln k2 cn e1 e2
            exact ⟨k1, ln, k2, cn, e1, e2, h.1, h.2.1, h.2.2.1, fun b hb => runM_run (h.2.2.2 b hb)⟩
          · exact h.elim
      | bsl s n ag z ps mu =>
        cases mu with
        | false => exact pure_ h
        | true =>
          simp only at h
          split at h
          · rename_i cs e
            exact ⟨cs, e, fun b hb => runM_run (h b hb)⟩
          · exact h.elim
      | eqN ne x =>
        simp only at h
        split at h
        · rename_i s xs o e
          exact ⟨s, xs, o, e, fun hx => runM_run (h.1 hx), fun hx b => runM_run (h.2 hx b)⟩
        · exact h.elim
      | appR s b z x y => exact appB_mono h fun v H' h => runM_run h
      | cpy s x y => exact cpyB_mono h fun v H' h => runM_run h
      | clr s z x => exact clrB_mono h fun v H' h => runM_run h
      | cap x => exact capB_mono h fun v H' h => runM_run h
      | callF f xs tk => exact h
      | callV fx xs =>
        simp only at h
        split at h
        · rename_i f first cap e
          obtain ⟨R, h1, h2⟩ := h
          exact ⟨f, first, cap, R, e, h1, h2⟩
        · exact h.elim
      | _ => exact pure_ h
    unfold runM at h
    unfold runOps
    unfold goes at h
    cases hg : op.gd with
    | none =>
      rw [hg] at h
      exact step h
    | some p =>
      obtain ⟨t, want⟩ := p
      rw [hg] at h
      simp only at h ⊢
      cases e : gval (st.getD t .unit) with
      | some b =>
        rw [e] at h
        refine ⟨b, rfl, ?_⟩
        simp only at h
        by_cases hb : b = some want
        · rw [if_pos hb]
          have : (b == some want) = true := by simp [hb]
          rw [this] at h
          exact step h
        · rw [if_neg hb]
          have : (b == some want) = false := by simp [hb]
          rw [this] at h
          exact runM_run h
      | none => rw [e] at h; exact h.elim
theorem pwp_regionM {ops : List POp} (h : ∀ K : List PV → Heap → Prop, (∀ st' H', Q .normal st' H' → K st' H') → runM P ops K st H) : pwp P (.region ops) Q st H := pwp_region (runM_run (h _ fun _ _ h => h))
theorem useP {f : Nat} {args : List PV} {r : PV} {ops : List POp} {K : List PV → Heap → Prop} {d : Option Nat} (h : PSpec P f args r) (hK : runM P ops K (putSt st d r) H) : callK P f H args ops K st d :=
  ⟨_, h H, fun r' H' ⟨e1, e2⟩ => by subst e1 e2; exact runM_run hK⟩
theorem useH {f : Nat} {args : List PV} {R : PV → Heap → Prop} {ops : List POp} {K : List PV → Heap → Prop} {d : Option Nat} (h : SpecH P f H args R) (hK : ∀ r H', R r H' → runM P ops K (putSt st d r) H') : callK P f H args ops K st d := ⟨R, h, fun r H' h => runM_run (hK r H' h)⟩
def callD (P : Program) (f : Nat) (H : Heap) (args : List PV) (ops : List POp) (K : List PV → Heap → Prop) (st : List PV) (d : Option Nat) : Prop :=
  ∃ r, PSpec P f args r ∧ ∀ late i rd, planOps P late ops i rd [] K (putSt st d r) H
def planM (P : Program) : List POp → (List PV → Heap → Prop) → List PV → Heap → Prop
  | [], K, st, H => K st H
  | op :: ops, K, st, H =>
    match goes op st with
    | none => False
    | some false => planM P ops K (putSt st op.dst (.tup [])) H
    | some true => match op.k with
      | .cpy sz x y => cpyB sz (arg st x) (arg st y) (fun v H' => planM P ops K (putSt st op.dst v) H') H
      | .callF f args tk => callD P f H (callArgs st args tk) ops K (callTake st args tk) op.dst
      | .callV fx args => match arg st fx with
        | .fn (.func f) first cap => callD P f H (lendL first ++ args.map (arg st) ++ lendL cap) ops K st op.dst
        | _ => False
      | k => match pev st H k with
        | some r => planM P ops K (putSt (ptake st k) op.dst r) H
        | none => False
def planB (P : Program) (op : POp) (ops : List POp) (K : List PV → Heap → Prop) (st : List PV) (H : Heap) : Prop :=
  match goes op st with
  | none => False
  | some false => planM P ops K (putSt st op.dst (.tup [])) H
  | some true => match op.k with
    | .cpy sz x y => cpyB sz (arg st x) (arg st y) (fun v H' => planM P ops K (putSt st op.dst v) H') H
    | .callF f args tk => callD P f H (callArgs st args tk) ops K (callTake st args tk) op.dst
    | .callV fx args => match arg st fx with
      | .fn (.func f) first cap => callD P f H (lendL first ++ args.map (arg st) ++ lendL cap) ops K st op.dst
      | _ => False
    | k => match pev st H k with
      | some r => planM P ops K (putSt (ptake st k) op.dst r) H
      | none => False
theorem planM_nil {K : List PV → Heap → Prop} {st : List PV} {H : Heap} : planM P [] K st H = K st H := by rw [planM]
theorem planM_cons {op : POp} {ops : List POp} {K : List PV → Heap → Prop} {st : List PV} {H : Heap} : planM P (op :: ops) K st H = planB P op ops K st H := by
  rw [planM]
  rfl
theorem planM_plan {K : List PV → Heap → Prop} : ∀ {ops : List POp} {late : List (Nat × Nat)} {i : Nat} {rd : Uses} {st : List PV} {H : Heap}, planM P ops K st H → planOps P late ops i rd [] K st H
  | [], late, i, rd, st, H, h => h
  | op :: ops, late, i, rd, st, H, h => by
    have step : (match op.k with
      | .cpy sz x y => cpyB sz (arg st x) (arg st y) (fun v H' => planM P ops K (putSt st op.dst v) H') H
      | .callF f args tk => callD P f H (callArgs st args tk) ops K (callTake st args tk) op.dst
      | .callV fx args => match arg st fx with
        | .fn (.func f) first cap => callD P f H (lendL first ++ args.map (arg st) ++ lendL cap) ops K st op.dst
        | _ => False
      | k => match pev st H k with
        | some r => planM P ops K (putSt (ptake st k) op.dst r) H
        | none => False) → planOp P late op i rd [] (fun rd' wr' st' H' => planOps P late ops (i + 1) rd' wr' K st' H') st H := by
      obtain ⟨d, gd, k⟩ := op
      intro h
      have pure_ : (match pev st H k with | some r => planM P ops K (putSt (ptake st k) d r) H | none => False) → ∃ r, pev st H k = some r ∧ (∀ c, ldCells st k = some c → ∀ e ∈ ([] : Uses), (i, e.1) ∈ late → apartC c e.2) ∧
          planOps P late ops (i + 1) (match ldCells st k with | some c => (i, c) :: rd | none => rd) [] K (putSt (ptake st k) d r) H := fun h => by
        split at h
        · rename_i r e
          exact ⟨r, e, fun c _ e he => (by cases he), planM_plan h⟩
        · exact h.elim
      cases k with
      | callF f xs tk =>
        obtain ⟨r, h1, h2⟩ := h
        exact ⟨r, h1, h2 _ _ _⟩
      | callV fx xs =>
        simp only at h
        split at h
        · rename_i f first cap e
          obtain ⟨r, h1, h2⟩ := h
          exact ⟨f, first, cap, r, e, h1, h2 _ _ _⟩
        · exact h.elim
      | appR s b z x y => exact h.elim
      | clr s z x => exact h.elim
      | cap x => exact h.elim
      | cpy s x y => exact cpyB_mono h fun v H' h => planM_plan h
      | al z => exact h.elim
      | bx s x => exact h.elim
      | sto s x v => exact h.elim
      | ld s ag tk x =>
        cases tk with
        | false => exact pure_ h
        | true => exact h.elim
      | mk s b ag z l c mu =>
        cases mu with
        | false => exact pure_ h
        | true => exact h.elim
      | bsl s n ag z ps mu =>
        cases mu with
        | false => exact pure_ h
        | true => exact h.elim
      | _ => exact pure_ h
    unfold planM at h
    unfold planOps
    unfold goes at h
    cases hg : op.gd with
    | none =>
      rw [hg] at h
      exact step h
    | some p =>
      obtain ⟨t, want⟩ := p
      rw [hg] at h
      simp only at h ⊢
      cases e : gval (st.getD t .unit) with
      | some b =>
        rw [e] at h
        refine ⟨b, rfl, ?_⟩
        simp only at h
        by_cases hb : b = some want
        · rw [if_pos hb]
          have : (b == some want) = true := by simp [hb]
          rw [this] at h
          exact step h
        · rw [if_neg hb]
          have : (b == some want) = false := by simp [hb]
          rw [this] at h
          exact planM_plan h
      | none => rw [e] at h; exact h.elim
theorem useD {f : Nat} {args : List PV} {r : PV} {ops : List POp} {K : List PV → Heap → Prop} {d : Option Nat} (h : PSpec P f args r) (hK : planM P ops K (putSt st d r) H) : callD P f H args ops K st d := ⟨r, h, fun _ _ _ => planM_plan hK⟩
theorem pwp_drawM (hmix : P.follows .mixedOrders = true) {ops : List POp} {late : List (Nat × Nat)} (h : ∀ K : List PV → Heap → Prop, (∀ st' H', Q .normal st' H' → K st' H') → planM P ops K st H) : pwp P (.draw ops late) Q st H := pwp_draw hmix (planM_plan (h _ fun _ _ h => h))
end
end Go.Proofs.YtjcjbpbkakfjdaaDoor.E
/- A logic of plain values, part 31: a block that is written no more is a list; what a contract may be turned into. -/
namespace Go.Proofs.YtjcjbpbkakfjdaaDoor.E
open Go Go.RowKit
set_option linter.unusedVariables false
set_option linter.unusedSimpArgs false
variable {dq : List Deferred}
mutual
def frz (b : Nat) (f : Nat → Nat → Option PV) (q : Nat → Option PV) : PV → PV
  | .row c off len cap => if c = b ∧ off = 0 then (f len cap).getD (.row c off len cap) else .row c off len cap
  | .ptr (some (c, off)) => if c = b then (q off).getD (.ptr (some (c, off))) else .ptr (some (c, off))
  | .agg cs => .agg (frzL b f q cs)
  | .tup cs => .tup (frzL b f q cs)
  | v => v
def frzL (b : Nat) (f : Nat → Nat → Option PV) (q : Nat → Option PV) : List PV → List PV
  | [] => []
  | x :: xs => frz b f q x :: frzL b f q xs
end
def rowL (sz : Nat) (ag : Bool) (cs : List PV) (len cap : Nat) : Option PV :=
  if len ≤ cap ∧ cap ≤ maxLen ∧ len * sz ≤ cs.length ∧ (ag = false → sz = 1) then some (.lst sz (elemsOf sz ag len (lendL (cs.take (len * sz)))) false) else none
def frzH (b : Nat) (f : Nat → Nat → Option PV) (q : Nat → Option PV) (L : List Nat) : Heap → Heap
  | [] => []
  | (c, cs) :: H => if c = b then frzH b f q L H else (c, if L.contains c then frzL b f q cs else cs) :: frzH b f q L H
theorem frzL_eq_map (b : Nat) (f : Nat → Nat → Option PV) (q : Nat → Option PV) : ∀ xs, frzL b f q xs = xs.map (frz b f q)
  | [] => rfl
  | x :: xs => by simp [frzL, frzL_eq_map b f q xs]
theorem frz_isCell {b : Nat} {f : Nat → Nat → Option PV} {q : Nat → Option PV} (hf : ∀ l c p, f l c = some p → p.isCell = true) (hq : ∀ o p, q o = some p → p.isCell = true) (x : PV) : (frz b f q x).isCell = x.isCell := by
  cases x <;> try rfl
  · rename_i a
    cases a with
    | none => rfl
    | some a =>
      obtain ⟨c, off⟩ := a
      simp only [frz]
      split
      · cases h : q off with
        | none => rfl
        | some p => exact hq _ _ h
      · rfl
  · rename_i c off len cap
    simp only [frz]
    split
    · cases h : f len cap with
      | none => rfl
      | some p => exact hf _ _ _ h
    · rfl
theorem frzL_all {b : Nat} {f : Nat → Nat → Option PV} {q : Nat → Option PV} (hf : ∀ l c p, f l c = some p → p.isCell = true) (hq : ∀ o p, q o = some p → p.isCell = true) (xs : List PV) : (frzL b f q xs).all PV.isCell = xs.all PV.isCell := by
  rw [frzL_eq_map, List.all_map]
  congr 1
  funext x
  exact frz_isCell hf hq x
mutual
theorem frz_VR {o : Bool} {w w' : World} {g g' : Ghost} {out : List Nat} {b : Nat} {f : Nat → Nat → Option PV} {q : Nat → Option PV} (hE : Evol out w g w' g')
    (hf : ∀ l c p, f l c = some p → VR true w' g' p (.slice (some ⟨b, 0, none⟩) l c) ∧ (∀ A, toks p (.slice A l c) = []) ∧ p.isCell = true)
    (hq : ∀ o p, q o = some p → VR true w' g' p (.pointer (some ⟨b, o, none⟩)) ∧ (∀ A, toks p (.pointer A) = []) ∧ p.isCell = true) :
    ∀ (x : PV) (v : Value), (o = true → ∀ t ∈ toks x v, t ∈ out) → VR o w g x v → VR o w' g' (frz b f q x) v ∧ toks (frz b f q x) v = toks x v
  | .row c off len cap, v, ho, h => by
    simp only [frz]
    split
    · rename_i hc
      obtain ⟨rfl, rfl⟩ := hc
      cases hp : f len cap with
      | none => exact ⟨h, rfl⟩
      | some p =>
        simp only [VR] at h
        subst h
        obtain ⟨h1, h2, _⟩ := hf _ _ _ hp
        refine ⟨?_, by rw [Option.getD_some, h2]; simp [toks]⟩
        cases o with
        | true => exact h1
        | false => exact VR_weak _ _ h1
    · exact ⟨h, rfl⟩
  | .agg cs, v, ho, h => by
    obtain ⟨h0, vs, rfl, h1⟩ := h
    obtain ⟨i1, i2⟩ := frzL_VR hE hf hq cs vs.toList (fun q t ht => ho q t (by simpa only [toks] using ht)) h1
    refine ⟨⟨?_, vs, rfl, i1⟩, by simp only [frz, toks]; exact i2⟩
    rw [frzL_all]
    · exact h0
    · exact fun l c p hp => (hf _ _ _ hp).2.2
    · exact fun o p hp => (hq _ _ hp).2.2
  | .tup cs, v, ho, h => by
    obtain ⟨vs, rfl, h1⟩ := h
    obtain ⟨i1, i2⟩ := frzL_VR hE hf hq cs vs.toList (fun q t ht => ho q t (by simpa only [toks] using ht)) h1
    exact ⟨⟨vs, rfl, i1⟩, by simp only [frz, toks]; exact i2⟩
  | .int k n, v, ho, h => ⟨VR_mono hE o _ _ ho h, rfl⟩
  | .bool k, v, ho, h => ⟨VR_mono hE o _ _ ho h, rfl⟩
  | .str k, v, ho, h => ⟨VR_mono hE o _ _ ho h, rfl⟩
  | .unit, v, ho, h => ⟨VR_mono hE o _ _ ho h, rfl⟩
  | .lst .., v, ho, h => ⟨VR_mono hE o _ _ ho h, rfl⟩
  | .ptr none, v, ho, h => ⟨VR_mono hE o _ _ ho h, rfl⟩
  | .ptr (some (c, off)), v, ho, h => by
    simp only [frz]
    split
    · rename_i hc
      subst hc
      cases hp : q off with
      | none => exact ⟨h, rfl⟩
      | some p =>
        simp only [VR, Option.map_some] at h
        subst h
        obtain ⟨h1, h2, _⟩ := hq _ _ hp
        refine ⟨?_, by rw [Option.getD_some, h2]; simp [toks]⟩
        cases o with
        | true => exact h1
        | false => exact VR_weak _ _ h1
    · exact ⟨h, rfl⟩
  | .ip .., v, ho, h => ⟨VR_mono hE o _ _ ho h, rfl⟩
  | .map .., v, ho, h => ⟨VR_mono hE o _ _ ho h, rfl⟩
  | .fn .., v, ho, h => ⟨VR_mono hE o _ _ ho h, rfl⟩
  | .nilf, v, ho, h => ⟨VR_mono hE o _ _ ho h, rfl⟩
  | .mpI .., v, ho, h => ⟨VR_mono hE o _ _ ho h, rfl⟩
  | .nlit .., v, ho, h => ⟨VR_mono hE o _ _ ho h, rfl⟩
  | .xl .., v, ho, h => ⟨VR_mono hE o _ _ ho h, rfl⟩
  | .sh .., v, ho, h => ⟨VR_mono hE o _ _ ho h, rfl⟩
theorem frzL_VR {o : Bool} {w w' : World} {g g' : Ghost} {out : List Nat} {b : Nat} {f : Nat → Nat → Option PV} {q : Nat → Option PV} (hE : Evol out w g w' g')
    (hf : ∀ l c p, f l c = some p → VR true w' g' p (.slice (some ⟨b, 0, none⟩) l c) ∧ (∀ A, toks p (.slice A l c) = []) ∧ p.isCell = true)
    (hq : ∀ o p, q o = some p → VR true w' g' p (.pointer (some ⟨b, o, none⟩)) ∧ (∀ A, toks p (.pointer A) = []) ∧ p.isCell = true) :
    ∀ (xs : List PV) (vs : List Value), (o = true → ∀ t ∈ toksL xs vs, t ∈ out) → VRl o w g xs vs → VRl o w' g' (frzL b f q xs) vs ∧ toksL (frzL b f q xs) vs = toksL xs vs
  | [], vs, ho, h => ⟨h, rfl⟩
  | x :: xs, vs, ho, h => by
    obtain ⟨v, vs', rfl, h1, h2⟩ := h
    obtain ⟨i1, i2⟩ := frz_VR hE hf hq x v (fun q t ht => ho q t (by simp only [toksL, List.mem_append]; exact .inl ht)) h1
    obtain ⟨j1, j2⟩ := frzL_VR hE hf hq xs vs' (fun q t ht => ho q t (by simp only [toksL, List.mem_append]; exact .inr ht)) h2
    exact ⟨⟨v, vs', rfl, i1, j1⟩, by simp only [frzL, toksL, i2, j2]⟩
end
theorem rowL_VR {w : World} {g : Ghost} {b sz : Nat} {ag : Bool} {cs : List PV} {c : Array Value} {e : TypeId} {fz : Nat × Nat} (hc : w.heap[b]? = some (.cells c e fz)) (hg : g b = .imm) (hv : VRl false w g cs c.toList) (ha : cs.all PV.isCell = true)
    (l cap : Nat) (p : PV) (h : rowL sz ag cs l cap = some p) : VR true w g p (.slice (some ⟨b, 0, none⟩) l cap) ∧ (∀ A, toks p (.slice A l cap) = []) ∧ p.isCell = true := by
  unfold rowL at h
  obtain ⟨⟨h1, h2, h3, h4⟩, h⟩ := ite_spec h
  cases h
  have hv1 := VRl_lend (o := false) _ _ (VRl_take (l * sz) hv).1
  have hl : (lendL (cs.take (l * sz))).length = l * sz := by rw [lendL_eq_map, List.length_map, List.length_take]; omega
  have hal : (lendL (cs.take (l * sz))).all PV.isCell = true := by
    rw [all_lendL]
    have := all_drop_take ha 0 (l * sz)
    rwa [List.drop_zero] at this
  obtain ⟨k1, k2⟩ := VRe_elems hal hl h4 hv1
  have hcl := VRl_length hv
  refine ⟨⟨some ⟨b, 0, none⟩, cap, by rw [k2], by rw [k2]; exact h1, h2, ?_, fun _ h => by cases h⟩, fun A => by simp [toks], rfl⟩
  right
  refine ⟨b, 0, c.toList.take (l * sz), rfl, readable_mk c e fz hc (by rw [List.drop_zero, k2]) (by rw [k2, List.length_take]; omega) (.inl hg), k1⟩
def ptrL (cs : List PV) (off : Nat) : Option PV := some (.ip cs.length [match lendL cs with | [c] => c | l => .agg l] 0 off)
theorem ptrL_VR {w : World} {g : Ghost} {b : Nat} {cs : List PV} {c : Array Value} {e : TypeId} {fz : Nat × Nat} (hc : w.heap[b]? = some (.cells c e fz)) (hg : g b = .imm) (hv : VRl false w g cs c.toList) (ha : cs.all PV.isCell = true)
    (off : Nat) (p : PV) (h : ptrL cs off = some p) : VR true w g p (.pointer (some ⟨b, off, none⟩)) ∧ (∀ A, toks p (.pointer A) = []) ∧ p.isCell = true := by
  cases h
  have hcl := VRl_length hv
  have hv1 := VRl_lend (o := false) _ _ hv
  have hal : (lendL cs).all PV.isCell = true := by rw [all_lendL]; exact ha
  have hll : (lendL cs).length = cs.length := by rw [lendL_eq_map, List.length_map]
  refine ⟨⟨b, 0, c.toList, by simp, by simp, readable_mk c e fz hc ?_ (by simpa using hcl) (.inl hg), VRe_cons.2 ⟨c.toList, [], by simp, ⟨hcl, ?_⟩, rfl⟩⟩, fun A => by simp [toks], rfl⟩
  · rw [List.drop_zero, List.take_of_length_le (by rw [hcl]; simp)]
  · split
    · rename_i c1 e1
      rw [e1] at hv1 hal
      obtain ⟨v, vs, e2, e3, e4⟩ := hv1
      cases e4
      exact .inr ⟨by simpa using hal, v, e2, e3⟩
    · exact .inl ⟨_, rfl, hal, hv1⟩
theorem hget_frzH (b : Nat) (f : Nat → Nat → Option PV) (q : Nat → Option PV) (L : List Nat) {x : Nat} : ∀ {H : Heap}, hget H x = none → hget (frzH b f q L H) x = none
  | [], h => rfl
  | (c, cs) :: H, h => by
    simp only [hget] at h
    split at h
    · cases h
    · rename_i hne
      unfold frzH
      split
      · exact hget_frzH b f q L h
      · simp only [hget, if_neg hne]
        exact hget_frzH b f q L h
theorem hget_mem : ∀ {H : Heap} {b : Nat} {cs : List PV}, hget H b = some cs → (b, cs) ∈ H
  | (c, ds) :: H, b, cs, h => by
    simp only [hget] at h
    split at h
    · rename_i e
      subst e
      cases h
      exact List.mem_cons_self ..
    · exact List.mem_cons_of_mem _ (hget_mem h)
theorem mem_toksH {w : World} {t : Nat} : ∀ {H : Heap} {b : Nat} {cs : List PV}, (b, cs) ∈ H → t ∈ toksB w b cs → t ∈ toksH w H
  | (c, ds) :: H, b, cs, hm, ht => by
    simp only [toksH, List.mem_append]
    rcases List.mem_cons.1 hm with h | h
    · cases h; exact .inl ht
    · exact .inr (mem_toksH h ht)
theorem frzH_rel {w : World} {g g' : Ghost} {out : List Nat} {b : Nat} {f : Nat → Nat → Option PV} {q : Nat → Option PV} {L : List Nat} (hE : Evol out w g w g') (hm : ∀ c, c ≠ b → g c = .mut → g' c = .mut)
    (hf : ∀ l c p, f l c = some p → VR true w g' p (.slice (some ⟨b, 0, none⟩) l c) ∧ (∀ A, toks p (.slice A l c) = []) ∧ p.isCell = true)
    (hq : ∀ o p, q o = some p → VR true w g' p (.pointer (some ⟨b, o, none⟩)) ∧ (∀ A, toks p (.pointer A) = []) ∧ p.isCell = true) :
    ∀ {H : Heap}, (∀ t ∈ toksH w H, t ∈ out) → HRel w g H → HRel w g' (frzH b f q L H) ∧ ∀ t, (toksH w (frzH b f q L H)).count t ≤ (toksH w H).count t
  | [], ho, h => ⟨GL.evol hE h, fun t => Nat.le_refl _⟩
  | (c, cs) :: H, ho, h => by
    obtain ⟨h0, h1, h2, ⟨cc, e, hc, hv⟩, hH⟩ := h
    obtain ⟨i1, i2⟩ := frzH_rel (L := L) hE hm hf hq (fun t ht => ho t (by simp only [toksH, List.mem_append]; exact .inr ht)) hH
    unfold frzH
    split
    · exact ⟨i1, fun t => by simp only [toksH, List.count_append]; have := i2 t; omega⟩
    · rename_i hne
      have hov : true = true → ∀ t ∈ toksL cs cc.toList, t ∈ out := fun _ t ht => ho t (by simp only [toksH, List.mem_append, toksB, hc]; exact .inl ht)
      obtain ⟨j1, j2⟩ := frzL_VR hE hf hq cs cc.toList hov hv
      split
      · refine ⟨⟨hget_frzH b f q L h0, hm c hne h1, by rw [frzL_all (fun l c p hp => (hf l c p hp).2.2) (fun o p hp => (hq o p hp).2.2)]; exact h2, ⟨cc, e, hc, j1⟩, i1⟩, fun t => ?_⟩
        have e1 : toksB w c (frzL b f q cs) = toksB w c cs := by simp only [toksB, hc, j2]
        simp only [toksH, List.count_append, e1]
        have := i2 t
        omega
      · refine ⟨⟨hget_frzH b f q L h0, hm c hne h1, h2, ⟨cc, e, hc, VRl_mono hE true _ _ hov hv⟩, i1⟩, fun t => ?_⟩
        simp only [toksH, List.count_append]
        have := i2 t
        omega
theorem freeze_rel {out : List Nat} {st : List PV} {H : Heap} {a : Act} {w : World} {g : Ghost} (h : Rel dq out st H a w g) {b : Nat} {cs : List PV} (hb : hget H b = some cs) (sz : Nat) (ag : Bool) (L : List Nat) :
    Rel dq out (frzL b (rowL sz ag cs) (ptrL cs) st) (frzH b (rowL sz ag cs) (ptrL cs) L H) a w (upd g b .imm) ∧ Evol out w g w (upd g b .imm) := by
  obtain ⟨hmut, hall, c, e, hc, hcv⟩ := h.hp.mut_of_get hb
  have htl : ∀ t, t ∈ out ++ toksL st a.tmps.toList ++ toksH w H → ∃ f, g t = .tail f := fun t ht => by
    simp only [List.mem_append] at ht
    rcases ht with (ht | ht) | ht
    · exact h.wr.outT t ht
    · exact toksL_tail st _ h.tm t ht
    · exact toksH_tail h.hp t ht
  have hne : ∀ t f, g t = .tail f → t ≠ b := fun t f hf e => by subst e; rw [hmut] at hf; cases hf
  have hE : Evol (out ++ toksL st a.tmps.toList ++ toksH w H) w g w (upd g b .imm) := by
    refine ⟨rfl, rfl, rfl, Nat.le_refl _, fun k hk hi => ⟨rfl, ?_⟩, fun k f c2 e2 fz _ hf h2 => ⟨c2, fz, h2, rfl, .inr ⟨f, Nat.le_refl _, ?_⟩⟩, fun k hk => ⟨rfl, ?_⟩⟩
    · rw [upd_ne _ _ (fun e => by subst e; rw [hmut] at hi; cases hi)]; exact hi
    · rw [upd_ne _ _ (hne k f hf)]; exact hf
    · obtain ⟨f, hf⟩ := htl k hk
      rw [upd_ne _ _ (hne k f hf)]
  have hfal := VRl_weak _ _ (VRl_mono hE true cs _ (fun _ t ht => by
    simp only [List.mem_append]
    exact .inr (mem_toksH (hget_mem hb) (by simp only [toksB, hc]; exact ht))) hcv)
  have hf := rowL_VR (sz := sz) (ag := ag) hc (upd_same g b .imm) hfal hall
  have hq := ptrL_VR hc (upd_same g b .imm) hfal hall
  obtain ⟨i1, i2⟩ := frzH_rel (L := L) hE (fun k hk hm => by rw [upd_ne _ _ hk]; exact hm) hf hq (H := H) (fun t ht => by simp [ht]) h.hp
  obtain ⟨j1, j2⟩ := frzL_VR hE hf hq st a.tmps.toList (fun _ t ht => by simp [ht]) h.tm
  refine ⟨⟨⟨fun k hk => ?_, fun k f hk => ?_, fun k hk => ?_⟩, i1, j1, fun t => ?_, h.df⟩, hE.sub (fun t ht => by simp [ht])⟩
  · by_cases e : k = b
    · subst e; exact upd_same _ _ _
    · rw [upd_ne _ _ e]; exact h.wr.fresh k hk
  · by_cases e : k = b
    · subst e; rw [upd_same] at hk; cases hk
    · rw [upd_ne _ _ e] at hk; exact h.wr.tl k f hk
  · obtain ⟨f, hf⟩ := h.wr.outT k hk
    exact ⟨f, by rw [upd_ne _ _ (hne k f hf)]; exact hf⟩
  · rw [j2]
    have := i2 t
    have := h.un t
    omega
section
variable {P : Program} {Q : PPost} {st : List PV} {H : Heap}
theorem pwp_freeze {pc : PCode} {b : Nat} {cs : List PV} (sz : Nat) (ag : Bool) (L : List Nat) (hb : hget H b = some cs) (h : pwp P pc Q (frzL b (rowL sz ag cs) (ptrL cs) st) (frzH b (rowL sz ag cs) (ptrL cs) L H)) : pwp P pc Q st H := by
  intro hh c hc rr hrr dq out a w g hR
  obtain ⟨h1, h2⟩ := freeze_rel hR hb sz ag L
  exact wpIn_mono (h hh c hc rr hrr dq out a w _ h1) fun e a' w' hp => hp.trans h2
theorem SpecH_mono {f : Nat} {args : List PV} {R R' : PV → Heap → Prop} (h : SpecH P f H args R) (hr : ∀ r H', R r H' → R' r H') : SpecH P f H args R' :=
  ⟨h.1, fun out w g vals h1 h2 h3 h4 => (h.2 out w g vals h1 h2 h3 h4).mono fun e w' ⟨v, r, H', g', a1, a2, a3⟩ => ⟨v, r, H', g', a1, hr _ _ a2, a3⟩⟩
end
end Go.Proofs.YtjcjbpbkakfjdaaDoor.E
/- A logic of plain values, part 32: regions whose order is drawn, that store. -/
namespace Go.Proofs.YtjcjbpbkakfjdaaDoor.E
open Go Go.RowKit
set_option linter.unusedVariables false
set_option linter.unusedSimpArgs false
def planS (P : Program) (late : List (Nat × Nat)) : List POp → Nat → Uses → Uses → (List PV → Heap → Prop) → List PV → Heap → Prop
  | [], _, _, _, K, st, H => K st H
  | op :: ops, i, rd, wr, K, st, H =>
    match goes op st with
    | none => False
    | some false => planS P late ops (i + 1) rd wr K (putSt st op.dst (.tup [])) H
    | some true => match op.k with
      | .sto sz x v => match arg st x with
        | .ptr (some (b, off)) => match hget H b with
          | some cs => (cellsOf (argT st v)).length = sz ∧ off + sz ≤ cs.length ∧ (cellsOf (argT st v)).all PV.isCell = true ∧ (∀ e ∈ rd, (e.1, i) ∈ late → apartC e.2 (b, off, sz)) ∧
              planS P late ops (i + 1) rd ((i, b, off, sz) :: wr) K (putSt (takeAt st v) op.dst .unit) (hset H b (cs.take off ++ cellsOf (argT st v) ++ cs.drop (off + sz)))
          | none => False
        | _ => False
      | .ld sz ag true x => match arg st x with
        | .ptr (some (b, off)) => match hget H b with
          | some cs => match partP sz ag cs off with
            | some r => off + sz ≤ cs.length ∧ (∀ e ∈ rd, (e.1, i) ∈ late → apartC e.2 (b, off, sz)) ∧
                planS P late ops (i + 1) rd ((i, b, off, sz) :: wr) K (putSt st op.dst r) (hset H b (cs.take off ++ lendL ((cs.drop off).take sz) ++ cs.drop (off + sz)))
            | none => False
          | none => False
        | _ => False
      | .cpy sz x y => cpyB sz (arg st x) (arg st y) (fun v H' => planS P late ops (i + 1) rd wr K (putSt st op.dst v) H') H
      | .callF f args tk => ∃ r, PSpec P f (callArgs st args tk) r ∧ planS P late ops (i + 1) rd wr K (putSt (callTake st args tk) op.dst r) H
      | .callV fx args => match arg st fx with
        | .fn (.func f) first cap => ∃ r, PSpec P f (lendL first ++ args.map (arg st) ++ lendL cap) r ∧ planS P late ops (i + 1) rd wr K (putSt st op.dst r) H
        | _ => False
      | k => match pev st H k with
        | some r => match ldCells st k with
          | some c => (∀ e ∈ wr, (i, e.1) ∈ late → apartC c e.2) ∧ planS P late ops (i + 1) ((i, c) :: rd) wr K (putSt (ptake st k) op.dst r) H
          | none => planS P late ops (i + 1) rd wr K (putSt (ptake st k) op.dst r) H
        | none => False
def planSB (P : Program) (late : List (Nat × Nat)) (op : POp) (ops : List POp) (i : Nat) (rd wr : Uses) (K : List PV → Heap → Prop) (st : List PV) (H : Heap) : Prop :=
  match goes op st with
  | none => False
  | some false => planS P late ops (i + 1) rd wr K (putSt st op.dst (.tup [])) H
  | some true => match op.k with
    | .sto sz x v => match arg st x with
      | .ptr (some (b, off)) => match hget H b with
        | some cs => (cellsOf (argT st v)).length = sz ∧ off + sz ≤ cs.length ∧ (cellsOf (argT st v)).all PV.isCell = true ∧ (∀ e ∈ rd, (e.1, i) ∈ late → apartC e.2 (b, off, sz)) ∧
            planS P late ops (i + 1) rd ((i, b, off, sz) :: wr) K (putSt (takeAt st v) op.dst .unit) (hset H b (cs.take off ++ cellsOf (argT st v) ++ cs.drop (off + sz)))
        | none => False
      | _ => False
    | .ld sz ag true x => match arg st x with
      | .ptr (some (b, off)) => match hget H b with
        | some cs => match partP sz ag cs off with
          | some r => off + sz ≤ cs.length ∧ (∀ e ∈ rd, (e.1, i) ∈ late → apartC e.2 (b, off, sz)) ∧
              planS P late ops (i + 1) rd ((i, b, off, sz) :: wr) K (putSt st op.dst r) (hset H b (cs.take off ++ lendL ((cs.drop off).take sz) ++ cs.drop (off + sz)))
          | none => False
        | none => False
      | _ => False
    | .cpy sz x y => cpyB sz (arg st x) (arg st y) (fun v H' => planS P late ops (i + 1) rd wr K (putSt st op.dst v) H') H
    | .callF f args tk => ∃ r, PSpec P f (callArgs st args tk) r ∧ planS P late ops (i + 1) rd wr K (putSt (callTake st args tk) op.dst r) H
    | .callV fx args => match arg st fx with
      | .fn (.func f) first cap => ∃ r, PSpec P f (lendL first ++ args.map (arg st) ++ lendL cap) r ∧ planS P late ops (i + 1) rd wr K (putSt st op.dst r) H
      | _ => False
    | k => match pev st H k with
      | some r => match ldCells st k with
        | some c => (∀ e ∈ wr, (i, e.1) ∈ late → apartC c e.2) ∧ planS P late ops (i + 1) ((i, c) :: rd) wr K (putSt (ptake st k) op.dst r) H
        | none => planS P late ops (i + 1) rd wr K (putSt (ptake st k) op.dst r) H
      | none => False
theorem planS_nil {P : Program} {late : List (Nat × Nat)} {i : Nat} {rd wr : Uses} {K : List PV → Heap → Prop} {st : List PV} {H : Heap} : planS P late [] i rd wr K st H = K st H := by rw [planS]
theorem planS_cons {P : Program} {late : List (Nat × Nat)} {op : POp} {ops : List POp} {i : Nat} {rd wr : Uses} {K : List PV → Heap → Prop} {st : List PV} {H : Heap} : planS P late (op :: ops) i rd wr K st H = planSB P late op ops i rd wr K st H := by
  rw [planS]
  rfl
section
variable {P : Program} {Q : PPost} {st : List PV} {H : Heap}
theorem planS_plan {late : List (Nat × Nat)} {K : List PV → Heap → Prop} : ∀ {ops : List POp} {i : Nat} {rd wr : Uses} {st : List PV} {H : Heap}, planS P late ops i rd wr K st H → planOps P late ops i rd wr K st H
  | [], i, rd, wr, st, H, h => h
  | op :: ops, i, rd, wr, st, H, h => by
    have step : (match op.k with
      | .sto sz x v => match arg st x with
        | .ptr (some (b, off)) => match hget H b with
          | some cs => (cellsOf (argT st v)).length = sz ∧ off + sz ≤ cs.length ∧ (cellsOf (argT st v)).all PV.isCell = true ∧ (∀ e ∈ rd, (e.1, i) ∈ late → apartC e.2 (b, off, sz)) ∧
              planS P late ops (i + 1) rd ((i, b, off, sz) :: wr) K (putSt (takeAt st v) op.dst .unit) (hset H b (cs.take off ++ cellsOf (argT st v) ++ cs.drop (off + sz)))
          | none => False
        | _ => False
      | .ld sz ag true x => match arg st x with
        | .ptr (some (b, off)) => match hget H b with
          | some cs => match partP sz ag cs off with
            | some r => off + sz ≤ cs.length ∧ (∀ e ∈ rd, (e.1, i) ∈ late → apartC e.2 (b, off, sz)) ∧
                planS P late ops (i + 1) rd ((i, b, off, sz) :: wr) K (putSt st op.dst r) (hset H b (cs.take off ++ lendL ((cs.drop off).take sz) ++ cs.drop (off + sz)))
            | none => False
          | none => False
        | _ => False
      | .cpy sz x y => cpyB sz (arg st x) (arg st y) (fun v H' => planS P late ops (i + 1) rd wr K (putSt st op.dst v) H') H
      | .callF f args tk => ∃ r, PSpec P f (callArgs st args tk) r ∧ planS P late ops (i + 1) rd wr K (putSt (callTake st args tk) op.dst r) H
      | .callV fx args => match arg st fx with
        | .fn (.func f) first cap => ∃ r, PSpec P f (lendL first ++ args.map (arg st) ++ lendL cap) r ∧ planS P late ops (i + 1) rd wr K (putSt st op.dst r) H
        | _ => False
      | k => match pev st H k with
        | some r => match ldCells st k with
          | some c => (∀ e ∈ wr, (i, e.1) ∈ late → apartC c e.2) ∧ planS P late ops (i + 1) ((i, c) :: rd) wr K (putSt (ptake st k) op.dst r) H
          | none => planS P late ops (i + 1) rd wr K (putSt (ptake st k) op.dst r) H
        | none => False) → planOp P late op i rd wr (fun rd' wr' st' H' => planOps P late ops (i + 1) rd' wr' K st' H') st H := by
      obtain ⟨d, gd, k⟩ := op
      intro h
      have pure_ : (match pev st H k with
          | some r => match ldCells st k with
            | some c => (∀ e ∈ wr, (i, e.1) ∈ late → apartC c e.2) ∧ planS P late ops (i + 1) ((i, c) :: rd) wr K (putSt (ptake st k) d r) H
            | none => planS P late ops (i + 1) rd wr K (putSt (ptake st k) d r) H
          | none => False) → ∃ r, pev st H k = some r ∧ (∀ c, ldCells st k = some c → ∀ e ∈ wr, (i, e.1) ∈ late → apartC c e.2) ∧
          planOps P late ops (i + 1) (match ldCells st k with | some c => (i, c) :: rd | none => rd) wr K (putSt (ptake st k) d r) H := fun h => by
        cases hr : pev st H k with
        | none => rw [hr] at h; exact h.elim
        | some r =>
          rw [hr] at h
          refine ⟨r, rfl, ?_⟩
          cases hl : ldCells st k with
          | some c =>
            simp only [hl] at h ⊢
            exact ⟨fun c' hc => by cases hc; exact h.1, planS_plan h.2⟩
          | none =>
            exact ⟨fun c' hc => by simp at hc, by simp only [hl] at h; exact planS_plan h⟩
      have no : (match pev st H k with
          | some r => match ldCells st k with
            | some c => (∀ e ∈ wr, (i, e.1) ∈ late → apartC c e.2) ∧ planS P late ops (i + 1) ((i, c) :: rd) wr K (putSt (ptake st k) d r) H
            | none => planS P late ops (i + 1) rd wr K (putSt (ptake st k) d r) H
          | none => False) → pev st H k = none → False := fun h e => by rw [e] at h; exact h
      cases k with
      | sto sz x v =>
        simp only at h
        split at h
        · rename_i b off e
          split at h
          · rename_i cs e2
            exact ⟨b, off, cs, e, e2, h.1, h.2.1, h.2.2.1, h.2.2.2.1, planS_plan h.2.2.2.2⟩
          · exact h.elim
        · exact h.elim
      | callF n xs tk =>
        obtain ⟨r, h1, h2⟩ := h
        exact ⟨r, h1, planS_plan h2⟩
      | callV fx xs =>
        simp only at h
        split at h
        · rename_i f first cap e
          obtain ⟨r, h1, h2⟩ := h
          exact ⟨f, first, cap, r, e, h1, planS_plan h2⟩
        · exact h.elim
      | cpy s x y => exact cpyB_mono h fun v H' h => planS_plan h
      | al z => exact (no h rfl).elim
      | bx s x => exact (no h rfl).elim
      | appR s b z x y => exact (no h rfl).elim
      | clr s z x => exact (no h rfl).elim
      | cap x => exact (no h rfl).elim
      | ld s ag tk x =>
        cases tk with
        | false => exact pure_ h
        | true =>
          simp only at h
          split at h
          · rename_i b off e
            split at h
            · rename_i cs e2
              split at h
              · rename_i r e3
                exact ⟨b, off, cs, r, e, e2, e3, h.1, h.2.1, planS_plan h.2.2⟩
              · exact h.elim
            · exact h.elim
          · exact h.elim
      | mk s b ag z l c mu =>
        cases mu with
        | false => exact pure_ h
        | true => exact (no h rfl).elim
      | bsl s n ag z ps mu =>
        cases mu with
        | false => exact pure_ h
        | true => exact (no h rfl).elim
      | _ => exact pure_ h
    unfold planS at h
    unfold planOps
    unfold goes at h
    cases hg : op.gd with
    | none =>
      rw [hg] at h
      exact step h
    | some p =>
      obtain ⟨t, want⟩ := p
      rw [hg] at h
      simp only at h ⊢
      cases e : gval (st.getD t .unit) with
      | some b =>
        rw [e] at h
        refine ⟨b, rfl, ?_⟩
        simp only at h
        by_cases hb : b = some want
        · rw [if_pos hb]
          have : (b == some want) = true := by simp [hb]
          rw [this] at h
          exact step h
        · rw [if_neg hb]
          have : (b == some want) = false := by simp [hb]
          rw [this] at h
          exact planS_plan h
      | none => rw [e] at h; exact h.elim
theorem pwp_drawS (hmix : P.follows .mixedOrders = true) {ops : List POp} {late : List (Nat × Nat)} (h : ∀ K : List PV → Heap → Prop, (∀ st' H', Q .normal st' H' → K st' H') → planS P late ops 0 [] [] K st H) : pwp P (.draw ops late) Q st H := pwp_draw hmix (planS_plan (h _ fun _ _ h => h))
end
end Go.Proofs.YtjcjbpbkakfjdaaDoor.E
/- A logic of plain values, part 33: an empty slice is one of any elements. -/
namespace Go.Proofs.YtjcjbpbkakfjdaaDoor.E
open Go Go.RowKit
set_option linter.unusedVariables false
set_option linter.unusedSimpArgs false
variable {dq : List Deferred}
mutual
def Up (b : Bool) : PV → PV → Prop
  | .lst s xs o, y => ∃ s' ys o', y = .lst s' ys o' ∧ (s' = s ∨ (s = 0 ∧ xs = [])) ∧ (b = true → o' = o) ∧ UpL false xs ys
  | .agg cs, y => ∃ ds, y = .agg ds ∧ UpL b cs ds
  | .tup cs, y => ∃ ds, y = .tup ds ∧ UpL b cs ds
  | x, y => y = x
def UpL (b : Bool) : List PV → List PV → Prop
  | [], ys => ys = []
  | x :: xs, ys => ∃ y ys', ys = y :: ys' ∧ Up b x y ∧ UpL b xs ys'
end
mutual
theorem Up_refl (b : Bool) : ∀ x : PV, Up b x x
  | .lst s xs o => ⟨s, xs, o, rfl, .inl rfl, fun _ => rfl, UpL_refl false xs⟩
  | .agg cs => ⟨cs, rfl, UpL_refl b cs⟩
  | .tup cs => ⟨cs, rfl, UpL_refl b cs⟩
  | .int .. | .bool .. | .str .. | .unit | .ptr .. | .ip .. | .row .. | .map .. | .fn .. | .nilf | .nlit .. | .xl .. | .sh .. | .mpI .. => rfl
theorem UpL_refl (b : Bool) : ∀ xs : List PV, UpL b xs xs
  | [] => rfl
  | x :: xs => ⟨x, xs, rfl, Up_refl b x, UpL_refl b xs⟩
end
theorem UpL_length {b : Bool} : ∀ {xs ys : List PV}, UpL b xs ys → ys.length = xs.length
  | [], ys, h => by cases h; rfl
  | x :: xs, ys, h => by
    obtain ⟨y, ys', rfl, _, h⟩ := h
    simp [UpL_length h]
theorem Up_isCell {b : Bool} {x y : PV} (h : Up b x y) : y.isCell = x.isCell := by
  cases x <;> first
    | (obtain ⟨s', ys, o', rfl, _⟩ := h; rfl)
    | (obtain ⟨ds, rfl, _⟩ := h; rfl)
    | (cases h; rfl)
theorem UpL_all {b : Bool} : ∀ {xs ys : List PV}, UpL b xs ys → ys.all PV.isCell = xs.all PV.isCell
  | [], ys, h => by cases h; rfl
  | x :: xs, ys, h => by
    obtain ⟨y, ys', rfl, h1, h2⟩ := h
    simp [Up_isCell h1, UpL_all h2]
mutual
theorem Up_VR {o b : Bool} (hb : o = true → b = true) {w : World} {g : Ghost} : ∀ (x y : PV) (v : Value), Up b x y → VR o w g x v → VR o w g y v
  | .lst s xs own, y, v, hu, h => by
    obtain ⟨s', ys, o', rfl, hs, ho, hx⟩ := hu
    obtain ⟨A, cap, rfl, h1, h2, h3, h4⟩ := h
    have hl := UpL_length hx
    refine ⟨A, cap, by rw [hl], by omega, h2, ?_, fun e1 e2 hlt => ?_⟩
    · rcases hs with rfl | ⟨rfl, rfl⟩
      · rcases h3 with h3 | ⟨b, off, vs, h5, h6, h7⟩
        · subst h3; cases hx; exact .inl rfl
        · exact .inr ⟨b, off, vs, h5, by rw [hl]; exact h6, UpL_VRe xs ys vs hx h7⟩
      · cases hx; exact .inl rfl
    · have e3 := ho (hb e1)
      subst e3
      have := h4 e1 e2 (by omega)
      rcases hs with rfl | ⟨rfl, rfl⟩
      · rw [hl]; exact this
      · exact absurd this.1 (by omega)
  | .agg cs, y, v, hu, h => by
    obtain ⟨ds, rfl, hx⟩ := hu
    obtain ⟨h0, vs, rfl, h1⟩ := h
    exact ⟨by rw [UpL_all hx]; exact h0, vs, rfl, UpL_VR hb cs ds vs.toList hx h1⟩
  | .tup cs, y, v, hu, h => by
    obtain ⟨ds, rfl, hx⟩ := hu
    obtain ⟨vs, rfl, h1⟩ := h
    exact ⟨vs, rfl, UpL_VR hb cs ds vs.toList hx h1⟩
  | .int .., y, v, hu, h => by cases hu; exact h
  | .bool .., y, v, hu, h => by cases hu; exact h
  | .str .., y, v, hu, h => by cases hu; exact h
  | .unit, y, v, hu, h => by cases hu; exact h
  | .ptr .., y, v, hu, h => by cases hu; exact h
  | .ip .., y, v, hu, h => by cases hu; exact h
  | .row .., y, v, hu, h => by cases hu; exact h
  | .map .., y, v, hu, h => by cases hu; exact h
  | .fn .., y, v, hu, h => by cases hu; exact h
  | .nilf, y, v, hu, h => by cases hu; exact h
  | .mpI .., y, v, hu, h => by cases hu; exact h
  | .nlit .., y, v, hu, h => by cases hu; exact h
  | .xl .., y, v, hu, h => by cases hu; exact h
  | .sh .., y, v, hu, h => by cases hu; exact h
theorem UpL_VR {o b : Bool} (hb : o = true → b = true) {w : World} {g : Ghost} : ∀ (xs ys : List PV) (vs : List Value), UpL b xs ys → VRl o w g xs vs → VRl o w g ys vs
  | [], ys, vs, hu, h => by cases hu; exact h
  | x :: xs, ys, vs, hu, h => by
    obtain ⟨y, ys', rfl, h1, h2⟩ := hu
    obtain ⟨v, vs', rfl, h3, h4⟩ := h
    exact ⟨v, vs', rfl, Up_VR hb x y v h1 h3, UpL_VR hb xs ys' vs' h2 h4⟩
theorem UpL_VRe {w : World} {g : Ghost} {sz : Nat} : ∀ (xs ys : List PV) (vs : List Value), UpL false xs ys → VRe w g sz xs vs → VRe w g sz ys vs
  | [], ys, vs, hu, h => by cases hu; exact h
  | x :: xs, ys, vs, hu, h => by
    obtain ⟨y, ys', rfl, h1, h2⟩ := hu
    obtain ⟨us, vs', rfl, ⟨hl, h3⟩, h4⟩ := VRe_cons.1 h
    refine VRe_cons.2 ⟨us, vs', rfl, ⟨hl, ?_⟩, UpL_VRe xs ys' vs' h2 h4⟩
    rcases h3 with ⟨cs, e, h5, h6⟩ | ⟨h5, v, rfl, h6⟩
    · have hag : VR false w g x (.agg us.toArray) := by rw [e]; exact ⟨h5, us.toArray, rfl, by simpa using h6⟩
      have h7 := Up_VR (o := false) (b := false) (fun h => h) x y _ h1 hag
      rw [e] at h1
      obtain ⟨ds, rfl, h1⟩ := h1
      obtain ⟨k1, vs2, k2, k3⟩ := h7
      cases k2
      exact .inl ⟨ds, rfl, k1, by simpa using k3⟩
    · exact .inr ⟨by rw [Up_isCell h1]; exact h5, v, rfl, Up_VR (o := false) (b := false) (fun h => h) x y v h1 h6⟩
end
theorem Up_toks_lst {s : Nat} {xs : List PV} {own : Bool} {y : PV} {v : Value} (hu : Up true (.lst s xs own) y) : toks y v = toks (.lst s xs own) v := by
  obtain ⟨s', ys, o', rfl, hs, ho, hx⟩ := hu
  have e := ho rfl
  subst e
  have hl := UpL_length hx
  cases o' with
  | false => simp [toks]
  | true =>
    cases v with
    | slice A n cap =>
      cases A with
      | none => simp only [toks]
      | some a => simp only [toks, hl]
    | _ => simp only [toks]
mutual
theorem Up_toks : ∀ (x y : PV) (v : Value), Up true x y → toks y v = toks x v
  | .lst s xs own, y, v, hu => Up_toks_lst hu
  | .agg cs, y, v, hu => by
    obtain ⟨ds, rfl, hx⟩ := hu
    have hrec := fun l => UpL_toks cs ds l hx
    cases v <;> simp only [toks, hrec]
  | .tup cs, y, v, hu => by
    obtain ⟨ds, rfl, hx⟩ := hu
    have hrec := fun l => UpL_toks cs ds l hx
    cases v <;> simp only [toks, hrec]
  | .int .., y, v, hu => by cases hu; rfl
  | .bool .., y, v, hu => by cases hu; rfl
  | .str .., y, v, hu => by cases hu; rfl
  | .unit, y, v, hu => by cases hu; rfl
  | .ptr .., y, v, hu => by cases hu; rfl
  | .ip .., y, v, hu => by cases hu; rfl
  | .row .., y, v, hu => by cases hu; rfl
  | .map .., y, v, hu => by cases hu; rfl
  | .fn .., y, v, hu => by cases hu; rfl
  | .nilf, y, v, hu => by cases hu; rfl
  | .mpI .., y, v, hu => by cases hu; rfl
  | .nlit .., y, v, hu => by cases hu; rfl
  | .xl .., y, v, hu => by cases hu; rfl
  | .sh .., y, v, hu => by cases hu; rfl
theorem UpL_toks : ∀ (xs ys : List PV) (vs : List Value), UpL true xs ys → toksL ys vs = toksL xs vs
  | [], ys, vs, hu => by cases hu; rfl
  | x :: xs, ys, vs, hu => by
    obtain ⟨y, ys', rfl, h1, h2⟩ := hu
    have r1 := fun v => Up_toks x y v h1
    have r2 := fun l => UpL_toks xs ys' l h2
    cases vs with
    | nil => simp [toksL]
    | cons v vs => simp only [toksL, r1, r2]
end
theorem Up_lst {b : Bool} {s s' : Nat} {xs ys : List PV} {o o' : Bool} : Up b (.lst s xs o) (.lst s' ys o') ↔ (s' = s ∨ (s = 0 ∧ xs = [])) ∧ (b = true → o' = o) ∧ UpL false xs ys := by
  constructor
  · rintro ⟨_, _, _, e, h⟩
    cases e
    exact h
  · exact fun h => ⟨_, _, _, rfl, h⟩
theorem Up_agg {b : Bool} {cs ds : List PV} : Up b (.agg cs) (.agg ds) ↔ UpL b cs ds := by
  constructor
  · rintro ⟨_, e, h⟩
    cases e
    exact h
  · exact fun h => ⟨_, rfl, h⟩
theorem Up_tup {b : Bool} {cs ds : List PV} : Up b (.tup cs) (.tup ds) ↔ UpL b cs ds := by
  constructor
  · rintro ⟨_, e, h⟩
    cases e
    exact h
  · exact fun h => ⟨_, rfl, h⟩
theorem UpL_cons {b : Bool} {x y : PV} {xs ys : List PV} : UpL b (x :: xs) (y :: ys) ↔ Up b x y ∧ UpL b xs ys := by
  constructor
  · rintro ⟨_, _, e, h⟩
    cases e
    exact h
  · exact fun h => ⟨_, _, rfl, h⟩
def UpA (b : Bool) : List (Nat × PV) → List (Nat × PV) → Prop
  | [], l => l = []
  | (i, x) :: l, (j, y) :: l' => i = j ∧ Up b x y ∧ UpA b l l'
  | _ :: _, [] => False
theorem UpA_getS {b : Bool} (i : Nat) : ∀ {l l' : List (Nat × PV)}, UpA b l l' → Up b (getS l i) (getS l' i)
  | [], l', h => by cases h; exact Up_refl b _
  | (j, x) :: l, [], h => h.elim
  | (j, x) :: l, (j2, y) :: l2, h => by
    obtain ⟨rfl, h1, h2⟩ := h
    simp only [getS]
    split
    · exact h1
    · exact UpA_getS i h2
theorem UpL_map_range {b : Bool} {f f' : Nat → PV} (h : ∀ i, Up b (f i) (f' i)) : ∀ l : List Nat, UpL b (l.map f) (l.map f')
  | [] => rfl
  | i :: l => ⟨_, _, rfl, h i, UpL_map_range h l⟩
theorem MS_up {b : Bool} {n : Nat} {l l' : List (Nat × PV)} (h : UpA b l l') : UpL b (MS n l) (MS n l') := UpL_map_range (fun i => UpA_getS i h) _
theorem keep_up {b : Bool} {keep : List Nat} {n : Nat} {l l' : List (Nat × PV)} (h : UpA b (keepA keep l) l') : UpL b (keepL keep 0 (MS n l)) (MS n l') := by
  rw [keepL_MS]
  exact MS_up h
section
variable {P : Program} {Q : PPost} {st : List PV} {H : Heap}
theorem pwp_up {pc : PCode} {st' : List PV} (hu : UpL true st st') (h : pwp P pc Q st' H) : pwp P pc Q st H := by
  intro hh c hc rr hrr dq out a w g hR
  exact h hh c hc rr hrr dq out a w g ⟨hR.wr, hR.hp, UpL_VR (fun h => h) st st' _ hu hR.tm, fun b => by rw [UpL_toks st st' _ hu]; exact hR.un b, hR.df⟩
theorem pwp_loopU (keep : List Nat) (I : Nat → List PV → Heap → Prop) {x : PCode} {n : Nat} (h0 : ∃ st2 H2, UpL true (keepL keep 0 st) st2 ∧ H2.Sublist H ∧ I n st2 H2)
    (h : ∀ n st H, I n st H → pwp P x (thenP (fun st' H' => ∃ m, m < n ∧ ∃ st2 H2, UpL true (keepL keep 0 st') st2 ∧ H2.Sublist H' ∧ I m st2 H2) Q) st H) : pwp P (.loop x) Q st H := by
  refine pwp_loop (fun m s H' => ∃ st2 H2, UpL true (keepL keep 0 s) st2 ∧ H2.Sublist H' ∧ I m st2 H2) h0 ?_
  rintro m s H' ⟨st2, H2, h1, h2, h3⟩
  exact pwp_drop h2 (pwp_keep keep (pwp_up h1 (h m _ _ h3)))
theorem SpecH_up {f : Nat} {args : List PV} {R R' : PV → Heap → Prop} (h : SpecH P f H args R) (hr : ∀ r H', R r H' → ∃ r', Up true r r' ∧ R' r' H') : SpecH P f H args R' := by
  refine ⟨h.1, fun out w g vals h1 h2 h3 h4 => (h.2 out w g vals h1 h2 h3 h4).mono ?_⟩
  rintro e w' ⟨v, r, H', g', rfl, a2, a3, a4, a5, a6, a7⟩
  obtain ⟨r', hu, hR⟩ := hr _ _ a2
  exact ⟨v, r', H', g', rfl, hR, a3, a4, Up_VR (fun h => h) r r' v hu a5, fun t => by rw [Up_toks r r' v hu]; exact a6 t, a7⟩
theorem spec_ofU {h : Hint} {f : Nat} {p : PFn} {args : List PV} {H : Heap} {R : PV → Heap → Prop} (hf : compF P h f = some p) (hl : args.length ≤ p.ntmps)
    (hb : pwp P p.body (fun e st' H' => (e = .normal ∨ e = .ret) ∧ ∃ rs r H2, resL st' H' p.res = some rs ∧ H2.Sublist H' ∧ Up true (resV rs) r ∧ R r H2) (MS p.ntmps (idxA 0 args)) H) : SpecH P f H args R := by
  refine SpecH_up (R := fun r H' => ∃ r', Up true r r' ∧ R r' H') (spec_of hf hl (pwp_mono hb ?_)) fun r H' h => h
  rintro e st' H' ⟨h1, rs, r, H2, h2, h3, h4, h5⟩
  exact ⟨h1, rs, H2, h2, h3, r, h4, h5⟩
end
end Go.Proofs.YtjcjbpbkakfjdaaDoor.E
/- A logic of plain values, part 34: steps that are taken one by one. -/
namespace Go.Proofs.YtjcjbpbkakfjdaaDoor.E
open Go Go.RowKit
set_option linter.unusedVariables false
set_option linter.unusedSimpArgs false
def runK (P : Program) (k : PK) (d : Option Nat) (ops : List POp) (K : List PV → Heap → Prop) (st : List PV) (H : Heap) : Prop :=
  match k with
  | .al cs => ∀ b, hget H b = none → runM P ops K (putSt st d (.ptr (some (b, 0)))) ((b, cs) :: H)
  | .bx sz x => (cellsOf (argT st x)).all PV.isCell = true ∧ ∀ b, hget H b = none → runM P ops K (putSt (takeAt st x) d (.ptr (some (b, 0)))) ((b, cellsOf (argT st x)) :: H)
  | .sto sz x v => match arg st x with
    | .ptr (some (b, off)) => match hget H b with
      | some cs => (cellsOf (argT st v)).length = sz ∧ off + sz ≤ cs.length ∧ (cellsOf (argT st v)).all PV.isCell = true ∧
            runM P ops K (putSt (takeAt st v) d .unit) (hset H b (cs.take off ++ cellsOf (argT st v) ++ cs.drop (off + sz)))
      | none => False
    | _ => False
  | .ld sz ag true x => match arg st x with
    | .ptr (some (b, off)) => match hget H b with
      | some cs => match partP sz ag cs off with
        | some r => runM P ops K (putSt st d r) (hset H b (cs.take off ++ lendL ((cs.drop off).take sz) ++ cs.drop (off + sz)))
        | none => False
      | none => False
    | _ => False
  | .mk sz bytes ag zero l c true => match arg st l, arg st c with
    | .int _ ln, .int _ cn => 0 ≤ ln ∧ ln ≤ cn ∧ cn * bytes ≤ 281474976710656 ∧ ∀ b, hget H b = none → runM P ops K (putSt st d (.row b 0 ln.toNat cn.toNat)) ((b, repCells cn.toNat zero) :: H)
    | _, _ => False
  | .bsl sz len ag zero ps true => match fillP zero (elemParts sz st ps) with
    | some cs => ∀ b, hget H b = none → runM P ops K (putSt st d (.row b 0 len len)) ((b, cs) :: H)
    | none => False
  | .eqN ne x => match arg st x with
    | .lst s xs o => (xs ≠ [] → runM P ops K (putSt st d (.bool ne)) H) ∧ (xs = [] → ∀ b, runM P ops K (putSt st d (.bool b)) H)
    | _ => False
  | .appR sz bytes zero x y => appB sz bytes zero (arg st x) (arg st y) (fun v H' => runM P ops K (putSt st d v) H') H
  | .cpy sz x y => cpyB sz (arg st x) (arg st y) (fun v H' => runM P ops K (putSt st d v) H') H
  | .clr sz zero x => clrB sz zero (arg st x) (fun v H' => runM P ops K (putSt st d v) H') H
  | .cap x => capB (arg st x) (fun v H' => runM P ops K (putSt st d v) H') H
  | .callF f args tk => callK P f H (callArgs st args tk) ops K (callTake st args tk) d
  | .callV fx args => match arg st fx with
    | .fn (.func f) first cap => callK P f H (lendL first ++ args.map (arg st) ++ lendL cap) ops K st d
    | _ => False
  | k => match pev st H k with
    | some r => runM P ops K (putSt (ptake st k) d r) H
    | none => False
section
variable {P : Program} {K : List PV → Heap → Prop} {st : List PV} {H : Heap} {d : Option Nat} {k : PK} {ops : List POp} {t : Nat} {w : Bool}
theorem runM_n : runM P (⟨d, none, k⟩ :: ops) K st H = runK P k d ops K st H := by rw [runM_cons]; rfl
theorem runM_t (h : st.getD t .unit = .bool w) : runM P (⟨d, some (t, w), k⟩ :: ops) K st H = runK P k d ops K st H := by
  rw [runM_cons, runB]
  simp only [goes, h, gval, beq_self_eq_true]
  rfl
theorem runM_f (h : st.getD t .unit = .bool (!w)) : runM P (⟨d, some (t, w), k⟩ :: ops) K st H = runM P ops K (putSt st d (.tup [])) H := by
  rw [runM_cons, runB]
  have : ((some (!w)) == some w) = false := by cases w <;> rfl
  simp only [goes, h, gval, this]
theorem runM_s (h : st.getD t .unit = .tup []) : runM P (⟨d, some (t, w), k⟩ :: ops) K st H = runM P ops K (putSt st d (.tup [])) H := by
  rw [runM_cons, runB]
  have : ((none : Option Bool) == some w) = false := rfl
  simp only [goes, h, gval, this]
end
def planK (P : Program) (k : PK) (d : Option Nat) (ops : List POp) (K : List PV → Heap → Prop) (st : List PV) (H : Heap) : Prop :=
  match k with
    | .cpy sz x y => cpyB sz (arg st x) (arg st y) (fun v H' => planM P ops K (putSt st d v) H') H
    | .callF f args tk => callD P f H (callArgs st args tk) ops K (callTake st args tk) d
    | .callV fx args => match arg st fx with
      | .fn (.func f) first cap => callD P f H (lendL first ++ args.map (arg st) ++ lendL cap) ops K st d
      | _ => False
    | k => match pev st H k with
      | some r => planM P ops K (putSt (ptake st k) d r) H
      | none => False
def planSK (P : Program) (late : List (Nat × Nat)) (k : PK) (d : Option Nat) (ops : List POp) (i : Nat) (rd wr : Uses) (K : List PV → Heap → Prop) (st : List PV) (H : Heap) : Prop :=
  match k with
    | .sto sz x v => match arg st x with
      | .ptr (some (b, off)) => match hget H b with
        | some cs => (cellsOf (argT st v)).length = sz ∧ off + sz ≤ cs.length ∧ (cellsOf (argT st v)).all PV.isCell = true ∧ (∀ e ∈ rd, (e.1, i) ∈ late → apartC e.2 (b, off, sz)) ∧
            planS P late ops (i + 1) rd ((i, b, off, sz) :: wr) K (putSt (takeAt st v) d .unit) (hset H b (cs.take off ++ cellsOf (argT st v) ++ cs.drop (off + sz)))
        | none => False
      | _ => False
    | .ld sz ag true x => match arg st x with
      | .ptr (some (b, off)) => match hget H b with
        | some cs => match partP sz ag cs off with
          | some r => off + sz ≤ cs.length ∧ (∀ e ∈ rd, (e.1, i) ∈ late → apartC e.2 (b, off, sz)) ∧
              planS P late ops (i + 1) rd ((i, b, off, sz) :: wr) K (putSt st d r) (hset H b (cs.take off ++ lendL ((cs.drop off).take sz) ++ cs.drop (off + sz)))
          | none => False
        | none => False
      | _ => False
    | .cpy sz x y => cpyB sz (arg st x) (arg st y) (fun v H' => planS P late ops (i + 1) rd wr K (putSt st d v) H') H
    | .callF f args tk => ∃ r, PSpec P f (callArgs st args tk) r ∧ planS P late ops (i + 1) rd wr K (putSt (callTake st args tk) d r) H
    | .callV fx args => match arg st fx with
      | .fn (.func f) first cap => ∃ r, PSpec P f (lendL first ++ args.map (arg st) ++ lendL cap) r ∧ planS P late ops (i + 1) rd wr K (putSt st d r) H
      | _ => False
    | k => match pev st H k with
      | some r => match ldCells st k with
        | some c => (∀ e ∈ wr, (i, e.1) ∈ late → apartC c e.2) ∧ planS P late ops (i + 1) ((i, c) :: rd) wr K (putSt (ptake st k) d r) H
        | none => planS P late ops (i + 1) rd wr K (putSt (ptake st k) d r) H
      | none => False
section
variable {P : Program} {K : List PV → Heap → Prop} {st : List PV} {H : Heap} {d : Option Nat} {k : PK} {ops : List POp} {t : Nat} {w : Bool}
theorem planM_n : planM P (⟨d, none, k⟩ :: ops) K st H = planK P k d ops K st H := by rw [planM_cons]; rfl
theorem planM_t (h : st.getD t .unit = .bool w) : planM P (⟨d, some (t, w), k⟩ :: ops) K st H = planK P k d ops K st H := by
  rw [planM_cons, planB]
  simp only [goes, h, gval, beq_self_eq_true]
  rfl
theorem planM_f (h : st.getD t .unit = .bool (!w)) : planM P (⟨d, some (t, w), k⟩ :: ops) K st H = planM P ops K (putSt st d (.tup [])) H := by
  rw [planM_cons, planB]
  have : ((some (!w)) == some w) = false := by cases w <;> rfl
  simp only [goes, h, gval, this]
theorem planM_s (h : st.getD t .unit = .tup []) : planM P (⟨d, some (t, w), k⟩ :: ops) K st H = planM P ops K (putSt st d (.tup [])) H := by
  rw [planM_cons, planB]
  have : ((none : Option Bool) == some w) = false := rfl
  simp only [goes, h, gval, this]
variable {late : List (Nat × Nat)} {i : Nat} {rd wr : Uses}
theorem planS_n : planS P late (⟨d, none, k⟩ :: ops) i rd wr K st H = planSK P late k d ops i rd wr K st H := by rw [planS_cons]; rfl
theorem planS_t (h : st.getD t .unit = .bool w) : planS P late (⟨d, some (t, w), k⟩ :: ops) i rd wr K st H = planSK P late k d ops i rd wr K st H := by
  rw [planS_cons, planSB]
  simp only [goes, h, gval, beq_self_eq_true]
  rfl
theorem planS_f (h : st.getD t .unit = .bool (!w)) : planS P late (⟨d, some (t, w), k⟩ :: ops) i rd wr K st H = planS P late ops (i + 1) rd wr K (putSt st d (.tup [])) H := by
  rw [planS_cons, planSB]
  have : ((some (!w)) == some w) = false := by cases w <;> rfl
  simp only [goes, h, gval, this]
theorem planS_s (h : st.getD t .unit = .tup []) : planS P late (⟨d, some (t, w), k⟩ :: ops) i rd wr K st H = planS P late ops (i + 1) rd wr K (putSt st d (.tup [])) H := by
  rw [planS_cons, planSB]
  have : ((none : Option Bool) == some w) = false := rfl
  simp only [goes, h, gval, this]
end
section
variable {P : Program} {Q : PPost} {st : List PV} {H : Heap}
theorem pwp_sr {ops : List POp} {y : PCode} (h : ∀ K : List PV → Heap → Prop, (∀ st' H', pwp P y Q st' H' → K st' H') → runM P ops K st H) : pwp P (.seq (.region ops) y) Q st H :=
  pwp_seq (pwp_regionM fun K hK => h K fun st' H' h' => hK st' H' h')
theorem pwp_sd (hmix : P.follows .mixedOrders = true) {ops : List POp} {late : List (Nat × Nat)} {y : PCode} (h : ∀ K : List PV → Heap → Prop, (∀ st' H', pwp P y Q st' H' → K st' H') → planM P ops K st H) : pwp P (.seq (.draw ops late) y) Q st H :=
  pwp_seq (pwp_drawM hmix fun K hK => h K fun st' H' h' => hK st' H' h')
theorem pwp_ss (hmix : P.follows .mixedOrders = true) {ops : List POp} {late : List (Nat × Nat)} {y : PCode} (h : ∀ K : List PV → Heap → Prop, (∀ st' H', pwp P y Q st' H' → K st' H') → planS P late ops 0 [] [] K st H) : pwp P (.seq (.draw ops late) y) Q st H :=
  pwp_seq (pwp_drawS hmix fun K hK => h K fun st' H' h' => hK st' H' h')
theorem pwp_cT {x y : PCode} {p : Arg} (hb : argT st p = .bool true) (h : pwp P x Q st H) : pwp P (.cond p x y) Q st H := pwp_cond hb (fun _ => h) (fun e => by cases e)
theorem pwp_cF {x y : PCode} {p : Arg} (hb : argT st p = .bool false) (h : pwp P y Q st H) : pwp P (.cond p x y) Q st H := pwp_cond hb (fun e => by cases e) (fun _ => h)
theorem pwp_retT {R : List PV → Heap → Prop} (h : Q .ret st H) : pwp P .ret (thenP R Q) st H := pwp_ret h
def IfP (P : Program) (c : Arg) (x y : PCode) (Q : PPost) (st : List PV) (H : Heap) : Prop := ∃ b, argT st c = .bool b ∧ (b = true → pwp P x Q st H) ∧ (b = false → pwp P y Q st H)
theorem ifT {c : Arg} {x y : PCode} (hb : argT st c = .bool true) (h : pwp P x Q st H) : IfP P c x y Q st H := ⟨true, hb, (fun _ => h), (fun e => by cases e)⟩
theorem ifF {c : Arg} {x y : PCode} (hb : argT st c = .bool false) (h : pwp P y Q st H) : IfP P c x y Q st H := ⟨false, hb, (fun e => by cases e), fun _ => h⟩
theorem pwp_rif {ops : List POp} {c : Arg} {x y z : PCode} (h : ∀ K : List PV → Heap → Prop, (∀ st' H', IfP P c x y (thenP (pwp P z Q) Q) st' H' → K st' H') → runM P ops K st H) : pwp P (.seq (.seq (.region ops) (.cond c x y)) z) Q st H :=
  pwp_seq (pwp_sr fun K hK => h K fun st' H' ⟨b, h1, h2, h3⟩ => hK st' H' (pwp_cond h1 h2 h3))
theorem pwp_rifE {ops : List POp} {c : Arg} {x y : PCode} (h : ∀ K : List PV → Heap → Prop, (∀ st' H', IfP P c x y Q st' H' → K st' H') → runM P ops K st H) : pwp P (.seq (.region ops) (.cond c x y)) Q st H :=
  pwp_sr fun K hK => h K fun st' H' ⟨b, h1, h2, h3⟩ => hK st' H' (pwp_cond h1 h2 h3)
theorem pwp_dif (hmix : P.follows .mixedOrders = true) {ops : List POp} {late : List (Nat × Nat)} {c : Arg} {x y z : PCode} (h : ∀ K : List PV → Heap → Prop, (∀ st' H', IfP P c x y (thenP (pwp P z Q) Q) st' H' → K st' H') → planM P ops K st H) : pwp P (.seq (.seq (.draw ops late) (.cond c x y)) z) Q st H :=
  pwp_seq (pwp_sd hmix fun K hK => h K fun st' H' ⟨b, h1, h2, h3⟩ => hK st' H' (pwp_cond h1 h2 h3))
end
end Go.Proofs.YtjcjbpbkakfjdaaDoor.E
/- A logic of plain values, part 35: rows of structs as lists, and back. -/
namespace Go.Proofs.YtjcjbpbkakfjdaaDoor.E
open Go Go.RowKit
set_option linter.unusedVariables false
set_option linter.unusedSimpArgs false
def Flat (sz : Nat) (xs : List PV) : Prop := ∀ x ∈ xs, lend x = x ∧ ∃ cs, x = .agg cs ∧ cs.length = sz
theorem Flat.map {α : Type} {sz : Nat} {f : α → PV} (h : ∀ a, lend (f a) = f a ∧ ∃ cs, f a = .agg cs ∧ cs.length = sz) (l : List α) : Flat sz (l.map f) := fun x hx => by
  obtain ⟨a, _, rfl⟩ := List.mem_map.1 hx
  exact h a
theorem Flat.len {sz : Nat} : ∀ {xs : List PV}, Flat sz xs → (xs.flatMap cellsOf).length = xs.length * sz
  | [], _ => by simp
  | x :: xs, h => by
    obtain ⟨_, cs, rfl, hc⟩ := h x (List.mem_cons_self ..)
    rw [List.flatMap_cons, List.length_append, Flat.len (fun y hy => h y (List.mem_cons_of_mem _ hy)), List.length_cons, Nat.succ_mul]
    simp only [cellsOf, hc]
    omega
theorem lendL_append (xs ys : List PV) : lendL (xs ++ ys) = lendL xs ++ lendL ys := by simp [lendL_eq_map]
theorem Flat.lend {sz : Nat} : ∀ {xs : List PV}, Flat sz xs → lendL (xs.flatMap cellsOf) = xs.flatMap cellsOf
  | [], _ => rfl
  | x :: xs, h => by
    obtain ⟨hl, cs, rfl, hc⟩ := h x (List.mem_cons_self ..)
    rw [List.flatMap_cons, lendL_append, Flat.lend (fun y hy => h y (List.mem_cons_of_mem _ hy))]
    simp only [E.lend, PV.agg.injEq] at hl
    simp only [cellsOf, hl]
theorem hget_cons_none {H : Heap} {b c : Nat} {cs : List PV} : hget ((c, cs) :: H) b = none ↔ c ≠ b ∧ hget H b = none := by
  simp only [hget]
  by_cases e : c = b <;> simp [e]
theorem frzL_append (b : Nat) (f : Nat → Nat → Option PV) (q : Nat → Option PV) (xs ys : List PV) : frzL b f q (xs ++ ys) = frzL b f q xs ++ frzL b f q ys := by simp [frzL_eq_map]
theorem frzH_id {b : Nat} {f : Nat → Nat → Option PV} {q : Nat → Option PV} {L : List Nat} : ∀ {H : Heap}, hget H b = none → (∀ x ∈ L, hget H x = none) → frzH b f q L H = H
  | [], _, _ => rfl
  | (c, cs) :: H, hb, hx => by
    obtain ⟨h1, h2⟩ := hget_cons_none.1 hb
    have hc : L.contains c = false := by
      cases h : L.contains c with
      | false => rfl
      | true =>
        have := hx c (by simpa using h)
        simp [hget] at this
    simp only [frzH, if_neg h1, hc]
    rw [frzH_id h2 (fun x hm => (hget_cons_none.1 (hx x hm)).2)]
    rfl
def frzA (b : Nat) (f : Nat → Nat → Option PV) (q : Nat → Option PV) : List (Nat × PV) → List (Nat × PV)
  | [] => []
  | (i, x) :: l => (i, frz b f q x) :: frzA b f q l
theorem getS_frzA (b : Nat) (f : Nat → Nat → Option PV) (q : Nat → Option PV) (i : Nat) : ∀ l, getS (frzA b f q l) i = frz b f q (getS l i)
  | [] => rfl
  | (j, x) :: l => by
    simp only [frzA, getS]
    split
    · rfl
    · exact getS_frzA b f q i l
theorem frzL_MS (b : Nat) (f : Nat → Nat → Option PV) (q : Nat → Option PV) (n : Nat) (l : List (Nat × PV)) : frzL b f q (MS n l) = MS n (frzA b f q l) := by
  rw [frzL_eq_map]
  unfold MS
  rw [List.map_map]
  apply List.map_congr_left
  intro i _
  exact (getS_frzA b f q i l).symm
end Go.Proofs.YtjcjbpbkakfjdaaDoor.E
/- A logic of plain values, part 36: regions whose order is drawn, in which variables are made. -/
namespace Go.Proofs.YtjcjbpbkakfjdaaDoor.E
open Go Go.RowKit
set_option linter.unusedVariables false
set_option linter.unusedSimpArgs false
variable {dq : List Deferred}
section
variable {P : Program} {op : POp} {st : List PV} {H H' X : Heap} {f : List PV → List PV}
end
theorem hget_none_mem {H : Heap} {b : Nat} : hget H b = none ↔ ∀ p ∈ H, p.1 ≠ b := by
  induction H with
  | nil => simp [hget]
  | cons p H ih =>
    obtain ⟨c, cs⟩ := p
    rw [hget_cons_none, ih]
    simp
def HOk (w : World) (g : Ghost) (p : Nat × List PV) : Prop := g p.1 = .mut ∧ p.2.all PV.isCell = true ∧ (∃ c e, w.heap[p.1]? = some (.cells c e (0, 0)) ∧ VRl true w g p.2 c.toList)
theorem HRel_iff {w : World} {g : Ghost} : ∀ {H : Heap}, HRel w g H ↔ (H.map (·.1)).Nodup ∧ (∀ p ∈ H, HOk w g p) ∧ GL w g
  | [] => by simp [HRel]
  | (b, cs) :: H => by
    simp only [HRel, HRel_iff (H := H), List.map_cons, List.nodup_cons, hget_none_mem]
    constructor
    · rintro ⟨h0, h1, h2, h3, h4, h5, h6⟩
      refine ⟨⟨fun hm => ?_, h4⟩, fun p hp => ?_, h6⟩
      · obtain ⟨p, hp, e⟩ := List.mem_map.1 hm
        exact h0 p hp e
      · rcases List.mem_cons.1 hp with rfl | hp
        · exact ⟨h1, h2, h3⟩
        · exact h5 p hp
    · rintro ⟨⟨h0, h4⟩, h5, h6⟩
      obtain ⟨h1, h2, h3⟩ := h5 (b, cs) (List.mem_cons_self ..)
      exact ⟨fun p hp e => h0 (List.mem_map.2 ⟨p, hp, e⟩), h1, h2, h3, h4, fun p hp => h5 p (List.mem_cons_of_mem _ hp), h6⟩
theorem toksH_flat (w : World) : ∀ H : Heap, toksH w H = H.flatMap fun p => toksB w p.1 p.2
  | [] => rfl
  | (b, cs) :: H => by simp [toksH, toksH_flat w H]
abbrev Nw := Nat × Nat × Nat × Nat
def newK : List Nw → (List PV → Heap → Prop) → List PV → Heap → Prop
  | [], K, st, H => K st H
  | e :: nw, K, st, H => ∀ b, hget H b = none → newK nw K (st.set e.2.2.1 (.ptr (some (b, 0)))) ((b, cellsOf (st.getD e.2.2.1 .unit)) :: H)
section
variable {P : Program} {Q : PPost} {st : List PV} {H : Heap}
theorem MS_length (n : Nat) (l : List (Nat × PV)) : (MS n l).length = n := by simp [MS]
end
end Go.Proofs.YtjcjbpbkakfjdaaDoor.E
/- A logic of plain values, part 37: cells of blocks said otherwise. -/
namespace Go.Proofs.YtjcjbpbkakfjdaaDoor.E
open Go Go.RowKit
set_option linter.unusedVariables false
set_option linter.unusedSimpArgs false
variable {dq : List Deferred}
def HUp : Heap → Heap → Prop
  | [], H2 => H2 = []
  | (b, cs) :: H, (c, ds) :: H2 => b = c ∧ UpL true cs ds ∧ HUp H H2
  | _ :: _, [] => False
theorem HUp_refl : ∀ H : Heap, HUp H H
  | [] => rfl
  | (b, cs) :: H => ⟨rfl, UpL_refl _ _, HUp_refl H⟩
theorem HUp_none {b : Nat} : ∀ {H H2 : Heap}, HUp H H2 → hget H b = none → hget H2 b = none
  | [], H2, h, _ => by cases h; rfl
  | (c, cs) :: H, [], h, _ => h.elim
  | (c, cs) :: H, (d, ds) :: H2, h, hb => by
    obtain ⟨rfl, _, h⟩ := h
    obtain ⟨h1, h2⟩ := hget_cons_none.1 hb
    exact hget_cons_none.2 ⟨h1, HUp_none h h2⟩
theorem HUp_rel {w : World} {g : Ghost} : ∀ {H H2 : Heap}, HUp H H2 → HRel w g H → HRel w g H2 ∧ toksH w H2 = toksH w H
  | [], H2, h, hg => by cases h; exact ⟨hg, rfl⟩
  | (c, cs) :: H, [], h, _ => h.elim
  | (c, cs) :: H, (d, ds) :: H2, h, hr => by
    obtain ⟨rfl, hu, h⟩ := h
    obtain ⟨h0, h1, h2, ⟨cc, e, h3, h4⟩, h5⟩ := hr
    obtain ⟨i1, i2⟩ := HUp_rel h h5
    refine ⟨⟨HUp_none h h0, h1, by rw [UpL_all hu]; exact h2, ⟨cc, e, h3, UpL_VR (fun h => h) cs ds _ hu h4⟩, i1⟩, ?_⟩
    have : toksB w c ds = toksB w c cs := by simp only [toksB, h3, UpL_toks cs ds _ hu]
    simp only [toksH, this, i2]
section
variable {P : Program} {Q : PPost} {st : List PV} {H : Heap}
theorem pwp_upH {pc : PCode} {H2 : Heap} (hu : HUp H H2) (h : pwp P pc Q st H2) : pwp P pc Q st H := by
  intro hh c hc rr hrr dq out a w g hR
  obtain ⟨h1, h2⟩ := HUp_rel hu hR.hp
  exact h hh c hc rr hrr dq out a w g ⟨hR.wr, h1, hR.tm, fun b => by rw [h2]; exact hR.un b, hR.df⟩
theorem pwp_kept {pc : PCode} {keep : List Nat} {n : Nat} {l l' : List (Nat × PV)} (e : keepA keep l = l') (h : pwp P pc Q (MS n l') H) : pwp P pc Q (MS n l) H :=
  pwp_keep keep (by rw [keepL_MS, e]; exact h)
theorem pwp_difE (hmix : P.follows .mixedOrders = true) {ops : List POp} {late : List (Nat × Nat)} {c : Arg} {x y : PCode} (h : ∀ K : List PV → Heap → Prop, (∀ st' H', IfP P c x y Q st' H' → K st' H') → planM P ops K st H) : pwp P (.seq (.draw ops late) (.cond c x y)) Q st H :=
  pwp_sd hmix fun K hK => h K fun st' H' ⟨b, h1, h2, h3⟩ => hK st' H' (pwp_cond h1 h2 h3)
end
end Go.Proofs.YtjcjbpbkakfjdaaDoor.E
/- A logic of plain values, part 38: calls in drawn regions that store. -/
namespace Go.Proofs.YtjcjbpbkakfjdaaDoor.E
open Go Go.RowKit
set_option linter.unusedVariables false
set_option linter.unusedSimpArgs false
def callDS (P : Program) (late : List (Nat × Nat)) (f : Nat) (args : List PV) (ops : List POp) (i : Nat) (rd wr : Uses) (K : List PV → Heap → Prop) (st : List PV) (d : Option Nat) (H : Heap) : Prop :=
  ∃ r, PSpec P f args r ∧ planS P late ops (i + 1) rd wr K (putSt st d r) H
section
variable {P : Program} {K : List PV → Heap → Prop} {st : List PV} {H : Heap} {d : Option Nat} {ops : List POp} {t : Nat} {w : Bool} {late : List (Nat × Nat)} {i : Nat} {rd wr : Uses} {f : Nat} {args : List Arg} {tk : List Bool}
@[simp high] theorem planS_call : planS P late (⟨d, none, .callF f args tk⟩ :: ops) i rd wr K st H = callDS P late f (callArgs st args tk) ops i rd wr K (callTake st args tk) d H := by
  rw [planS_n]
  rfl
theorem useDS {args : List PV} {r : PV} (h : PSpec P f args r) (hK : planS P late ops (i + 1) rd wr K (putSt st d r) H) : callDS P late f args ops i rd wr K st d H := ⟨r, h, hK⟩
end
end Go.Proofs.YtjcjbpbkakfjdaaDoor.E
/- A logic of plain values, part 39: a cut between two parts of a function. -/
namespace Go.Proofs.YtjcjbpbkakfjdaaDoor.E
open Go Go.RowKit
set_option linter.unusedVariables false
set_option linter.unusedSimpArgs false
attribute [simp] runM_nil runM_n runM_t runM_f runM_s runK pev ptake putSt arg argT takeAt lend lendL
attribute [simp] thenP inBlockP binP binBP intP unP lenP fadP ldP fldP extP extTake
attribute [simp] optN emptyOr cvMP cvIP hget hset partP cellsOf callArgs callTake fillP
attribute [simp] partsOf elemParts elemsOf chunk PV.isCell mmP eqSP eqCells planM_nil planM_n planM_t planM_f planM_s planK
attribute [simp] keepL_MS keepA MS_getD MS_get MS_set getS idxA bxP nckP idxP newK mvcP
attribute [simp] planS_nil planS_n planS_t planS_f planS_s planSK ldCells apartC frzL_append frzL_MS frzA frzL frz frzH
attribute [simp] appB cpyB clrB capB cellsY repCells UpA Up_refl UpL_refl Up_lst Up_agg Up_tup UpL_cons
section
variable {sz bytes s s2 b off len cap : Nat} {xs ys : List PV} {o ag : Bool} {k k2 : IntKind} {n m : Int} {t : List Int} {zero : List PV} {lo hi mx : Option PV}
@[simp] theorem mkP_eq : mkP sz bytes ag zero (.int k n) (.int k2 m) = if 0 ≤ n ∧ n ≤ m ∧ m * bytes ≤ 281474976710656 then some (.lst sz (List.replicate n.toNat (if ag then .agg zero else zero.headD .unit)) true) else none := rfl
@[simp] theorem appP_eq : appP sz bytes (.lst s xs true) (.lst s2 ys o) = if emptyOr s sz xs ∧ (s2 = sz ∨ ys.isEmpty = true) ∧ (xs.length + ys.length) * bytes ≤ 140737488355328 then some (.lst sz (xs ++ ys) true) else none := rfl
@[simp] theorem appP_eqs : appP sz bytes (.lst s xs true) (.str t) = if emptyOr s sz xs ∧ sz = 1 ∧ (xs.length + t.length) * bytes ≤ 140737488355328 then some (.lst sz (xs ++ t.map (.int .u8)) true) else none := rfl
@[simp] theorem appP_no {y : PV} : appP sz bytes (.lst s xs false) y = none := rfl
@[simp] theorem iadP_eq : iadP sz (.lst s xs o) (.int k n) = if 0 ≤ n ∧ n < xs.length ∧ s = sz then some (.ip s xs n.toNat 0) else none := rfl
@[simp] theorem iadP_row : iadP sz (.row b off len cap) (.int k n) = if 0 ≤ n ∧ n < len then some (.ptr (some (b, off + n.toNat * sz))) else none := rfl
@[simp] theorem sliP_eq : sliP sz (.lst s xs o) lo hi mx = (optN 0 lo).bind fun l => (optN xs.length hi).bind fun h =>
    if l ≤ h ∧ h ≤ xs.length ∧ (s = sz ∨ xs.isEmpty = true) then
      match mx with
      | none => some (.lst s ((xs.take h).drop l) false)
      | some m => if optN 0 (some m) = some h ∧ hi.isSome = true then some (.lst s ((xs.take h).drop l) true) else none
    else none := rfl
@[simp] theorem sliP_row : sliP sz (.row b off len cap) lo hi mx = (optN 0 lo).bind fun l => (optN len hi).bind fun h => (optN cap mx).bind fun m =>
    if l ≤ h ∧ h ≤ m ∧ m ≤ cap ∧ (mx.isSome = true → hi.isSome = true) then some (if m = l then .row b off 0 0 else .row b (off + l * sz) (h - l) (m - l)) else none := rfl
@[simp] theorem slsP_eq : slsP (.str t) lo hi = (optN 0 lo).bind fun l => (optN t.length hi).bind fun h => if l ≤ h ∧ h ≤ t.length then some (.str ((t.take h).drop l)) else none := rfl
@[simp] theorem cvBP_eq : cvBP (.str t) = if t.length ≤ 9223372036854775807 then some (.lst 1 (t.map (.int .u8)) false) else none := rfl
end
theorem toks1 {p : PV} {v : Value} (h : toks p v = []) : toksL [p] [v] = [] := by simp [toksL, h]
section
variable {P : Program} {Q : PPost} {st : List PV} {H : Heap}
theorem pwp_cut (keep : List Nat) (I : List PV → Heap → Prop) {x y : PCode} (h1 : pwp P x (thenP (fun st' H' => ∃ st2 H2, keepL keep 0 st' = st2 ∧ H2.Sublist H' ∧ I st2 H2) Q) st H)
    (h2 : ∀ st H, I st H → pwp P y Q st H) : pwp P (.seq x y) Q st H := by
  refine pwp_seq (pwp_mono h1 ?_)
  intro e st' H' h
  cases e with
  | normal =>
    obtain ⟨st2, H2, h3, h4, h5⟩ := h
    exact pwp_drop h4 (pwp_keep keep (by rw [h3]; exact h2 _ _ h5))
  | ret => exact h
  | exit id => exact h
theorem cut_to {keep : List Nat} {n : Nat} {l l' : List (Nat × PV)} {I : List PV → Heap → Prop} {H' H2 : Heap} (e : keepA keep l = l') (hs : H2.Sublist H') (h : I (MS n l') H2) :
    ∃ st2 H2, keepL keep 0 (MS n l) = st2 ∧ H2.Sublist H' ∧ I st2 H2 := ⟨_, H2, rfl, hs, by rw [keepL_MS, e]; exact h⟩
end
section
variable {P : Program} {K : List PV → Heap → Prop} {st : List PV} {H : Heap} {d : Option Nat} {ops : List POp} {t : Nat} {w : Bool} {late : List (Nat × Nat)} {i : Nat} {rd wr : Uses} {f : Nat} {args : List Arg} {tk : List Bool}
@[simp high] theorem planS_callT (h : st.getD t .unit = .bool w) : planS P late (⟨d, some (t, w), .callF f args tk⟩ :: ops) i rd wr K st H = callDS P late f (callArgs st args tk) ops i rd wr K (callTake st args tk) d H := by
  rw [planS_t h]
  rfl
end
end Go.Proofs.YtjcjbpbkakfjdaaDoor.E
/- A logic of plain values, part 40: numbers within their bounds. -/
namespace Go.Proofs.YtjcjbpbkakfjdaaDoor.E
open Go Go.RowKit
set_option linter.unusedVariables false
set_option linter.unusedSimpArgs false
structure Ok (p : Prop) : Prop where
  h : p
@[simp] theorem bits_i64 : IntKind.i64.bits = 64 := rfl
@[simp] theorem bits_u64 : IntKind.u64.bits = 64 := rfl
@[simp] theorem bits_u32 : IntKind.u32.bits = 32 := rfl
@[simp] theorem bits_u8 : IntKind.u8.bits = 8 := rfl
theorem wrap_un {k : IntKind} (hs : k.signed = false) {x : Int} (h0 : 0 ≤ x) (h1 : x < 2 ^ k.bits) : k.wrap x = x := by
  unfold IntKind.wrap
  simp only [hs, Bool.false_and, Bool.false_eq_true, if_false]
  exact Int.emod_eq_of_lt h0 h1
@[simp] theorem wr_i64 {x : Int} (h : Ok (-9223372036854775808 ≤ x ∧ x < 9223372036854775808)) : IntKind.i64.wrap x = x := w64 h.h.1 (by have := h.h; omega)
@[simp] theorem wr_u64 {x : Int} (h : Ok (0 ≤ x ∧ x < 18446744073709551616)) : IntKind.u64.wrap x = x := wrap_un rfl h.h.1 h.h.2
@[simp] theorem wr_u32 {x : Int} (h : Ok (0 ≤ x ∧ x < 4294967296)) : IntKind.u32.wrap x = x := wrap_un rfl h.h.1 h.h.2
@[simp] theorem wr_u8 {x : Int} (h : Ok (0 ≤ x ∧ x < 256)) : IntKind.u8.wrap x = x := wrap_un rfl h.h.1 h.h.2
theorem wrap_mod {k : IntKind} (hs : k.signed = false) (x : Int) : k.wrap x = x % 2 ^ k.bits := by
  unfold IntKind.wrap
  simp only [hs, Bool.false_and, Bool.false_eq_true, if_false]
theorem wm_u8 (x : Int) : IntKind.u8.wrap x = x % 256 := wrap_mod rfl x
theorem wm_u64 (x : Int) : IntKind.u64.wrap x = x % 18446744073709551616 := wrap_mod rfl x
@[simp] theorem tdiv_ok {x y : Int} (h : Ok (0 ≤ x)) : x.tdiv y = x / y := Int.tdiv_eq_ediv_of_nonneg h.h
@[simp] theorem tmod_ok {x y : Int} (h : Ok (0 ≤ x)) : x.tmod y = x % y := Int.tmod_eq_emod_of_nonneg h.h
@[simp] theorem fdiv_ok {x y : Int} (h : Ok (0 ≤ y)) : x.fdiv y = x / y := Int.fdiv_eq_ediv_of_nonneg x h.h
theorem ofInt_nat {x : Int} (h : 0 ≤ x) (n : Nat) (h2 : x < 2 ^ n) : (BitVec.ofInt n x).toNat = x.toNat := by
  obtain ⟨m, rfl⟩ := Int.eq_ofNat_of_zero_le h
  rw [BitVec.ofInt_natCast, BitVec.toNat_ofNat, Int.toNat_natCast]
  exact Nat.mod_eq_of_lt (by exact_mod_cast h2)
theorem wrap_nat {k : IntKind} (hs : k.signed = false) {n : Nat} (h : n < 2 ^ k.bits) : k.wrap (n : Int) = n := wrap_un hs (by omega) (by exact_mod_cast h)
theorem bits_xor {k : IntKind} (hs : k.signed = false) {x y : Int} (h : 0 ≤ x ∧ x < 2 ^ k.bits ∧ 0 ≤ y ∧ y < 2 ^ k.bits) : bitsP .xor k x y = some ((x.toNat ^^^ y.toNat : Nat) : Int) := by
  obtain ⟨h1, h2, h3, h4⟩ := h
  simp only [bitsP, BitVec.toNat_xor, ofInt_nat h1 _ h2, ofInt_nat h3 _ h4]
  rw [wrap_nat hs]
  have e : ((2 ^ k.bits : Nat) : Int) = 2 ^ k.bits := by exact Int.natCast_pow 2 _
  exact Nat.xor_lt_two_pow (by omega) (by omega)
theorem bits_or {k : IntKind} (hs : k.signed = false) {x y : Int} (h : 0 ≤ x ∧ x < 2 ^ k.bits ∧ 0 ≤ y ∧ y < 2 ^ k.bits) : bitsP .or k x y = some ((x.toNat ||| y.toNat : Nat) : Int) := by
  obtain ⟨h1, h2, h3, h4⟩ := h
  simp only [bitsP, BitVec.toNat_or, ofInt_nat h1 _ h2, ofInt_nat h3 _ h4]
  rw [wrap_nat hs]
  have e : ((2 ^ k.bits : Nat) : Int) = 2 ^ k.bits := by exact Int.natCast_pow 2 _
  exact Nat.or_lt_two_pow (by omega) (by omega)
theorem bits_and {k : IntKind} (hs : k.signed = false) {x y : Int} (h : 0 ≤ x ∧ x < 2 ^ k.bits ∧ 0 ≤ y ∧ y < 2 ^ k.bits) : bitsP .and k x y = some ((x.toNat &&& y.toNat : Nat) : Int) := by
  obtain ⟨h1, h2, h3, h4⟩ := h
  simp only [bitsP, BitVec.toNat_and, ofInt_nat h1 _ h2, ofInt_nat h3 _ h4]
  rw [wrap_nat hs]
  have e : ((2 ^ k.bits : Nat) : Int) = 2 ^ k.bits := by exact Int.natCast_pow 2 _
  exact Nat.lt_of_le_of_lt Nat.and_le_left (by omega)
section
variable {x y : Int}
@[simp] theorem xor_u8 (h : Ok (0 ≤ x ∧ x < 256 ∧ 0 ≤ y ∧ y < 256)) : bitsP .xor .u8 x y = some ((x.toNat ^^^ y.toNat : Nat) : Int) := bits_xor rfl h.h
@[simp] theorem xor_u32 (h : Ok (0 ≤ x ∧ x < 4294967296 ∧ 0 ≤ y ∧ y < 4294967296)) : bitsP .xor .u32 x y = some ((x.toNat ^^^ y.toNat : Nat) : Int) := bits_xor rfl h.h
@[simp] theorem xor_u64 (h : Ok (0 ≤ x ∧ x < 18446744073709551616 ∧ 0 ≤ y ∧ y < 18446744073709551616)) : bitsP .xor .u64 x y = some ((x.toNat ^^^ y.toNat : Nat) : Int) := bits_xor rfl h.h
@[simp] theorem or_u8 (h : Ok (0 ≤ x ∧ x < 256 ∧ 0 ≤ y ∧ y < 256)) : bitsP .or .u8 x y = some ((x.toNat ||| y.toNat : Nat) : Int) := bits_or rfl h.h
@[simp] theorem or_u64 (h : Ok (0 ≤ x ∧ x < 18446744073709551616 ∧ 0 ≤ y ∧ y < 18446744073709551616)) : bitsP .or .u64 x y = some ((x.toNat ||| y.toNat : Nat) : Int) := bits_or rfl h.h
@[simp] theorem or_u32 (h : Ok (0 ≤ x ∧ x < 4294967296 ∧ 0 ≤ y ∧ y < 4294967296)) : bitsP .or .u32 x y = some ((x.toNat ||| y.toNat : Nat) : Int) := bits_or rfl h.h
@[simp] theorem and_u8 (h : Ok (0 ≤ x ∧ x < 256 ∧ 0 ≤ y ∧ y < 256)) : bitsP .and .u8 x y = some ((x.toNat &&& y.toNat : Nat) : Int) := bits_and rfl h.h
@[simp] theorem and_u32 (h : Ok (0 ≤ x ∧ x < 4294967296 ∧ 0 ≤ y ∧ y < 4294967296)) : bitsP .and .u32 x y = some ((x.toNat &&& y.toNat : Nat) : Int) := bits_and rfl h.h
@[simp] theorem and_u64 (h : Ok (0 ≤ x ∧ x < 18446744073709551616 ∧ 0 ≤ y ∧ y < 18446744073709551616)) : bitsP .and .u64 x y = some ((x.toNat &&& y.toNat : Nat) : Int) := bits_and rfl h.h
end
section
variable {α : Type} {c : Prop} [Decidable c] {x y : α}
@[simp] theorem itT (h : Ok c) : ite c x y = x := if_pos h.h
@[simp] theorem itF (h : Ok (¬ c)) : ite c x y = y := if_neg h.h
end
section
variable {a b : Int} {m n : Nat}
@[simp] theorem dlt (h : Ok (a < b)) : decide (a < b) = true := decide_eq_true h.h
@[simp] theorem dltF (h : Ok (¬ a < b)) : decide (a < b) = false := decide_eq_false h.h
@[simp] theorem dle (h : Ok (a ≤ b)) : decide (a ≤ b) = true := decide_eq_true h.h
@[simp] theorem dleF (h : Ok (¬ a ≤ b)) : decide (a ≤ b) = false := decide_eq_false h.h
@[simp] theorem deq (h : Ok (a = b)) : decide (a = b) = true := decide_eq_true h.h
@[simp] theorem deqF (h : Ok (¬ a = b)) : decide (a = b) = false := decide_eq_false h.h
@[simp] theorem nlt (h : Ok (m < n)) : decide (m < n) = true := decide_eq_true h.h
@[simp] theorem nltF (h : Ok (¬ m < n)) : decide (m < n) = false := decide_eq_false h.h
@[simp] theorem nle (h : Ok (m ≤ n)) : decide (m ≤ n) = true := decide_eq_true h.h
@[simp] theorem nleF (h : Ok (¬ m ≤ n)) : decide (m ≤ n) = false := decide_eq_false h.h
@[simp] theorem neq (h : Ok (m = n)) : decide (m = n) = true := decide_eq_true h.h
@[simp] theorem neqF (h : Ok (¬ m = n)) : decide (m = n) = false := decide_eq_false h.h
end
@[simp] theorem and_ok {p q : Prop} (h : Ok p) : (p ∧ q) ↔ q := and_iff_right h.h
theorem rowL_plain {xs : List PV} {n : Nat} (h : lendL xs = xs) (hn : xs.length = n) (hl : n ≤ 9223372036854775807) : rowL 1 false xs n n = some (.lst 1 xs false) := by
  unfold rowL
  have hm : n ≤ maxLen := by simp only [maxLen]; omega
  rw [if_pos ⟨Nat.le_refl _, hm, by omega, fun _ => rfl⟩]
  have e : xs.take (n * 1) = xs := List.take_of_length_le (by omega)
  rw [e, h]
  simp [elemsOf]
theorem lendL_map {α : Type} {f : α → PV} (h : ∀ a, lend (f a) = f a) (l : List α) : lendL (l.map f) = l.map f := by
  rw [lendL_eq_map, List.map_map]
  exact List.map_congr_left fun a _ => h a
theorem set_cell {cs : List PV} {i : Nat} {v : PV} (h : i < cs.length) : cs.take i ++ v :: cs.drop (i + 1) = cs.set i v := by
  rw [List.set_eq_take_append_cons_drop, if_pos h]
theorem pwp_ro {P : Program} {Q : PPost} {pc : PCode} {n b : Nat} {H : Heap} {cs : List PV} {l : List (Nat × PV)} (hb : hget H b = none)
    (h : pwp P pc Q (MS n (frzA b (rowL 1 false cs) (ptrL cs) l)) H) : pwp P pc Q (MS n l) ((b, cs) :: H) := by
  refine pwp_freeze (b := b) 1 false [] (by simp [hget]; rfl) ?_
  rw [frzL_MS, frzH, if_pos rfl, frzH_id hb (fun x hx => by cases hx)]
  exact h
def ci (l : List Nat) : List Int := l.map (fun (n : Nat) => (n : Int))
theorem Li {l : List Nat} : (ci l).length = l.length := List.length_map ..
theorem Lm {α β : Type} {f : α → β} {l : List α} : (l.map f).length = l.length := List.length_map ..
theorem La {α : Type} {l m : List α} : (l ++ m).length = l.length + m.length := List.length_append ..
theorem Lc {α : Type} {x : α} {l : List α} : (x :: l).length = l.length + 1 := rfl
theorem Ln {α : Type} : ([] : List α).length = 0 := rfl
theorem Lt {α : Type} {l : List α} {n : Nat} : (l.take n).length = min n l.length := List.length_take ..
theorem Ld {α : Type} {l : List α} {n : Nat} : (l.drop n).length = l.length - n := List.length_drop ..
theorem Lr {α : Type} {x : α} {n : Nat} : (List.replicate n x).length = n := List.length_replicate ..
section
variable {sz bytes s s2 : Nat} {xs ys : List PV} {o : Bool} {k k2 : IntKind} {n m : Int}
@[simp high] theorem appP_ok (h : Ok ((s = sz ∨ s = 0 ∧ xs.length = 0) ∧ (s2 = sz ∨ ys.length = 0) ∧ (xs.length + ys.length) * bytes ≤ 140737488355328)) :
    appP sz bytes (.lst s xs true) (.lst s2 ys o) = some (.lst sz (xs ++ ys) true) := by
  obtain ⟨h1, h2, h3⟩ := h.h
  refine if_pos ⟨?_, ?_, h3⟩
  · exact h1.imp id fun h => ⟨h.1, by rw [List.length_eq_zero_iff.1 h.2]; rfl⟩
  · exact h2.imp id fun h => by rw [List.length_eq_zero_iff.1 h]; rfl
@[simp high] theorem appPs_ok {t : List Int} (h : Ok ((s = 1 ∨ s = 0 ∧ xs.length = 0) ∧ (xs.length + t.length) * bytes ≤ 140737488355328)) :
    appP 1 bytes (.lst s xs true) (.str t) = some (.lst 1 (xs ++ t.map (.int .u8)) true) := by
  obtain ⟨h1, h3⟩ := h.h
  exact if_pos ⟨h1.imp id fun h => ⟨h.1, by rw [List.length_eq_zero_iff.1 h.2]; rfl⟩, rfl, h3⟩
@[simp high] theorem mkP_ok {ag : Bool} {zero : List PV} (h : Ok (0 ≤ n ∧ n ≤ m ∧ m * bytes ≤ 281474976710656)) :
    mkP sz bytes ag zero (.int k n) (.int k2 m) = some (.lst sz (List.replicate n.toNat (if ag then .agg zero else zero.headD .unit)) true) := if_pos h.h
@[simp high] theorem iadP_ok (h : Ok (0 ≤ n ∧ n < xs.length)) : iadP sz (.lst sz xs o) (.int k n) = some (.ip sz xs n.toNat 0) := if_pos ⟨h.h.1, h.h.2, rfl⟩
@[simp high] theorem sliP_hi (h : Ok (0 ≤ n ∧ n ≤ xs.length ∧ (s = sz ∨ xs.length = 0))) : sliP sz (.lst s xs o) none (some (.int k n)) none = some (.lst s (xs.take n.toNat) false) := by
  obtain ⟨h1, h2, h3⟩ := h.h
  have e : (0 ≤ n.toNat ∧ n.toNat ≤ xs.length ∧ (s = sz ∨ xs.isEmpty = true)) := ⟨by omega, by omega, h3.imp id fun h => by rw [List.length_eq_zero_iff.1 h]; rfl⟩
  simp only [sliP, optN, if_pos h1, Option.bind_some, if_pos e, List.drop_zero]
@[simp high] theorem sliP_lo (h : Ok (0 ≤ n ∧ n ≤ xs.length ∧ (s = sz ∨ xs.length = 0))) : sliP sz (.lst s xs o) (some (.int k n)) none none = some (.lst s (xs.drop n.toNat) false) := by
  obtain ⟨h1, h2, h3⟩ := h.h
  have e : (n.toNat ≤ xs.length ∧ xs.length ≤ xs.length ∧ (s = sz ∨ xs.isEmpty = true)) := ⟨by omega, Nat.le_refl _, h3.imp id fun h => by rw [List.length_eq_zero_iff.1 h]; rfl⟩
  simp only [sliP, optN, if_pos h1, Option.bind_some, if_pos e, List.take_length]
@[simp high] theorem sliP_lh (h : Ok (0 ≤ n ∧ n ≤ m ∧ m ≤ xs.length ∧ (s = sz ∨ xs.length = 0))) : sliP sz (.lst s xs o) (some (.int k n)) (some (.int k2 m)) none = some (.lst s ((xs.take m.toNat).drop n.toNat) false) := by
  obtain ⟨h1, h2, h3, h4⟩ := h.h
  have e : (n.toNat ≤ m.toNat ∧ m.toNat ≤ xs.length ∧ (s = sz ∨ xs.isEmpty = true)) := ⟨by omega, by omega, h4.imp id fun h => by rw [List.length_eq_zero_iff.1 h]; rfl⟩
  simp only [sliP, optN, if_pos h1, if_pos (Int.le_trans h1 h2), Option.bind_some, if_pos e]
@[simp high] theorem sliP_lhm {k3 : IntKind} (h : Ok (0 ≤ n ∧ n ≤ m ∧ m ≤ xs.length ∧ (s = sz ∨ xs.length = 0))) : sliP sz (.lst s xs o) (some (.int k n)) (some (.int k2 m)) (some (.int k3 m)) = some (.lst s ((xs.take m.toNat).drop n.toNat) true) := by
  obtain ⟨h1, h2, h3, h4⟩ := h.h
  have e : (n.toNat ≤ m.toNat ∧ m.toNat ≤ xs.length ∧ (s = sz ∨ xs.isEmpty = true)) := ⟨by omega, by omega, h4.imp id fun h => by rw [List.length_eq_zero_iff.1 h]; rfl⟩
  simp only [sliP, optN, if_pos h1, if_pos (Int.le_trans h1 h2), Option.bind_some, if_pos e]
  simp
@[simp high] theorem sliP_hm {k3 : IntKind} (h : Ok (0 ≤ m ∧ m ≤ xs.length ∧ (s = sz ∨ xs.length = 0))) : sliP sz (.lst s xs o) none (some (.int k2 m)) (some (.int k3 m)) = some (.lst s (xs.take m.toNat) true) := by
  obtain ⟨h1, h3, h4⟩ := h.h
  have e : (0 ≤ m.toNat ∧ m.toNat ≤ xs.length ∧ (s = sz ∨ xs.isEmpty = true)) := ⟨by omega, by omega, h4.imp id fun h => by rw [List.length_eq_zero_iff.1 h]; rfl⟩
  simp only [sliP, optN, if_pos h1, Option.bind_some, if_pos e]
  simp
variable {t : List Int}
@[simp high] theorem slsP_hi (h : Ok (0 ≤ n ∧ n ≤ t.length)) : slsP (.str t) none (some (.int k n)) = some (.str (t.take n.toNat)) := by
  obtain ⟨h1, h2⟩ := h.h
  have e : (0 ≤ n.toNat ∧ n.toNat ≤ t.length) := ⟨by omega, by omega⟩
  simp only [slsP, optN, if_pos h1, Option.bind_some, if_pos e, List.drop_zero]
@[simp high] theorem slsP_lo (h : Ok (0 ≤ n ∧ n ≤ t.length)) : slsP (.str t) (some (.int k n)) none = some (.str (t.drop n.toNat)) := by
  obtain ⟨h1, h2⟩ := h.h
  have e : (n.toNat ≤ t.length ∧ t.length ≤ t.length) := ⟨by omega, Nat.le_refl _⟩
  simp only [slsP, optN, if_pos h1, Option.bind_some, if_pos e, List.take_length]
@[simp high] theorem slsP_lh (h : Ok (0 ≤ n ∧ n ≤ m ∧ m ≤ t.length)) : slsP (.str t) (some (.int k n)) (some (.int k2 m)) = some (.str ((t.take m.toNat).drop n.toNat)) := by
  obtain ⟨h1, h2, h3⟩ := h.h
  have e : (n.toNat ≤ m.toNat ∧ m.toNat ≤ t.length) := ⟨by omega, by omega⟩
  simp only [slsP, optN, if_pos h1, if_pos (Int.le_trans h1 h2), Option.bind_some, if_pos e]
@[simp high] theorem cvBP_ok (h : Ok (t.length ≤ 9223372036854775807)) : cvBP (.str t) = some (.lst 1 (t.map (.int .u8)) false) := if_pos h.h
end
end Go.Proofs.YtjcjbpbkakfjdaaDoor.E
/- A logic of plain values, part 41: a row that nobody else knows, handed on, and taken up again. -/
namespace Go.Proofs.YtjcjbpbkakfjdaaDoor.E
open Go Go.RowKit
set_option linter.unusedVariables false
set_option linter.unusedSimpArgs false
variable {dq : List Deferred}
attribute [simp] bparts
theorem Rel.owned {out : List Nat} {st : List PV} {H : Heap} {a : Act} {w : World} {g : Ghost} (h : Rel dq out st H a w g) : ∀ t ∈ out ++ toksL st a.tmps.toList ++ toksH w H, ∃ f, g t = .tail f := fun t ht => by
  simp only [List.mem_append] at ht
  rcases ht with (ht | ht) | ht
  · exact h.wr.outT t ht
  · exact toksL_tail st _ h.tm t ht
  · exact toksH_tail h.hp t ht
section
variable {P : Program} {Q : PPost} {st : List PV} {H : Heap} {out : List Nat} {a : Act} {w : World} {g : Ghost}
end
end Go.Proofs.YtjcjbpbkakfjdaaDoor.E
/- A logic of plain values, part 42: ranges over functions. -/
namespace Go.Proofs.YtjcjbpbkakfjdaaDoor.E
open Go Go.RowKit
set_option linter.unusedVariables false
set_option linter.unusedSimpArgs false
variable {dq : List Deferred}
theorem room_WR (r : Option Nat) (n : Nat) : (WR r).room n := fun d hd => by cases hd
theorem wpIn_any {r : Option Nat} {n m : Nat} {P : Program} {c : Code} {Q : Exit → Act → World → Prop} {a : Act} {w : World} (h : c.wpIn (WR r) n P Q a w) : c.wpIn (WR r) m P Q a w :=
  fun b k cs hro hb _ => h b k cs hro hb (room_WR _ _)
theorem callsIn_any {r : Option Nat} {n m : Nat} {P : Program} {f : FuncId} {args : Array Value} {w : World} {R : Ending → World → Prop} (h : CallsIn (WR r) n P f args w R) : CallsIn (WR r) m P f args w R :=
  ⟨h.1, fun cs _ => h.2 cs (room_WR _ _)⟩

structure Bs where
  out : List Nat
  w : World
  g : Ghost
  l : Nat
  D : Nat
  r : LoopState → Option Code → Loop
def PExit.code : PExit → Code
  | .normal => .skip
  | .exit id => .exit id
  | .ret => .ret
def Bs.loop (B : Bs) : Option PExit → Loop
  | none => B.r .ready none
  | some pe => B.r .done (some (PExit.code pe))
structure StB (B : Bs) (s : Option PExit) (W : World) (g : Ghost) : Prop where
  hl : W.heap[B.l]? = some (.loop (B.loop s))
  gl : g B.l = .imm
  hD : W.heap[B.D]? = some (.deferred (some []))
  gD : g B.D = .imm
theorem StB.evol {B : Bs} {s : Option PExit} {out : List Nat} {W W' : World} {g g' : Ghost} (h : StB B s W g) (hE : Evol out W g W' g') : StB B s W' g' := by
  obtain ⟨a1, a2⟩ := hE.imm _ (lt_of_heap h.hl) h.gl
  obtain ⟨b1, b2⟩ := hE.imm _ (lt_of_heap h.hD) h.gD
  exact ⟨a1.trans h.hl, a2, b1.trans h.hD, b2⟩
theorem Evol.toC {out : List Nat} {w w' : World} {g g' : Ghost} (h : Evol out w g w' g') : EvolC out w g w' g' :=
  ⟨fun b c e fz hc hi => h.imm b (lt_of_heap hc) hi, h.tail, h.out, fun b es cl hc hi => h.imm b (lt_of_heap hc) hi⟩
theorem EvolC.trans {out : List Nat} {w w1 w2 : World} {g g1 g2 : Ghost} (h : EvolC out w g w1 g1) (k : EvolC out w1 g1 w2 g2) : EvolC out w g w2 g2 := by
  refine ⟨fun b c e fz hc hi => ?_, fun b f c e fz h0 hf hc => ?_, fun b hb => ?_, fun b es cl hc hi => ?_⟩
  · obtain ⟨h1, h2⟩ := h.imm b c e fz hc hi
    obtain ⟨k1, k2⟩ := k.imm b c e fz (h1.trans hc) h2
    exact ⟨k1.trans h1, k2⟩
  · obtain ⟨c1, fz1, h1, h2, h3⟩ := h.tail b f c e fz h0 hf hc
    rcases h3 with h3 | ⟨f', hle, h3⟩
    · obtain ⟨k1, k2⟩ := k.imm b _ _ _ h1 h3
      exact ⟨c1, fz1, k1.trans h1, h2, .inl k2⟩
    · obtain ⟨c2, fz2, k1, k2, k3⟩ := k.tail b f' c1 e fz1 (by omega) h3 h1
      refine ⟨c2, fz2, k1, (take_of_take hle k2).trans h2, ?_⟩
      rcases k3 with k3 | ⟨f2, hle2, k3⟩
      · exact .inl k3
      · exact .inr ⟨f2, Nat.le_trans hle hle2, k3⟩
  · obtain ⟨h1, h2⟩ := h.out b hb
    obtain ⟨k1, k2⟩ := k.out b hb
    exact ⟨k1.trans h1, k2.trans h2⟩
  · obtain ⟨h1, h2⟩ := h.mp b es cl hc hi
    obtain ⟨k1, k2⟩ := k.mp b es cl (h1.trans hc) h2
    exact ⟨k1.trans h1, k2⟩
def YieldOk (P : Program) (B : Bs) (xs : List (List PV)) (J : List (List PV) → Heap → Prop) (Jx : List (List PV) → PExit → Heap → Prop) : Prop :=
  ∀ (ex : List Nat) (pre : List (List PV)) (x : List PV) (H : Heap) (W : World) (g : Ghost) (vals : Array Value), x ∈ xs → pre.length < xs.length → WRel (ex ++ B.out) W g → HRel W g H → (∀ b, (toksH W H).count b + (ex ++ B.out).count b ≤ 1) →
    Evol B.out B.w B.g W g → StB B none W g → VRl false W g x vals.toList → J pre H →
    YieldAt (WR none) 0 P B.l vals W fun e W' => ∃ g' H', WRel (ex ++ B.out) W' g' ∧ HRel W' g' H' ∧ (∀ b, (toksH W' H').count b + (ex ++ B.out).count b ≤ 1) ∧ EvolC (ex ++ B.out) W g W' g' ∧ (∀ b, b < W.heap.size → b ≠ B.l → g b = .imm → W'.heap[b]? = W.heap[b]? ∧ g' b = .imm) ∧ Evol B.out B.w B.g W' g' ∧
      ((e = .returned (.bool true) ∧ J (pre ++ [x]) H' ∧ StB B none W' g') ∨ ∃ pe, pe ≠ .normal ∧ e = .returned (.bool false) ∧ Jx (pre ++ [x]) pe H' ∧ StB B (some pe) W' g')
def IterG (P : Program) (F : Nat) (caps : List PV) (HI : Heap) (xs : List (List PV)) : Prop :=
  callable P F = true ∧ ∀ (B : Bs) (W : World) (g : Ghost) (vals : Array Value) (Ho : Heap) (J : List (List PV) → Heap → Prop) (Jx : List (List PV) → PExit → Heap → Prop),
    WRel B.out W g → HRel W g (HI ++ Ho) → (∀ b, (toksH W (HI ++ Ho)).count b + B.out.count b ≤ 1) → Evol B.out B.w B.g W g → B.w.heap.size ≤ W.heap.size → StB B none W g → VRl false W g caps vals.toList → YieldOk P B xs J Jx → J [] Ho →
    CallsIn (WR none) 1 P F (#[.func (.yield B.l) #[] #[]] ++ vals) W fun e W' => (∃ v, e = .returned v) ∧ ∃ s g' H', WRel B.out W' g' ∧ HRel W' g' H' ∧ (∀ b, (toksH W' H').count b + B.out.count b ≤ 1) ∧ Evol B.out B.w B.g W' g' ∧ StB B s W' g' ∧
      match s with
      | none => J xs H'
      | some pe => pe ≠ .normal ∧ ∃ pre, pre <+: xs ∧ Jx pre pe H'
abbrev Iter (P : Program) (F : Nat) (caps : List PV) (xs : List (List PV)) : Prop := IterG P F caps [] xs
def setPs (st : List PV) (ps : List Nat) (x : List PV) : List PV := (ps.zip x).foldl (fun t p => t.set p.1 p.2) st
theorem setPs_cons (st : List PV) (p : Nat) (ps : List Nat) (v : PV) (x : List PV) : setPs st (p :: ps) (v :: x) = setPs (st.set p v) ps x := by simp [setPs]
theorem setPs_VR {o : Bool} {w : World} {g : Ghost} : ∀ (ps : List Nat) (x : List PV) (vs : List Value) (st : List PV) (us : Array Value), VRl o w g x vs → VRl o w g st us.toList →
    VRl o w g (setPs st ps x) ((ps.zip vs).foldl (fun t p => t.setIfInBounds p.1 p.2) us).toList
  | [], x, vs, st, us, _, h => by simpa [setPs] using h
  | p :: ps, [], vs, st, us, hx, h => by
    cases hx
    simpa [setPs] using h
  | p :: ps, y :: x, vs, st, us, hx, h => by
    obtain ⟨v, vs', rfl, h1, h2⟩ := hx
    rw [setPs_cons]
    simp only [List.zip_cons_cons, List.foldl_cons]
    refine setPs_VR ps x vs' _ _ h2 ?_
    rw [Array.toList_setIfInBounds]
    exact VRl_set p h h1
def lpRec (fn : FuncId) (tmps : Array Value) (ps : Array Tmp) (asg body : Code) (D : Nat) (s : LoopState) (pe : Option Code) : Loop :=
  { state := s, pending := pe, fn := fn, tmps := tmps, params := ps, assign := asg, body := body, defers := D }
section
variable {P : Program} {Q : PPost} {st : List PV}
theorem pwp_rangeG {g : Arg} {ps : List Nat} {asg body : PCode} {F : Nat} {caps : List PV} {HI Ho : Heap} {xs : List (List PV)} (hg : arg st g = .fn (.func F) [] caps) (hI : IterG P F caps HI xs) (hlen : ∀ x ∈ xs, x.length = ps.length)
    (J : List (List PV) → Heap → Prop) (Jx : List (List PV) → PExit → Heap → Prop) (h0 : J [] Ho)
    (hb : ∀ pre x H', x ∈ xs → pre.length < xs.length → J pre H' → pwp P asg (fun e st1 H1 => e = .normal ∧ pwp P body (fun e st2 H2 => (e = .normal ∧ J (pre ++ [x]) H2) ∨ (e ≠ .normal ∧ Jx (pre ++ [x]) e H2)) st1 H1) (lendL (setPs st ps x)) H')
    (hd : ∀ H', J xs H' → Q .normal st H') (hx : ∀ pre e H', pre <+: xs → e ≠ .normal → Jx pre e H' → Q e st H') : pwp P (.rangeF g ps asg body) Q st (HI ++ Ho) := by
  intro hh c hc rr hrr dq out a w g0 hR
  cases c <;> simp only [compC] at hc
  case rangeFunc og ops oas ob =>
    obtain ⟨g', hg', hc⟩ := bind_spec hc
    obtain ⟨x1, hx1, hc⟩ := bind_spec hc
    obtain ⟨y1, hy1, hc⟩ := bind_spec hc
    obtain ⟨⟨hn1, hn2⟩, hc⟩ := ite_spec hc
    cases hc
    have hrn : rr = none := hrr.resolve_right (by simp [noDef])
    subst hrn
    have hv := arg_spec hR.tm hg'
    rw [hg] at hv
    obtain ⟨fs, cs, hev, hfs, hcs⟩ := hv
    have hfs0 : fs = #[] := by
      have : fs.toList = [] := hfs
      exact Array.toList_eq_nil_iff.1 this
    subst hfs0
    obtain ⟨hcall, hI⟩ := hI
    obtain ⟨out', hout'⟩ : ∃ out', out ++ toksL st a.tmps.toList = out' := ⟨_, rfl⟩
    have hw' : WRel out' w g0 := ⟨hR.wr.fresh, hR.wr.tl, fun b hb => by
      rw [← hout'] at hb
      rcases List.mem_append.1 hb with hb | hb
      · exact hR.wr.outT b hb
      · exact toksL_tail st _ hR.tm b hb⟩
    refine wpIn_rangeFunc ?_
    intro fn hfn
    obtain ⟨rec, hrec⟩ : ∃ rec : LoopState → Option Code → Loop, rec = lpRec fn a.tmps ops oas ob w.heap.size := ⟨_, rfl⟩
    obtain ⟨B, hB⟩ : ∃ B : Bs, B = ⟨out', w, g0, w.heap.size + 1, w.heap.size, rec⟩ := ⟨_, rfl⟩
    obtain ⟨W1, hW1⟩ : ∃ W1, (w.alloc (.deferred (some []))).alloc (.loop (rec .ready none)) = W1 := ⟨_, rfl⟩
    have hsz : (w.alloc (.deferred (some []))).heap.size = w.heap.size + 1 := by simp
    have hA0 : Aside w.heap.size w W1 := by
      rw [← hW1]
      exact (Aside.grown (World.grownBy_alloc _ _ none) (fun r e => by cases e)).trans (Aside.grown (World.grownBy_alloc _ _ none) (fun r e => by cases e))
    have hL1 : W1.heap[w.heap.size + 1]? = some (.loop (rec .ready none)) := by
      rw [← hW1]; have := World.alloc_heap_new (w.alloc (.deferred (some []))) (.loop (rec .ready none)); rwa [hsz] at this
    have hD1 : W1.heap[w.heap.size]? = some (.deferred (some [])) := by
      rw [← hW1]; exact (Below.heap_alloc _ _ _ (by simp)).trans (World.alloc_heap_new w _)
    obtain ⟨k1, k2⟩ := hA0.hrel hR.wr hR.hp
    have hE0 : Evol out' w g0 W1 g0 := hA0.evol (Evol.refl _ _ _) hw' (Nat.le_refl _)
    have hun0 : ∀ b, (toksH W1 (HI ++ Ho)).count b + out'.count b ≤ 1 := fun b => by
      rw [k2, ← hout', List.count_append]
      have := hR.un b
      omega
    have hS0 : StB B none W1 g0 := by
      rw [hB]
      exact ⟨hL1, hR.wr.fresh _ (by show _ ≤ w.heap.size + 1; omega), hD1, hR.wr.fresh _ (Nat.le_refl _)⟩
    have hBo : B.out = out' := by rw [hB]
    have hBw : B.w = w := by rw [hB]
    have hBg : B.g = g0 := by rw [hB]
    have hBl : B.l = w.heap.size + 1 := by rw [hB]
    have hBD : B.D = w.heap.size := by rw [hB]
    have hBr : ∀ s, B.loop s = match s with | none => rec .ready none | some pe => rec .done (some (PExit.code pe)) := fun s => by rw [hB]; cases s <;> rfl
    have hsub : ∀ ex : List Nat, ∀ b ∈ out', b ∈ ex ++ out' := fun ex b hb => List.mem_append_right _ hb
    have hY : YieldOk P B xs J Jx := by
      rintro ex pre x H W g vals hxs hpl hwr hhr hun hev2 hst hvals hJ
      rw [hBo] at hwr hun hev2
      rw [hBw, hBg] at hev2
      have hl := hst.hl
      rw [hBl, hBr] at hl
      have hps : vals.size = ops.size := by
        have h1 := VRl_length hvals
        have h2 := hlen _ hxs
        simpa using h1.trans h2
      have hy := run_yield (P := P) (args := vals) hl (by rw [hrec]; exact hps)
      rw [hrec] at hy
      have hRel : Rel [] (ex ++ out') (lendL (setPs st ops.toList x)) H { tmps := (ops.zip vals).foldl (fun t (p, v) => t.setIfInBounds p v) a.tmps, defers := [] } W g := by
        have htm : VRl true W g (lendL (setPs st ops.toList x)) ((ops.zip vals).foldl (fun t (p, v) => t.setIfInBounds p v) a.tmps).toList := by
          refine VRl_lend _ _ ?_
          have h2 : VRl false W g st a.tmps.toList := VRl_weak _ _ (VRl_mono hev2 true st _ (fun _ b hb => by rw [← hout']; exact List.mem_append_right _ hb) hR.tm)
          have := setPs_VR ops.toList _ _ st a.tmps hvals h2
          rw [← Array.foldl_toList, Array.toList_zip]
          exact this
        refine ⟨hwr, hhr, htm, fun b => ?_, rfl⟩
        show (toksL _ _).count b + _ + _ ≤ 1
        rw [toksL_lend]
        have := hun b
        simp only [List.count_nil]
        omega
      have hpw := hb pre x H hxs hpl hJ hh oas hx1 (some (w.heap.size + 1)) (.inr hn1) [] (ex ++ out') _ W g hRel
      rw [hBl]
      refine ⟨fn, _, oas, ob, hy, roundIn_of_wpIn (F := WR none) hfn (wpIn_mono (wpIn_any (r := some (w.heap.size + 1)) hpw) ?_)⟩
      rintro e a1 w1 ⟨pe, st1, H2, g2, rfl, ⟨rfl, hbody⟩, ⟨dq1, hR1, _⟩, hE1⟩
      have hst1 := hst.evol hE1
      have hl1 := hst1.hl
      have hD1' := hst1.hD
      have hgl2 := hst1.gl
      have hgD2 := hst1.gD
      rw [hBl, hBr] at hl1
      rw [hBD] at hD1' hgD2
      rw [hBl] at hgl2
      refine ⟨_, run_beginRound hl1 (by rw [hrec]; rfl), ?_⟩
      have hA1 : Aside w.heap.size w1 (w1.putObj (w.heap.size + 1) (.loop { rec .ready none with state := .busy })) := .putObj hl1 ⟨(fun _ _ _ e => by cases e), (fun _ _ e => by cases e)⟩ (by omega)
      have hlt1 := lt_of_heap hl1
      have hl2 : (w1.putObj (w.heap.size + 1) (.loop { rec .ready none with state := .busy })).heap[w.heap.size + 1]? = some (.loop { rec .ready none with state := .busy }) := World.putObj_heap_same hlt1
      have hD2 : (w1.putObj (w.heap.size + 1) (.loop { rec .ready none with state := .busy })).heap[w.heap.size]? = some (.deferred (some [])) := (World.putObj_heap_other (by omega)).trans hD1'
      have hE2 := hA1.evol (hev2.trans (hE1.sub (hsub ex))) hw' (Nat.le_refl _)
      have hC1 : EvolC (ex ++ out') W g (w1.putObj (w.heap.size + 1) (.loop { rec .ready none with state := .busy })) g2 := hE1.toC.trans (hA1.evolC hR1.wr hR1.wr.outT)
      refine wpIn_mono (wpIn_any (r := some (w.heap.size + 1)) (hbody hh ob hy1 (some (w.heap.size + 1)) (.inr hn2) dq1 (ex ++ out') a1 _ g2 (hA1.rel hR1))) ?_
      rintro e a3 w3 ⟨pe, st3, H3, g3, rfl, hQ3, ⟨dq3, hR3, _⟩, hE3⟩
      obtain ⟨q1, q2⟩ := hE3.imm _ (lt_of_heap hl2) hgl2
      obtain ⟨q3, q4⟩ := hE3.imm _ (lt_of_heap hD2) hgD2
      have hl3 := q1.trans hl2
      have hlt3 := lt_of_heap hl3
      have hEnd : ∀ (jump : Option Code) (s : Option PExit), B.loop s = { { rec .ready none with state := .busy } with state := if jump.isNone then .ready else .done, pending := jump } →
          ∃ w4, w4 = w3.putObj (w.heap.size + 1) (.loop { { rec .ready none with state := .busy } with state := if jump.isNone then .ready else .done, pending := jump }) ∧ WRel (ex ++ out') w4 g3 ∧ HRel w4 g3 H3 ∧ (∀ b, (toksH w4 H3).count b + (ex ++ out').count b ≤ 1) ∧ EvolC (ex ++ out') W g w4 g3 ∧ (∀ b, b < W.heap.size → b ≠ w.heap.size + 1 → g b = .imm → w4.heap[b]? = W.heap[b]? ∧ g3 b = .imm) ∧ Evol out' w g0 w4 g3 ∧ StB B s w4 g3 := by
        intro jump s hs
        have hA3 : Aside w.heap.size w3 (w3.putObj (w.heap.size + 1) (.loop { { rec .ready none with state := .busy } with state := if jump.isNone then .ready else .done, pending := jump })) := .putObj hl3 ⟨(fun _ _ _ e => by cases e), (fun _ _ e => by cases e)⟩ (by omega)
        obtain ⟨k1, k2⟩ := hA3.hrel hR3.wr hR3.hp
        refine ⟨_, rfl, hA3.wrel hR3.wr, k1, fun b => ?_, hC1.trans (hE3.toC.trans (hA3.evolC hR3.wr hR3.wr.outT)), fun b hb hne hi => ?_, hA3.evol (hE2.trans (hE3.sub (hsub ex))) hw' (Nat.le_refl _), ?_⟩
        · rw [k2]
          have := hR3.un b
          omega
        · obtain ⟨z1, z2⟩ := hE1.imm b hb hi
          have z3 : (w1.putObj (w.heap.size + 1) (.loop { rec .ready none with state := .busy })).heap[b]? = w1.heap[b]? := World.putObj_heap_other hne
          have hb1 : b < w1.heap.size := Nat.lt_of_lt_of_le hb hE1.size
          obtain ⟨z4, z5⟩ := hE3.imm b (by rw [World.putObj_size]; exact hb1) z2
          exact ⟨(World.putObj_heap_other hne).trans (z4.trans (z3.trans z1)), z5⟩
        · refine ⟨?_, by rw [hBl]; exact q2, ?_, by rw [hBD]; exact q4⟩
          · rw [hBl, hs]; exact World.putObj_heap_same hlt3
          · rw [hBD]; exact (World.putObj_heap_other (by omega)).trans (q3.trans hD2)
      cases pe with
      | normal =>
        have hk := hQ3.resolve_right (fun h => h.1 rfl)
        obtain ⟨w4, e4, a1, a2, a3, a4, a7, a5, a6⟩ := hEnd none none (by rw [hBr, hrec]; rfl)
        refine ⟨_, _, run_endRound none hl3, ?_⟩
        rw [hBo, hBw, hBg, ← e4]
        exact ⟨g3, H3, a1, a2, a3, a4, a7, a5, .inl ⟨rfl, hk.2, a6⟩⟩
      | exit id =>
        have hk := hQ3.resolve_left (fun h => by cases h.1)
        obtain ⟨w4, e4, a1, a2, a3, a4, a7, a5, a6⟩ := hEnd (some (.exit id)) (some (.exit id)) (by rw [hBr, hrec]; rfl)
        refine ⟨_, _, run_endRound (some (.exit id)) hl3, ?_⟩
        rw [hBo, hBw, hBg, ← e4]
        exact ⟨g3, H3, a1, a2, a3, a4, a7, a5, .inr ⟨.exit id, (by simp), rfl, hk.2, a6⟩⟩
      | ret =>
        have hk := hQ3.resolve_left (fun h => by cases h.1)
        obtain ⟨w4, e4, a1, a2, a3, a4, a7, a5, a6⟩ := hEnd (some .ret) (some .ret) (by rw [hBr, hrec]; rfl)
        refine ⟨_, _, run_endRound (some .ret) hl3, ?_⟩
        rw [hBo, hBw, hBg, ← e4]
        exact ⟨g3, H3, a1, a2, a3, a4, a7, a5, .inr ⟨.ret, (by simp), rfl, hk.2, a6⟩⟩
    have hmain := hI B W1 g0 cs Ho J Jx (by rw [hBo]; exact hA0.wrel hw') k1 (by rw [hBo]; exact hun0) (by rw [hBo, hBw, hBg]; exact hE0) (by rw [hBw]; exact hE0.size) hS0 (VRl_mono hE0 false caps _ (fun h => by cases h) hcs) hY h0
    rw [hBl] at hmain
    refine ⟨w.heap.size + 1, [{ target := .collected w.heap.size, args := #[] }], W1, { target := .fn (.func F) cs, args := #[.func (.yield (w.heap.size + 1)) #[] #[]] }, W1, F,
      #[.func (.yield (w.heap.size + 1)) #[] #[]] ++ cs, W1, ?_, ?_, fun _ _ => trivial, ?_, fun h => by simp [WR, Fence.wide] at h, ?_⟩
    · rw [← hW1, hrec]; exact run_enterLoop_outer _ _ _ _ _
    · simp only [resolve, hev]
      simp [go_sem]
    · have := fun args w => run_callFunc (P := P) hcall args w
      simp [invoke, go_sem, this]
    · refine (callsIn_any hmain).mono ?_
      rintro e W2 ⟨⟨v, rfl⟩, s, g1, H1, b1, b2, b3, b4, b5, b6⟩
      rw [hBo] at b1 b3 b4
      rw [hBw, hBg] at b4
      have hl := b5.hl
      rw [hBl, hBr] at hl
      have hfin : ∀ o, RelD dq out w st H1 { a with defers := mark w.heap.size :: a.defers } (W2.putObj (w.heap.size + 1) o) g1 ∧ Evol out w g0 (W2.putObj (w.heap.size + 1) o) g1 := by
        intro o
        have hA : Aside w.heap.size W2 (W2.putObj (w.heap.size + 1) o) := .putObj hl ⟨(fun _ _ _ e => by cases e), (fun _ _ e => by cases e)⟩ (by omega)
        have hsub : ∀ b ∈ out, b ∈ out' := fun b hb => by rw [← hout']; exact List.mem_append_left _ hb
        have hRel : Rel (mark w.heap.size :: dq) out st H1 { a with defers := mark w.heap.size :: a.defers } W2 g1 := by
          refine ⟨⟨b1.fresh, b1.tl, fun b hb => b1.outT b (hsub b hb)⟩, b2, VRl_mono b4 true st _ (fun _ b hb => by rw [← hout']; exact List.mem_append_right _ hb) hR.tm, fun b => ?_, by simp only [hR.df]⟩
          have := b3 b
          rw [← hout', List.count_append] at this
          show (toksL st a.tmps.toList).count b + _ + _ ≤ 1
          omega
        exact ⟨⟨_, hA.rel hRel, [w.heap.size], rfl, by simp, fun D hD => by
          obtain rfl : D = w.heap.size := by simpa using hD
          have h1 := b5.hD
          have h2 := b5.gD
          rw [hBD] at h1 h2
          exact ⟨Nat.le_refl _, (World.putObj_heap_other (by omega)).trans h1, h2⟩⟩, (hA.evol b4 hw' (Nat.le_refl _)).sub hsub⟩
      cases s with
      | none =>
        have hend := run_endLoop (P := P) hl (by rw [hrec]; simp [lpRec])
        rw [show (rec .ready none).pending = none by rw [hrec]; rfl] at hend
        refine ⟨none, _, hend, ?_⟩
        exact ⟨.normal, st, H1, g1, rfl, hd H1 b6, (hfin _).1, (hfin _).2⟩
      | some pe =>
        obtain ⟨hne, pre, hpre, hj⟩ := b6
        have hq := hx _ pe H1 hpre hne hj
        have hend := run_endLoop (P := P) hl (by rw [hrec]; simp [lpRec])
        rw [show (rec .done (some (PExit.code pe))).pending = some (PExit.code pe) by rw [hrec]; rfl] at hend
        refine ⟨some (PExit.code pe), _, hend, ?_⟩
        cases pe with
        | normal => exact absurd rfl hne
        | exit id => exact wpIn_exit ⟨.exit id, st, H1, g1, rfl, hq, (hfin _).1, (hfin _).2⟩
        | ret => exact wpIn_ret ⟨.ret, st, H1, g1, rfl, hq, (hfin _).1, (hfin _).2⟩
  case region => obtain ⟨ps, _, hc⟩ := bind_spec hc; split at hc; (rcases compD_cases hc with ⟨_, _, hc⟩ | ⟨_, _, hc, _⟩ <;> cases hc); cases hc
  case seq => obtain ⟨_, _, hc⟩ := bind_spec hc; obtain ⟨_, _, hc⟩ := map_spec hc; cases hc
  case cond => obtain ⟨_, _, hc⟩ := bind_spec hc; obtain ⟨_, _, hc⟩ := bind_spec hc; obtain ⟨_, _, hc⟩ := map_spec hc; cases hc
  case block => obtain ⟨_, _, hc⟩ := map_spec hc; cases hc
  case loop => obtain ⟨_, _, hc⟩ := map_spec hc; cases hc
  all_goals cases hc
end
def lendA : List (Nat × PV) → List (Nat × PV)
  | [] => []
  | (i, x) :: l => (i, lend x) :: lendA l
def setA : List Nat → List PV → List (Nat × PV) → List (Nat × PV)
  | p :: ps, v :: x, l => setA ps x ((p, v) :: l)
  | _, _, l => l
theorem getS_lendA : ∀ (l : List (Nat × PV)) (j : Nat), getS (lendA l) j = lend (getS l j)
  | [], j => by simp [lendA, getS, lend]
  | (i, x) :: l, j => by
    simp only [lendA, getS]
    by_cases h : i = j
    · rw [if_pos h, if_pos h]
    · rw [if_neg h, if_neg h, getS_lendA l j]
theorem lendL_MS (n : Nat) (l : List (Nat × PV)) : lendL (MS n l) = MS n (lendA l) := by
  apply List.ext_getElem?
  intro j
  rw [lendL_eq_map, List.getElem?_map, MS_getElem?, MS_getElem?, getS_lendA]
  by_cases h : j < n
  · rw [if_pos h, if_pos h]; rfl
  · rw [if_neg h, if_neg h]; rfl
theorem setPs_MS (n : Nat) : ∀ (ps : List Nat) (x : List PV) (l : List (Nat × PV)), setPs (MS n l) ps x = MS n (setA ps x l)
  | [], x, l => by simp [setPs, setA]
  | p :: ps, [], l => by simp [setPs, setA]
  | p :: ps, v :: x, l => by
    have e : (MS n l).set p v = MS n ((p, v) :: l) := by
      apply List.ext_getElem?
      intro j
      rw [List.getElem?_set, MS_getElem?, MS_getElem?]
      simp only [MS_length, getS]
      by_cases h1 : p = j
      · subst h1
        simp
      · rw [if_neg h1, if_neg h1]
    rw [setPs_cons, e, setA]
    exact setPs_MS n ps x _
section
variable {P : Program} {Q : PPost}
theorem pwp_rangeMG {α : Type} {n : Nat} {l : List (Nat × PV)} {g : Arg} {ps : List Nat} {asg body : PCode} {F : Nat} {caps : List PV} {HI Ho : Heap} (enc : α → List PV) (hinj : ∀ a b, enc a = enc b → a = b) (as : List α)
    (hg : arg (MS n l) g = .fn (.func F) [] caps) (hI : IterG P F caps HI (as.map enc)) (hlen : ∀ a ∈ as, (enc a).length = ps.length)
    (J : List α → Heap → Prop) (Jx : List α → PExit → Heap → Prop) (h0 : J [] Ho)
    (hb : ∀ pre a H', a ∈ as → pre.length < as.length → J pre H' → pwp P asg (fun e st1 H1 => e = .normal ∧ pwp P body (fun e st2 H2 => (e = .normal ∧ J (pre ++ [a]) H2) ∨ (e ≠ .normal ∧ Jx (pre ++ [a]) e H2)) st1 H1) (MS n (lendA (setA ps (enc a) l))) H')
    (hd : ∀ H', J as H' → Q .normal (MS n l) H') (hx : ∀ pre e H', pre <+: as → e ≠ .normal → Jx pre e H' → Q e (MS n l) H') : pwp P (.rangeF g ps asg body) Q (MS n l) (HI ++ Ho) := by
  have inj : ∀ a b : List α, a.map enc = b.map enc → a = b := fun a b h => (List.map_inj_right (fun x y => hinj x y)).1 h
  refine pwp_rangeG hg hI (fun x hx => ?_) (fun pre H' => ∃ qs : List α, pre = qs.map enc ∧ J qs H') (fun pre e H' => ∃ qs : List α, pre = qs.map enc ∧ Jx qs e H') ⟨[], rfl, h0⟩ ?_ ?_ ?_
  · obtain ⟨a, ha, rfl⟩ := List.mem_map.1 hx
    exact hlen a ha
  · rintro pre x H' hx hl ⟨qs, rfl, hJ⟩
    obtain ⟨a, ha, rfl⟩ := List.mem_map.1 hx
    rw [setPs_MS, lendL_MS]
    refine pwp_mono (hb qs a H' ha (by simpa using hl) hJ) ?_
    rintro e st1 H1 ⟨he, h1⟩
    refine ⟨he, pwp_mono h1 ?_⟩
    rintro e st2 H2 (⟨k1, k2⟩ | ⟨k1, k2⟩)
    · exact .inl ⟨k1, qs ++ [a], by simp, k2⟩
    · exact .inr ⟨k1, qs ++ [a], by simp, k2⟩
  · rintro H' ⟨qs, e, hJ⟩
    rw [← inj _ _ e] at hJ
    exact hd H' hJ
  · rintro pre e H' hp hne ⟨qs, rfl, hJ⟩
    refine hx qs e H' ?_ hne hJ
    obtain ⟨r, hr⟩ := hp
    obtain ⟨u, v, e1, e2, e3⟩ := List.map_eq_append_iff.1 hr.symm
    rw [← inj _ _ e2, e1]
    exact List.prefix_append _ _
theorem pwp_rangeM {α : Type} {n : Nat} {l : List (Nat × PV)} {g : Arg} {ps : List Nat} {asg body : PCode} {F : Nat} {caps : List PV} {H : Heap} (enc : α → List PV) (hinj : ∀ a b, enc a = enc b → a = b) (as : List α)
    (hg : arg (MS n l) g = .fn (.func F) [] caps) (hI : Iter P F caps (as.map enc)) (hlen : ∀ a ∈ as, (enc a).length = ps.length)
    (J : List α → Heap → Prop) (Jx : List α → PExit → Heap → Prop) (h0 : J [] H)
    (hb : ∀ pre a H', a ∈ as → pre.length < as.length → J pre H' → pwp P asg (fun e st1 H1 => e = .normal ∧ pwp P body (fun e st2 H2 => (e = .normal ∧ J (pre ++ [a]) H2) ∨ (e ≠ .normal ∧ Jx (pre ++ [a]) e H2)) st1 H1) (MS n (lendA (setA ps (enc a) l))) H')
    (hd : ∀ H', J as H' → Q .normal (MS n l) H') (hx : ∀ pre e H', pre <+: as → e ≠ .normal → Jx pre e H' → Q e (MS n l) H') : pwp P (.rangeF g ps asg body) Q (MS n l) H :=
  pwp_rangeMG (HI := []) (Ho := H) enc hinj as hg hI hlen J Jx h0 hb hd hx
end
end Go.Proofs.YtjcjbpbkakfjdaaDoor.E
/- A logic of plain values, part 43: functions that are ranged over, walked. -/
namespace Go.Proofs.YtjcjbpbkakfjdaaDoor.E
open Go Go.RowKit
set_option linter.unusedVariables false
set_option linter.unusedSimpArgs false
variable {dq : List Deferred}
def Bs.top (B : Bs) : World := { B.w with heap := Array.replicate (max (max B.l B.D + 1) B.w.heap.size) (.deferred none) }
theorem Bs.top_size (B : Bs) : B.top.heap.size = max (max B.l B.D + 1) B.w.heap.size := by simp [Bs.top]
theorem StB.top {B : Bs} {s : Option PExit} {w : World} {g : Ghost} (h : StB B s w g) (hs : B.w.heap.size ≤ w.heap.size) : B.top.heap.size ≤ w.heap.size := by
  have := lt_of_heap h.hl
  have := lt_of_heap h.hD
  rw [Bs.top_size]
  omega
theorem Ds.transN {out' : List Nat} {w w1 w' : World} {g1 g' : Ghost} {ds ds1 ds' : List Deferred} (h : Ds w ds w1 g1 ds1) (hs : w.heap.size ≤ w1.heap.size) (hE' : Evol out' w1 g1 w' g') (k : Ds w1 ds1 w' g' ds') : Ds w ds w' g' ds' := by
  have hM : ∀ D, ∀ M : List Nat, (∀ D ∈ M, w.heap.size ≤ D ∧ w1.heap[D]? = some (.deferred (some [])) ∧ g1 D = .imm) → D ∈ M → D < w1.heap.size := fun D M hh hd => lt_of_heap (hh D hd).2.1
  obtain ⟨M1, e1, n1, h2⟩ := h
  have hb : ∀ D ∈ M1, D < w1.heap.size := fun D hd => hM D M1 h2 hd
  obtain ⟨M2, e2, n2, k2⟩ := k
  refine ⟨M2 ++ M1, by rw [e2, e1, List.map_append, List.append_assoc], ?_, fun D hd => ?_⟩
  · refine List.nodup_append.2 ⟨n2, n1, fun a ha b hb' e => ?_⟩
    have := (k2 a ha).1
    have := hb b hb'
    omega
  · rcases List.mem_append.1 hd with hd | hd
    · exact ⟨Nat.le_trans hs (k2 D hd).1, (k2 D hd).2⟩
    · obtain ⟨q1, q2, q3⟩ := h2 D hd
      obtain ⟨r1, r2⟩ := hE'.imm D (lt_of_heap q2) q3
      exact ⟨q1, r1.trans q2, r2⟩
theorem RelD.afterN {out : List Nat} {w w1 w' : World} {g1 g' : Ghost} {dq1 : List Deferred} {st : List PV} {H : Heap} {a : Act} (h : RelD dq1 out w1 st H a w' g') (hD : Ds w dq w1 g1 dq1) (hs : w.heap.size ≤ w1.heap.size) (hE' : Evol out w1 g1 w' g') : RelD dq out w st H a w' g' := by
  obtain ⟨dq', h1, h2⟩ := h
  exact ⟨dq', h1, hD.transN hs hE' h2⟩
def PostX (B : Bs) (Q : Option PExit → PPost) (e : Exit) (a' : Act) (w' : World) : Prop :=
  ∃ s pe st' H' g', e = PExit.conv pe ∧ Q s pe st' H' ∧ RelD [] B.out B.top st' H' a' w' g' ∧ Evol B.out B.w B.g w' g' ∧ StB B s w' g'
def pwpE (P : Program) (B : Bs) (s : Option PExit) (pc : PCode) (Q : Option PExit → PPost) (st : List PV) (H : Heap) : Prop :=
  ∀ h c, compC P h c = some pc → ∀ a w g, RelD [] B.out B.top st H a w g → Evol B.out B.w B.g w g → StB B s w g → c.wpIn (WR none) 1 P (PostX B Q) a w
def thenE (K : Option PExit → List PV → Heap → Prop) (Q : Option PExit → PPost) : Option PExit → PPost
  | s, .normal, st, H => K s st H
  | s, e, st, H => Q s e st H
def inBlockE (id : Nat) (Q : Option PExit → PPost) : Option PExit → PPost
  | s, .exit id', st, H => if id' = id then Q s .normal st H else Q s (.exit id') st H
  | s, e, st, H => Q s e st H
section
variable {P : Program} {B : Bs} {s : Option PExit} {Q : Option PExit → PPost} {st : List PV} {H : Heap}
theorem pwpE_lift {pc : PCode} (h : pwp P pc (Q s) st H) : pwpE P B s pc Q st H := by
  rintro hh c hc a w g ⟨dq, hR, hD⟩ hE hS
  refine wpIn_mono (h hh c hc none (.inl rfl) dq B.out a w g hR) ?_
  rintro e a' w' ⟨pe, st', H', g', rfl, hQ, hR', hE'⟩
  exact ⟨s, pe, st', H', g', rfl, hQ, hR'.afterN hD (hS.top hE.size) hE', hE.trans hE', hS.evol hE'⟩
theorem pwpE_seq {x y : PCode} (h : pwpE P B s x (thenE (fun s' => pwpE P B s' y Q) Q) st H) : pwpE P B s (.seq x y) Q st H := by
  intro hh c hc a w g hR hE hS
  cases c <;> simp only [compC] at hc
  case seq c1 c2 =>
    obtain ⟨p1, h1, hc⟩ := bind_spec hc
    obtain ⟨p2, h2, hc⟩ := map_spec hc
    cases hc
    refine wpIn_seq (wpIn_mono (h hh c1 h1 a w g hR hE hS) ?_)
    rintro e a' w' ⟨s', pe, st', H', g', rfl, hQ, hR', hE', hS'⟩
    cases pe with
    | normal => exact hQ hh c2 h2 a' w' g' hR' hE' hS'
    | exit id => exact ⟨s', .exit id, st', H', g', rfl, hQ, hR', hE', hS'⟩
    | ret => exact ⟨s', .ret, st', H', g', rfl, hQ, hR', hE', hS'⟩
  case region => obtain ⟨ps, _, hc⟩ := bind_spec hc; split at hc; (rcases compD_cases hc with ⟨_, _, hc⟩ | ⟨_, _, hc, _⟩ <;> cases hc); cases hc
  case cond => obtain ⟨_, _, hc⟩ := bind_spec hc; obtain ⟨_, _, hc⟩ := bind_spec hc; obtain ⟨_, _, hc⟩ := map_spec hc; cases hc
  case block => obtain ⟨_, _, hc⟩ := map_spec hc; cases hc
  case loop => obtain ⟨_, _, hc⟩ := map_spec hc; cases hc
  case rangeFunc => obtain ⟨_, _, hc⟩ := bind_spec hc; obtain ⟨_, _, hc⟩ := bind_spec hc; obtain ⟨_, _, hc⟩ := bind_spec hc; obtain ⟨_, hc⟩ := ite_spec hc; cases hc
  all_goals cases hc
theorem pwpE_cond {x y : PCode} {p : Arg} {b : Bool} (hb : argT st p = .bool b) (h1 : b = true → pwpE P B s x Q st H) (h2 : b = false → pwpE P B s y Q st H) : pwpE P B s (.cond p x y) Q st H := by
  intro hh c hc a w g hR hE hS
  cases c <;> simp only [compC] at hc
  case cond q c1 c2 =>
    obtain ⟨p', hp, hc⟩ := bind_spec hc
    obtain ⟨p1, q1, hc⟩ := bind_spec hc
    obtain ⟨p2, q2, hc⟩ := map_spec hc
    cases hc
    obtain ⟨dq, hR0, hD⟩ := hR
    have hv := argT_spec hR0.tm hp
    rw [hb] at hv
    exact wpIn_cond_split hv (fun e => h1 e hh c1 q1 a w g ⟨dq, hR0, hD⟩ hE hS) (fun e => h2 e hh c2 q2 a w g ⟨dq, hR0, hD⟩ hE hS)
  case region => obtain ⟨ps, _, hc⟩ := bind_spec hc; split at hc; (rcases compD_cases hc with ⟨_, _, hc⟩ | ⟨_, _, hc, _⟩ <;> cases hc); cases hc
  case seq => obtain ⟨_, _, hc⟩ := bind_spec hc; obtain ⟨_, _, hc⟩ := map_spec hc; cases hc
  case block => obtain ⟨_, _, hc⟩ := map_spec hc; cases hc
  case loop => obtain ⟨_, _, hc⟩ := map_spec hc; cases hc
  case rangeFunc => obtain ⟨_, _, hc⟩ := bind_spec hc; obtain ⟨_, _, hc⟩ := bind_spec hc; obtain ⟨_, _, hc⟩ := bind_spec hc; obtain ⟨_, hc⟩ := ite_spec hc; cases hc
  all_goals cases hc
theorem pwpE_cT {x y : PCode} {p : Arg} (hb : argT st p = .bool true) (h : pwpE P B s x Q st H) : pwpE P B s (.cond p x y) Q st H := pwpE_cond hb (fun _ => h) (fun e => by cases e)
theorem pwpE_cF {x y : PCode} {p : Arg} (hb : argT st p = .bool false) (h : pwpE P B s y Q st H) : pwpE P B s (.cond p x y) Q st H := pwpE_cond hb (fun e => by cases e) (fun _ => h)
theorem pwpE_block {id : Nat} {x : PCode} (h : pwpE P B s x (inBlockE id Q) st H) : pwpE P B s (.block id x) Q st H := by
  intro hh c hc a w g hR hE hS
  cases c <;> simp only [compC] at hc
  case block id' c1 =>
    obtain ⟨p1, q1, hc⟩ := map_spec hc
    cases hc
    refine wpIn_block (wpIn_mono (h hh c1 q1 a w g hR hE hS) ?_)
    rintro e a' w' ⟨s', pe, st', H', g', rfl, hQ, hR', hE', hS'⟩
    cases pe with
    | normal => exact ⟨s', .normal, st', H', g', rfl, hQ, hR', hE', hS'⟩
    | ret => exact ⟨s', .ret, st', H', g', rfl, hQ, hR', hE', hS'⟩
    | exit i =>
      simp only [PExit.conv, Exit.inBlock]
      simp only [inBlockE] at hQ
      split
      · rename_i e; rw [if_pos e] at hQ; exact ⟨s', .normal, st', H', g', rfl, hQ, hR', hE', hS'⟩
      · rename_i e; rw [if_neg e] at hQ; exact ⟨s', .exit i, st', H', g', rfl, hQ, hR', hE', hS'⟩
  case region => obtain ⟨ps, _, hc⟩ := bind_spec hc; split at hc; (rcases compD_cases hc with ⟨_, _, hc⟩ | ⟨_, _, hc, _⟩ <;> cases hc); cases hc
  case seq => obtain ⟨_, _, hc⟩ := bind_spec hc; obtain ⟨_, _, hc⟩ := map_spec hc; cases hc
  case cond => obtain ⟨_, _, hc⟩ := bind_spec hc; obtain ⟨_, _, hc⟩ := bind_spec hc; obtain ⟨_, _, hc⟩ := map_spec hc; cases hc
  case loop => obtain ⟨_, _, hc⟩ := map_spec hc; cases hc
  case rangeFunc => obtain ⟨_, _, hc⟩ := bind_spec hc; obtain ⟨_, _, hc⟩ := bind_spec hc; obtain ⟨_, _, hc⟩ := bind_spec hc; obtain ⟨_, hc⟩ := ite_spec hc; cases hc
  all_goals cases hc
theorem pwpE_keep (keep : List Nat) {pc : PCode} (h : pwpE P B s pc Q (keepL keep 0 st) H) : pwpE P B s pc Q st H := by
  rintro hh c hc a w g ⟨dq, hR, hD⟩ hE hS
  obtain ⟨k1, k2⟩ := VRl_keep keep (i := 0) hR.tm
  exact h hh c hc a w g ⟨dq, ⟨hR.wr, hR.hp, k1, fun b => by have := hR.un b; have := k2 b; omega, hR.df⟩, hD⟩ hE hS
theorem pwpE_drop {H2 : Heap} {pc : PCode} (hs : H2.Sublist H) (h : pwpE P B s pc Q st H2) : pwpE P B s pc Q st H := by
  rintro hh c hc a w g ⟨dq, hR, hD⟩ hE hS
  obtain ⟨s1, s2⟩ := sub_HRel hs hR.hp
  refine h hh c hc a w g ⟨dq, ⟨hR.wr, s1, hR.tm, fun b => ?_, hR.df⟩, hD⟩ hE hS
  have := hR.un b
  have := s2 b
  omega
theorem pwpE_loop {x : PCode} (R : Nat → List PV → Heap → Prop) {n : Nat} (h0 : R n st H) (h : ∀ n st H, R n st H → pwpE P B none x (thenE (fun s' st' H' => s' = none ∧ ∃ m, m < n ∧ R m st' H') Q) st H) : pwpE P B none (.loop x) Q st H := by
  intro hh c hc a w g hR hE hS
  cases c <;> simp only [compC] at hc
  case loop c1 =>
    obtain ⟨p1, q1, hc⟩ := map_spec hc
    cases hc
    refine loop_WR (I := fun n a' w' => ∃ st' H' g', R n st' H' ∧ RelD [] B.out B.top st' H' a' w' g' ∧ Evol B.out B.w B.g w' g' ∧ StB B none w' g') (n := n) ⟨st, H, g, h0, hR, hE, hS⟩ ?_
    rintro n a1 w1 ⟨st1, H1, g1, r1, r2, r3, r4⟩
    refine wpIn_mono (h n st1 H1 r1 hh c1 q1 a1 w1 g1 r2 r3 r4) ?_
    rintro e a' w' ⟨s', pe, st', H', g', rfl, hQ, hR', hE', hS'⟩
    cases pe with
    | normal =>
      obtain ⟨rfl, m, hm, hr⟩ := hQ
      exact ⟨m, hm, st', H', g', hr, hR', hE', hS'⟩
    | exit id => exact ⟨s', .exit id, st', H', g', rfl, hQ, hR', hE', hS'⟩
    | ret => exact ⟨s', .ret, st', H', g', rfl, hQ, hR', hE', hS'⟩
  case region => obtain ⟨ps, _, hc⟩ := bind_spec hc; split at hc; (rcases compD_cases hc with ⟨_, _, hc⟩ | ⟨_, _, hc, _⟩ <;> cases hc); cases hc
  case seq => obtain ⟨_, _, hc⟩ := bind_spec hc; obtain ⟨_, _, hc⟩ := map_spec hc; cases hc
  case cond => obtain ⟨_, _, hc⟩ := bind_spec hc; obtain ⟨_, _, hc⟩ := bind_spec hc; obtain ⟨_, _, hc⟩ := map_spec hc; cases hc
  case block => obtain ⟨_, _, hc⟩ := map_spec hc; cases hc
  case rangeFunc => obtain ⟨_, _, hc⟩ := bind_spec hc; obtain ⟨_, _, hc⟩ := bind_spec hc; obtain ⟨_, _, hc⟩ := bind_spec hc; obtain ⟨_, hc⟩ := ite_spec hc; cases hc
  all_goals cases hc
theorem pwpE_loopK (keep : List Nat) (I : Nat → List PV → Heap → Prop) {x : PCode} {n : Nat} (h0 : ∃ H2, H2.Sublist H ∧ I n (keepL keep 0 st) H2)
    (h : ∀ n st H, I n st H → pwpE P B none x (thenE (fun s' st' H' => s' = none ∧ ∃ m, m < n ∧ ∃ H2, H2.Sublist H' ∧ I m (keepL keep 0 st') H2) Q) st H) : pwpE P B none (.loop x) Q st H := by
  refine pwpE_loop (fun m s H' => ∃ H2, H2.Sublist H' ∧ I m (keepL keep 0 s) H2) h0 ?_
  rintro m s H' ⟨H2, h1, h2⟩
  exact pwpE_drop h1 (pwpE_keep keep (h m _ _ h2))
theorem pwpE_region {ops : List POp} (h : ∀ K : List PV → Heap → Prop, (∀ st' H', Q s .normal st' H' → K st' H') → runM P ops K st H) : pwpE P B s (.region ops) Q st H := pwpE_lift (pwp_regionM h)
theorem pwpE_sr {ops : List POp} {y : PCode} (h : ∀ K : List PV → Heap → Prop, (∀ st' H', pwpE P B s y Q st' H' → K st' H') → runM P ops K st H) : pwpE P B s (.seq (.region ops) y) Q st H :=
  pwpE_seq (pwpE_region h)
theorem pwpE_skip (h : Q s .normal st H) : pwpE P B s .skip Q st H := pwpE_lift (pwp_skip h)
theorem pwpE_ret (h : Q s .ret st H) : pwpE P B s .ret Q st H := pwpE_lift (pwp_ret h)
theorem pwpE_exit {id : Nat} (h : Q s (.exit id) st H) : pwpE P B s (.exit id) Q st H := pwpE_lift (pwp_exit h)
end
section
variable {P : Program} {hint : Hint} {out : List Nat}
theorem op_one {all : Array Oper} {QQ : Exit → Act → World → Prop} {K : List PV → Heap → Prop} {i : Nat} {op : POp} {ps : List POp} {st : List PV} {H : Heap} {a : Act} {w : World} {g : Ghost} (hc : compOps P hint all (all.toList.drop i) = some (op :: ps)) (hr : runOps P [op] K st H) (h : Rel dq out st H a w g) :
    wpOp P all QQ i (After dq out w g K) a w := by
  have hlt : i < all.size := by
    by_cases hlt : i < all.size
    · exact hlt
    · have : all.toList.drop i = [] := List.drop_of_length_le (by show all.size ≤ i; omega)
      rw [this] at hc
      cases hc
  have hd : all.toList.drop i = all[i] :: all.toList.drop (i + 1) := by
    rw [List.drop_eq_getElem_cons (by exact hlt)]
    rfl
  rw [hd] at hc
  obtain ⟨k, hk, hc⟩ := bind_spec hc
  obtain ⟨gd, hgd, hc⟩ := bind_spec hc
  obtain ⟨ps', hps, hc⟩ := map_spec hc
  cases hc
  have ho : all[i]? = some all[i] := Array.getElem?_eq_getElem hlt
  obtain ⟨w1, w2⟩ := wanted_spec hgd h.tm
  unfold wpOp
  rw [ho]
  simp only
  have step : ∀ (hs : stepOp P ⟨all[i].dst, gd, k⟩ K st H), Region.wanted all[i] (yielded all a.tmps) = true →
      if Region.wanted all[i] (yielded all a.tmps) = true then all[i].wp P a w (After dq out w g K) QQ ∨ all[i].asks P a w ∧ LetsOut QQ else After dq out w g K (a.put all[i].dst undef) w := by
    intro hs hw
    rw [if_pos hw]
    exact .inl (step_sound (op := ⟨all[i].dst, gd, k⟩) hk rfl h hs)
  unfold runOps at hr
  cases gd with
  | none => exact step hr (w1 rfl)
  | some p =>
    obtain ⟨t, want⟩ := p
    obtain ⟨b, hb, hr⟩ := hr
    have hw := w2 t want b rfl hb
    by_cases hbw : b = some want
    · rw [if_pos hbw] at hr
      exact step hr (by rw [hw]; simp [hbw])
    · rw [if_neg hbw] at hr
      rw [if_neg (by rw [hw]; simp [hbw])]
      exact ⟨_, H, g, hr, put_rel h _, Evol.refl _ _ _⟩
theorem compOps_tail {all : Array Oper} {i : Nat} {op : POp} {ps : List POp} (hc : compOps P hint all (all.toList.drop i) = some (op :: ps)) : i < all.size ∧ compOps P hint all (all.toList.drop (i + 1)) = some ps := by
  have hlt : i < all.size := by
    by_cases hlt : i < all.size
    · exact hlt
    · have : all.toList.drop i = [] := List.drop_of_length_le (by show all.size ≤ i; omega)
      rw [this] at hc
      cases hc
  have hd : all.toList.drop i = all[i] :: all.toList.drop (i + 1) := by
    rw [List.drop_eq_getElem_cons (by exact hlt)]
    rfl
  rw [hd] at hc
  obtain ⟨k, hk, hc⟩ := bind_spec hc
  obtain ⟨gd, hgd, hc⟩ := bind_spec hc
  obtain ⟨ps', hps, hc⟩ := map_spec hc
  cases hc
  exact ⟨hlt, hps⟩
theorem runOps_one {op : POp} {ops : List POp} {K : List PV → Heap → Prop} {st : List PV} {H : Heap} (h : runOps P (op :: ops) K st H) : runOps P [op] (runOps P ops K) st H := h
theorem ops_prefix {all : Array Oper} {QQ : Exit → Act → World → Prop} (hq : ¬ LetsOut QQ) {K : List PV → Heap → Prop} : ∀ (ops1 : List POp) (i : Nat) {pops : List POp} {st : List PV} {H : Heap} {a : Act} {w : World} {g : Ghost}, compOps P hint all (all.toList.drop i) = some (ops1 ++ pops) → runOps P ops1 K st H → Rel dq out st H a w g →
    (∀ a' w', After dq out w g K a' w' → wpOpsIn (WR none) 1 P all QQ (List.range' (i + ops1.length) (all.size - (i + ops1.length))) a' w') → wpOpsIn (WR none) 1 P all QQ (List.range' i (all.size - i)) a w
  | [], i, pops, st, H, a, w, g, hc, hr, h, hK => hK a w ⟨st, H, g, hr, h, Evol.refl _ _ _⟩
  | op :: ops1, i, pops, st, H, a, w, g, hc, hr, h, hK => by
    rw [List.cons_append] at hc
    obtain ⟨hlt, hc2⟩ := compOps_tail hc
    have h1 := op_one (QQ := QQ) hc (runOps_one hr) h
    rw [show all.size - i = (all.size - (i + 1)) + 1 by omega, List.range'_succ, wpOpsIn_cons]
    refine opIn hq (.inl rfl) ?_ h1
    rintro a' w' ⟨st', H', g', q1, q2, q3⟩
    refine ops_prefix hq ops1 (i + 1) hc2 q1 q2 fun a2 w2 ⟨s2, H2, g2, r1, r2, r3⟩ => ?_
    have := hK a2 w2 ⟨s2, H2, g2, r1, r2, q3.trans r3⟩
    rw [List.length_cons, show i + (ops1.length + 1) = i + 1 + ops1.length by omega] at this
    exact this
def asd (S : List Nat) (g : Ghost) : Ghost := fun b => if S.contains b then .tail 0 else g b
def bck (S : List Nat) (g : Ghost) : Ghost := fun b => if S.contains b then .mut else g b
theorem asd_in {S : List Nat} {g : Ghost} {b : Nat} (h : b ∈ S) : asd S g b = .tail 0 := by unfold asd; rw [if_pos (by simpa using h)]
theorem asd_out {S : List Nat} {g : Ghost} {b : Nat} (h : b ∉ S) : asd S g b = g b := by unfold asd; rw [if_neg (by simpa using h)]
theorem bck_in {S : List Nat} {g : Ghost} {b : Nat} (h : b ∈ S) : bck S g b = .mut := by unfold bck; rw [if_pos (by simpa using h)]
theorem bck_out {S : List Nat} {g : Ghost} {b : Nat} (h : b ∉ S) : bck S g b = g b := by unfold bck; rw [if_neg (by simpa using h)]
theorem asd_C {S out : List Nat} {w : World} {g : Ghost} (hS : ∀ b ∈ S, g b = .mut) (ho : ∀ b ∈ out, b ∉ S) : EvolC out w g w (asd S g) := by
  refine ⟨fun b c e fz hc hi => ⟨rfl, ?_⟩, fun b f c e fz h0 hf hc => ⟨c, fz, hc, rfl, .inr ⟨f, Nat.le_refl _, ?_⟩⟩, fun b hb => ⟨rfl, asd_out (ho b hb)⟩, fun b es cl hc hi => ⟨rfl, ?_⟩⟩
  · rw [asd_out (fun h => by rw [hS b h] at hi; cases hi)]; exact hi
  · rw [asd_out (fun h => by rw [hS b h] at hf; cases hf)]; exact hf
  · rw [asd_out (fun h => by rw [hS b h] at hi; cases hi)]; exact hi
theorem bck_C {S out : List Nat} {w : World} {g : Ghost} (hS : ∀ b ∈ S, g b = .tail 0) (ho : ∀ b ∈ out, b ∉ S) : EvolC out w g w (bck S g) := by
  refine ⟨fun b c e fz hc hi => ⟨rfl, ?_⟩, fun b f c e fz h0 hf hc => ⟨c, fz, hc, rfl, .inr ⟨f, Nat.le_refl _, ?_⟩⟩, fun b hb => ⟨rfl, bck_out (ho b hb)⟩, fun b es cl hc hi => ⟨rfl, ?_⟩⟩
  · rw [bck_out (fun h => by rw [hS b h] at hi; cases hi)]; exact hi
  · rw [bck_out (fun h => by have := hS b h; rw [this] at hf; cases hf; omega)]; exact hf
  · rw [bck_out (fun h => by rw [hS b h] at hi; cases hi)]; exact hi
end
end Go.Proofs.YtjcjbpbkakfjdaaDoor.E
/- A logic of plain values, part 44: what a round does with what is handed on, within the function's walk. -/
namespace Go.Proofs.YtjcjbpbkakfjdaaDoor.E
open Go Go.RowKit
set_option linter.unusedVariables false
set_option linter.unusedSimpArgs false
variable {dq : List Deferred}
def isCV : PK → Bool
  | .callV _ _ => true
  | _ => false
def noCV (o : Option PK) : Prop := ∀ k, o = some k → isCV k = false
theorem noCV_none : noCV none := fun k h => by cases h
theorem noCV_some {k : PK} (h : isCV k = false) : noCV (some k) := fun k' e => by cases e; exact h
theorem noCV_bind {α : Type} {x : Option α} {f : α → Option PK} (h : ∀ a, noCV (f a)) : noCV (x.bind f) := fun k e => by
  cases x with
  | none => cases e
  | some a => exact h a k e
theorem noCV_map {α : Type} {x : Option α} {f : α → PK} (h : ∀ a, isCV (f a) = false) : noCV (x.map f) := fun k e => by
  cases x with
  | none => cases e
  | some a => cases e; exact h a
theorem noCV_ite {c : Prop} [Decidable c] {x y : Option PK} (h1 : noCV x) (h2 : noCV y) : noCV (if c then x else y) := by split <;> assumption
theorem noCV_no {o : Option PK} {y : Arg} {args : List Arg} (h : noCV o) (e : o = some (.callV y args)) : False := by
  have := h _ e
  cases this
theorem compRow_no (P : Program) (h : Hint) (d : Option Nat) (b : Builtin) (ts : List TypeId) (args : List Operand) : noCV (compRow P h d b ts args) := by
  unfold compRow
  repeat' (first | exact noCV_none | refine noCV_ite ?_ ?_ | refine noCV_bind fun _ => ?_ | refine noCV_map fun _ => rfl | split)
theorem compBuiltin_no (P : Program) (b : Builtin) (ts : List TypeId) (args : List Operand) : noCV (compBuiltin P b ts args) := by
  unfold compBuiltin
  repeat' (first | exact noCV_none | refine noCV_ite ?_ ?_ | refine noCV_bind fun _ => ?_ | refine noCV_map fun _ => rfl | split)
theorem compBin_no (P : Program) (op : BinOp) (t : TypeId) (x y : Operand) : noCV (compBin P op t x y) := by
  unfold compBin
  repeat' (first | exact noCV_none | refine noCV_ite ?_ ?_ | refine noCV_bind fun _ => ?_ | refine noCV_map fun _ => rfl | (refine noCV_some ?_; rfl) | split)
theorem compSlice_no (P : Program) (t : TypeId) (x : Operand) (lo hi mx : Option Operand) : noCV (compSlice P t x lo hi mx) := by
  unfold compSlice
  repeat' (first | exact noCV_none | refine noCV_ite ?_ ?_ | refine noCV_bind fun _ => ?_ | refine noCV_map fun _ => rfl | (refine noCV_some ?_; rfl) | split)
theorem compConv_no (P : Program) (s d : TypeId) (x : Operand) : noCV (compConv P s d x) := by
  unfold compConv
  repeat' (first | exact noCV_none | refine noCV_ite ?_ ?_ | refine noCV_bind fun _ => ?_ | refine noCV_map fun _ => rfl | (refine noCV_some ?_; rfl) | split)
theorem compOp0_callV {P : Program} {h : Hint} {o : Oper} {y : Arg} {args : List Arg} (hk : compOp0 P h o = some (.callV y args)) :
    ∃ f as ts, o.op = .call ⟨.value f, as, ts⟩ ∧ compArg f = some y ∧ compArgs as.toList = some args := by
  obtain ⟨d, op, ty, pos, af, gd⟩ := o
  cases op
  case call c =>
    obtain ⟨callee, as, ts⟩ := c
    cases callee with
    | value f =>
      cases f with
      | func n =>
        simp only [compOp0] at hk
        obtain ⟨_, _, hk⟩ := map_spec hk
        cases hk
      | tmp t =>
        simp only [compOp0] at hk
        obtain ⟨f', h1, hk⟩ := bind_spec hk
        obtain ⟨as', h2, hk⟩ := map_spec hk
        cases hk
        exact ⟨_, _, _, rfl, h1, h2⟩
      | const v =>
        simp only [compOp0] at hk
        obtain ⟨f', h1, hk⟩ := bind_spec hk
        obtain ⟨as', h2, hk⟩ := map_spec hk
        cases hk
        exact ⟨_, _, _, rfl, h1, h2⟩
      | global g =>
        simp only [compOp0] at hk
        obtain ⟨f', h1, hk⟩ := bind_spec hk
        cases h1
    | invoke r m =>
      simp only [compOp0] at hk
      cases hk
    | builtin b =>
      exfalso
      simp only [compOp0] at hk
      split at hk
      · rename_i k hr
        cases hk
        exact noCV_no (compRow_no P h d b ts.toList as.toList) hr
      · exact noCV_no (compBuiltin_no P b ts.toList as.toList) hk
  all_goals
    exfalso
    simp only [compOp0] at hk
    refine noCV_no ?_ hk
    repeat' (first | exact noCV_none | exact compBin_no _ _ _ _ _ | exact compSlice_no _ _ _ _ _ _ | exact compConv_no _ _ _ _ | refine noCV_ite ?_ ?_ | refine noCV_bind fun _ => ?_ | refine noCV_map fun _ => rfl | (refine noCV_map fun _ => ?_; split <;> rfl) | (refine noCV_some ?_; rfl) | split)

section
variable {P : Program} {B : Bs}
theorem VRl_flip {o : Bool} {w : World} {g g' : Ghost} {S : List Nat} (hC : ∀ out : List Nat, (∀ b ∈ out, b ∉ S) → EvolC out w g w g') {xs : List PV} {vs : List Value} (ht : o = true → ∀ b ∈ toksL xs vs, b ∉ S) (h : VRl o w g xs vs) : VRl o w g' xs vs := by
  cases o with
  | true => exact VRl_monoC (hC (toksL xs vs) (ht rfl)) true xs vs (fun _ b hb => hb) h
  | false => exact VRl_monoC (hC [] (fun b hb => by cases hb)) false xs vs (fun ho => by cases ho) h
theorem HOk_of {w : World} {g : Ghost} {H : Heap} (h : HRel w g H) : (H.map (·.1)).Nodup ∧ (∀ p ∈ H, HOk w g p) ∧ GL w g := HRel_iff.1 h
theorem toksB_eq {w w' : World} {b : Nat} {cs : List PV} (h : w'.heap[b]? = w.heap[b]?) : toksB w' b cs = toksB w b cs := by simp only [toksB, h]
theorem toksH_app (w : World) (X H : Heap) : toksH w (X ++ H) = toksH w X ++ toksH w H := by rw [toksH_flat, toksH_flat, toksH_flat, List.flatMap_append]
theorem count_nodup {S : List Nat} (h : S.Nodup) (b : Nat) : S.count b ≤ 1 := List.nodup_iff_count.1 h b
theorem count_no {S : List Nat} {b : Nat} (h : b ∉ S) : S.count b = 0 := List.count_eq_zero.2 h
theorem yield_op {xs : List (List PV)} {J : List (List PV) → Heap → Prop} {Jx : List (List PV) → PExit → Heap → Prop} (hY : YieldOk P B xs J Jx) {hint : Hint} {o : Oper} {yv : Arg} {args : List Arg} (hk : compOp P hint o = some (.callV yv args))
    {st : List PV} {HI Ho : Heap} {a : Act} {w : World} {g : Ghost} (hR : Rel dq B.out st (HI ++ Ho) a w g) (hE : Evol B.out B.w B.g w g) (hS : StB B none w g) (hD : Ds B.top [] w g dq) (hy : arg st yv = .fn (.yield B.l) [] [])
    {pre : List (List PV)} (hx : args.map (arg st) ∈ xs) (hpl : pre.length < xs.length) (hJ : J pre Ho) {K : Act → World → Prop} {QQ : Exit → Act → World → Prop}
    (hK : ∀ (s' : Option PExit) (bv : Bool) (Ho' : Heap) (g' : Ghost) (a' : Act) (w' : World), ((s' = none ∧ bv = true ∧ J (pre ++ [args.map (arg st)]) Ho') ∨ ∃ pe, pe ≠ .normal ∧ s' = some pe ∧ bv = false ∧ Jx (pre ++ [args.map (arg st)]) pe Ho') →
      Rel dq B.out (putSt st o.dst (.bool bv)) (HI ++ Ho') a' w' g' → Evol B.out B.w B.g w' g' → StB B s' w' g' → Ds B.top [] w' g' dq → K a' w') :
    o.wpIn (WR none) 1 P a w K QQ := by
  obtain ⟨f, as, ts, ho, hf, has⟩ := compOp0_callV (h := hint) (o := o) (by
    rcases compOp_or hk with h | h
    · exact h
    · cases h)
  obtain ⟨dst, op, ty, pos, af, gd⟩ := o
  simp only at ho
  subst ho
  have hfv := arg_spec hR.tm hf
  rw [hy] at hfv
  obtain ⟨fs, cs, hev, hfs, hcs⟩ := hfv
  obtain rfl : fs = #[] := Array.toList_eq_nil_iff.1 hfs
  obtain rfl : cs = #[] := Array.toList_eq_nil_iff.1 hcs
  obtain ⟨hav, hat⟩ := args_spec hR.tm has
  -- the blocks that are laid aside
  obtain ⟨hn, hall, hgl⟩ := HOk_of hR.hp
  obtain ⟨S, hSd⟩ : ∃ S, S = HI.map (·.1) := ⟨_, rfl⟩
  rw [List.map_append] at hn
  obtain ⟨hn1, hn2, hn3⟩ := List.nodup_append.1 hn
  have hSm : ∀ b ∈ S, g b = .mut := fun b hb => by
    rw [hSd] at hb
    obtain ⟨p, hp, rfl⟩ := List.mem_map.1 hb
    exact (hall p (List.mem_append_left _ hp)).1
  have hSlt : ∀ b ∈ S, b < w.heap.size := fun b hb => by
    rw [hSd] at hb
    obtain ⟨p, hp, rfl⟩ := List.mem_map.1 hb
    obtain ⟨_, _, c, e, hc, _⟩ := hall p (List.mem_append_left _ hp)
    exact lt_of_heap hc
  have hNot : ∀ b, (∃ f, g b = .tail f) → b ∉ S := fun b ⟨f, hf⟩ hb => by rw [hSm b hb] at hf; cases hf
  have hImm : ∀ b, g b = .imm → b ∉ S := fun b hf hb => by rw [hSm b hb] at hf; cases hf
  have hC : ∀ out : List Nat, (∀ b ∈ out, b ∉ S) → EvolC out w g w (asd S g) := fun out ho => asd_C hSm ho
  obtain ⟨ex, hex⟩ : ∃ ex, ex = S ++ toksH w HI ++ toksL st a.tmps.toList := ⟨_, rfl⟩
  have tHI : ∀ t ∈ toksH w HI, ∃ f, g t = .tail f := fun t ht => toksH_tail hR.hp t (by rw [toksH_app]; exact List.mem_append_left _ ht)
  have tHo : ∀ t ∈ toksH w Ho, ∃ f, g t = .tail f := fun t ht => toksH_tail hR.hp t (by rw [toksH_app]; exact List.mem_append_right _ ht)
  have tst : ∀ t ∈ toksL st a.tmps.toList, ∃ f, g t = .tail f := toksL_tail st _ hR.tm
  have w1 : WRel (ex ++ B.out) w (asd S g) := by
    refine ⟨fun b hb => ?_, fun b f hf => ?_, fun b hb => ?_⟩
    · rw [asd_out (fun h => by have := hSlt b h; omega)]; exact hR.wr.fresh b hb
    · by_cases h : b ∈ S
      · rw [asd_in h] at hf
        cases hf
        have hb := h
        rw [hSd] at hb
        obtain ⟨p, hp, rfl⟩ := List.mem_map.1 hb
        obtain ⟨_, _, c, e, hc, _⟩ := hall p (List.mem_append_left _ hp)
        exact ⟨c, e, hc, Nat.zero_le _⟩
      · rw [asd_out h] at hf; exact hR.wr.tl b f hf
    · have key : (∃ f, g b = .tail f) → ∃ f, asd S g b = .tail f := fun h => by rw [asd_out (hNot b h)]; exact h
      rw [hex] at hb
      simp only [List.mem_append] at hb
      rcases hb with ((hb | hb) | hb) | hb
      · exact ⟨0, asd_in hb⟩
      · exact key (tHI b hb)
      · exact key (tst b hb)
      · exact key (hR.wr.outT b hb)
  have hHo : HRel w (asd S g) Ho := by
    refine HRel_iff.2 ⟨hn2, fun p hp => ?_, fun n hn => ?_⟩
    · have hpS : p.1 ∉ S := fun h => by rw [hSd] at h; exact hn3 _ h _ (List.mem_map_of_mem hp) rfl
      obtain ⟨q1, q2, c, e, hc, hv⟩ := hall p (List.mem_append_right _ hp)
      exact ⟨by rw [asd_out hpS]; exact q1, q2, c, e, hc, VRl_flip hC (fun _ b hb => hNot b (toksL_tail _ _ hv b hb)) hv⟩
    · obtain ⟨z1, m, e, fz, z2⟩ := hgl n hn
      exact ⟨by rw [asd_out (hImm n z1)]; exact z1, m, e, fz, z2⟩
  have hcount : ∀ b, (toksH w Ho).count b + (ex ++ B.out).count b ≤ 1 := fun b => by
    have h1 := hR.un b
    rw [toksH_app, List.count_append] at h1
    rw [hex]
    simp only [List.count_append]
    by_cases hb : b ∈ S
    · have hs := count_nodup (show S.Nodup by rw [hSd]; exact hn1) b
      have z1 := count_no (fun h => hNot b (tHI b h) hb)
      have z2 := count_no (fun h => hNot b (tHo b h) hb)
      have z3 := count_no (fun h => hNot b (tst b h) hb)
      have z4 := count_no (fun h => hNot b (hR.wr.outT b h) hb)
      omega
    · have := count_no hb
      omega
  have hEv1 : Evol B.out B.w B.g w (asd S g) := by
    refine ⟨hE.os, hE.tape, hE.output, hE.size, fun b hb hi => ?_, fun b f c e fz h0 hf hc => ?_, fun b hb => ?_⟩
    · obtain ⟨z1, z2⟩ := hE.imm b hb hi
      exact ⟨z1, by rw [asd_out (hImm b z2)]; exact z2⟩
    · obtain ⟨c', fz', z1, z2, z3⟩ := hE.tail b f c e fz h0 hf hc
      refine ⟨c', fz', z1, z2, ?_⟩
      rcases z3 with z3 | ⟨f', hle, z3⟩
      · exact .inl (by rw [asd_out (hImm b z3)]; exact z3)
      · exact .inr ⟨f', hle, by rw [asd_out (hNot b ⟨f', z3⟩)]; exact z3⟩
    · obtain ⟨z1, z2⟩ := hE.out b hb
      exact ⟨z1, by rw [asd_out (hNot b (hR.wr.outT b hb))]; exact z2⟩
  have hS1 : StB B none w (asd S g) := ⟨hS.hl, by rw [asd_out (hImm _ hS.gl)]; exact hS.gl, hS.hD, by rw [asd_out (hImm _ hS.gD)]; exact hS.gD⟩
  have hx1 : VRl false w (asd S g) (args.map (arg st)) (as.map a.eval).toList := by
    rw [Array.toList_map]
    exact VRl_flip (o := false) hC (fun h => by cases h) (VRl_weak _ _ hav)
  obtain ⟨fn, tmps, asg, body, hrun, hround⟩ := hY ex pre _ Ho w (asd S g) (as.map a.eval) hx hpl w1 hHo hcount hEv1 hS1 hx1 hJ
  unfold Oper.wpIn
  refine ⟨fun _ _ => trivial, ?_⟩
  have hexec : (Oper.mk dst (.call ⟨.value f, as, ts⟩) ty pos af gd |>.semAt (WR none).round a.eval).run P w = .ok (.round B.l fn tmps asg body) w := by
    show (execOp a.eval ⟨dst, .call ⟨.value f, as, ts⟩, ty, pos, af, gd⟩).run P w = _
    rw [← hrun]
    simp only [execOp, resolve, hev, Deferred.ofValue, Sem.run_bind, Sem.run_pure, Result.andThen_ok, invoke]
    simp
  rw [hexec, Oper.uponIn_round]
  refine ⟨fun h => by simp [WR, Fence.wide] at h, hround.mono ?_⟩
  rintro e W' ⟨g1, Ho', u1, u2, u3, u4, u5, u6, u7⟩
  -- what was laid aside is taken up again
  have hSx : ∀ b ∈ S, W'.heap[b]? = w.heap[b]? ∧ g1 b = .tail 0 := fun b hb => by
    obtain ⟨z1, z2⟩ := u4.out b (by rw [hex]; simp only [List.mem_append]; exact .inl (.inl (.inl hb)))
    exact ⟨z1, z2.trans (asd_in hb)⟩
  have hbC : ∀ out : List Nat, (∀ b ∈ out, b ∉ S) → EvolC out W' g1 W' (bck S g1) := fun out ho => bck_C (fun b hb => (hSx b hb).2) ho
  have hexS : ∀ b, b ∈ B.out → b ∉ S := fun b hb => hNot b (hR.wr.outT b hb)
  have hv1 : VRl true W' (bck S g1) st a.tmps.toList := by
    have h1 := VRl_flip (o := true) hC (fun _ b hb => hNot b (tst b hb)) hR.tm
    have h2 := VRl_monoC u4 true st _ (fun _ b hb => by rw [hex]; simp only [List.mem_append]; exact .inl (.inr hb)) h1
    exact VRl_flip (o := true) hbC (fun _ b hb => hNot b (tst b hb)) h2
  obtain ⟨m1, m2, m3⟩ := HOk_of u2
  have hHo2 : ∀ p ∈ Ho', p.1 ∉ S := fun p hp h => by
    have := (m2 p hp).1
    rw [(hSx _ h).2] at this
    cases this
  have tHo' : ∀ t ∈ toksH W' Ho', t ∉ S := fun t ht h => by
    have h3 := u3 t
    have h4 : 1 ≤ (toksH W' Ho').count t := List.one_le_count_iff.2 ht
    have h5 : 1 ≤ (ex ++ B.out).count t := List.one_le_count_iff.2 (by rw [hex]; simp only [List.mem_append]; exact .inl (.inl (.inl h)))
    omega
  have hR2 : HRel W' (bck S g1) (HI ++ Ho') := by
    refine HRel_iff.2 ⟨?_, fun p hp => ?_, fun n hn => ?_⟩
    · rw [List.map_append]
      refine List.nodup_append.2 ⟨hn1, m1, fun b hb c hc e => ?_⟩
      subst e
      obtain ⟨p, hp, rfl⟩ := List.mem_map.1 hc
      exact hHo2 p hp (by rw [hSd]; exact hb)
    · rcases List.mem_append.1 hp with hp | hp
      · have hpS : p.1 ∈ S := by rw [hSd]; exact List.mem_map_of_mem hp
        obtain ⟨q1, q2, c, e, hc, hv⟩ := hall p (List.mem_append_left _ hp)
        have ht : ∀ t ∈ toksL p.2 c.toList, t ∈ toksH w HI := fun t ht => by
          rw [toksH_flat]
          exact List.mem_flatMap.2 ⟨p, hp, by simp only [toksB, hc]; exact ht⟩
        have h1 := VRl_flip (o := true) hC (fun _ b hb => hNot b (tHI b (ht b hb))) hv
        have h2 := VRl_monoC u4 true p.2 _ (fun _ b hb => by rw [hex]; simp only [List.mem_append]; exact .inl (.inl (.inr (ht b hb)))) h1
        exact ⟨bck_in hpS, q2, c, e, (hSx _ hpS).1.trans hc, VRl_flip (o := true) hbC (fun _ b hb => hNot b (tHI b (ht b hb))) h2⟩
      · obtain ⟨q1, q2, c, e, hc, hv⟩ := m2 p hp
        refine ⟨by rw [bck_out (hHo2 p hp)]; exact q1, q2, c, e, hc, VRl_flip (o := true) hbC (fun _ b hb => tHo' b ?_) hv⟩
        rw [toksH_flat]
        exact List.mem_flatMap.2 ⟨p, hp, by simp only [toksB, hc]; exact hb⟩
    · obtain ⟨z1, m, e, fz, z2⟩ := m3 n hn
      exact ⟨by rw [bck_out (fun h => by rw [(hSx n h).2] at z1; cases z1)]; exact z1, m, e, fz, z2⟩
  have hTI : toksH W' HI = toksH w HI := by
    rw [toksH_flat, toksH_flat]
    have : ∀ l : Heap, (∀ p ∈ l, p.1 ∈ S) → l.flatMap (fun p => toksB W' p.1 p.2) = l.flatMap fun p => toksB w p.1 p.2 := fun l => by
      induction l with
      | nil => intro _; rfl
      | cons p l ih =>
        intro h
        rw [List.flatMap_cons, List.flatMap_cons, ih (fun q hq => h q (List.mem_cons_of_mem _ hq)), toksB_eq (hSx _ (h p (List.mem_cons_self ..))).1]
    exact this HI fun p hp => by rw [hSd]; exact List.mem_map_of_mem hp
  have hWR : WRel B.out W' (bck S g1) := by
    refine ⟨fun b hb => ?_, fun b f hf => ?_, fun b hb => ?_⟩
    · rw [bck_out (fun h => by
        have h1 := (hSx b h).2
        rw [u1.fresh b hb] at h1
        cases h1)]
      exact u1.fresh b hb
    · by_cases h : b ∈ S
      · rw [bck_in h] at hf; cases hf
      · rw [bck_out h] at hf; exact u1.tl b f hf
    · rw [bck_out (hexS b hb)]
      exact u1.outT b (List.mem_append_right _ hb)
  have hUn : ∀ b, (toksL st a.tmps.toList).count b + (toksH W' (HI ++ Ho')).count b + B.out.count b ≤ 1 := fun b => by
    have h3 := u3 b
    rw [hex] at h3
    simp only [List.count_append] at h3
    rw [toksH_app, List.count_append, hTI]
    omega
  have hEv2 : Evol B.out B.w B.g W' (bck S g1) := by
    have hnS : ∀ b, g1 b ≠ .tail 0 → b ∉ S := fun b h hb => h (hSx b hb).2
    refine ⟨u6.os, u6.tape, u6.output, u6.size, fun b hb hi => ?_, fun b f c e fz h0 hf hc => ?_, fun b hb => ?_⟩
    · obtain ⟨z1, z2⟩ := u6.imm b hb hi
      exact ⟨z1, by rw [bck_out (hnS b (by rw [z2]; simp))]; exact z2⟩
    · obtain ⟨c', fz', z1, z2, z3⟩ := u6.tail b f c e fz h0 hf hc
      refine ⟨c', fz', z1, z2, ?_⟩
      rcases z3 with z3 | ⟨f', hle, z3⟩
      · exact .inl (by rw [bck_out (hnS b (by rw [z3]; simp))]; exact z3)
      · exact .inr ⟨f', hle, by rw [bck_out (hnS b (by rw [z3]; simp; omega))]; exact z3⟩
    · obtain ⟨z1, z2⟩ := u6.out b hb
      exact ⟨z1, by rw [bck_out (hexS b hb)]; exact z2⟩
  have hDs : Ds B.top [] W' (bck S g1) dq := by
    obtain ⟨M, e1, e2, e3⟩ := hD
    refine ⟨M, e1, e2, fun D hD => ?_⟩
    obtain ⟨q1, q2, q3⟩ := e3 D hD
    have hne : D ≠ B.l := fun e => by
      have := hS.hl
      rw [← e, q2] at this
      cases this
    obtain ⟨z1, z2⟩ := u5 D (lt_of_heap q2) hne (by rw [asd_out (hImm D q3)]; exact q3)
    exact ⟨q1, z1.trans q2, by rw [bck_out (hImm D q3)]; exact z2⟩
  have hSt : ∀ s', StB B s' W' g1 → StB B s' W' (bck S g1) := fun s' h => ⟨h.hl, by rw [bck_out (hImm _ hS.gl)]; exact h.gl, h.hD, by rw [bck_out (hImm _ hS.gD)]; exact h.gD⟩
  have hput : ∀ bv : Bool, Rel dq B.out (putSt st dst (.bool bv)) (HI ++ Ho') (a.put dst (.bool bv)) W' (bck S g1) := fun bv => by
    have hR0 : Rel dq B.out st (HI ++ Ho') a W' (bck S g1) := ⟨hWR, hR2, hv1, hUn, hR.df⟩
    refine ⟨hWR, hR2, VRl_put hv1 (by rfl), fun b => ?_, ?_⟩
    · have h1 := count_put_le b (a := a) (d := dst) (x := .bool bv) (v := .bool bv) hv1
      have e3 : toks (.bool bv) (.bool bv) = [] := rfl
      rw [e3, List.count_nil] at h1
      have := hUn b
      omega
    · have : (a.put dst (.bool bv)).defers = a.defers := by cases dst <;> rfl
      rw [this]
      exact hR.df
  rcases u7 with ⟨rfl, hj, hst⟩ | ⟨pe, hne, rfl, hj, hst⟩
  · exact hK none true Ho' _ _ _ (.inl ⟨rfl, rfl, hj⟩) (hput true) hEv2 (hSt _ hst) hDs
  · exact hK (some pe) false Ho' _ _ _ (.inr ⟨pe, hne, rfl, rfl, hj⟩) (hput false) hEv2 (hSt _ hst) hDs
def yieldK (P : Program) (B : Bs) (xs : List (List PV)) (J : List (List PV) → Heap → Prop) (Jx : List (List PV) → PExit → Heap → Prop) (Q : Option PExit → PPost) (y : POp) (yv : Arg) (args : List Arg) (ops2 : List POp) (st1 : List PV) (H1 : Heap) : Prop :=
  (goes y st1 = some false ∧ runM P ops2 (fun st' H' => Q none .normal st' H') (putSt st1 y.dst (.tup [])) H1) ∨
  (goes y st1 = some true ∧ ∃ HI Ho pre, H1 = HI ++ Ho ∧ arg st1 yv = .fn (.yield B.l) [] [] ∧ args.map (arg st1) ∈ xs ∧ pre.length < xs.length ∧ J pre Ho ∧
    (∀ Ho', J (pre ++ [args.map (arg st1)]) Ho' → runM P ops2 (fun st' H' => Q none .normal st' H') (putSt st1 y.dst (.bool true)) (HI ++ Ho')) ∧
    ∀ pe Ho', pe ≠ .normal → Jx (pre ++ [args.map (arg st1)]) pe Ho' → runM P ops2 (fun st' H' => Q (some pe) .normal st' H') (putSt st1 y.dst (.bool false)) (HI ++ Ho'))
theorem postX_in {Q : Option PExit → PPost} : ¬ LetsOut (PostX B Q) := by
  rintro ⟨a', w', s, pe, st', H', g', h, _⟩
  cases pe <;> cases h
theorem pwpE_yield {Q : Option PExit → PPost} {st : List PV} {H : Heap} {xs : List (List PV)} {J : List (List PV) → Heap → Prop} {Jx : List (List PV) → PExit → Heap → Prop} (hY : YieldOk P B xs J Jx) (n : Nat) {ops : List POp} {y : POp} {yv : Arg} {args : List Arg} (hn : ops[n]? = some y) (hyk : y.k = .callV yv args)
    (h : runM P (ops.take n) (yieldK P B xs J Jx Q y yv args (ops.drop (n + 1))) st H) : pwpE P B none (.region ops) Q st H := by
  rintro hh c hc a w g ⟨dq, hR, hD⟩ hE hS
  have hlt : n < ops.length := by
    by_cases hlt : n < ops.length
    · exact hlt
    · rw [List.getElem?_eq_none (by omega)] at hn; cases hn
  have hops : ops = ops.take n ++ y :: ops.drop (n + 1) := by
    have h1 := (List.take_append_drop n ops).symm
    rw [List.drop_eq_getElem_cons hlt] at h1
    have h2 : ops[n] = y := by rw [List.getElem?_eq_getElem hlt] at hn; exact Option.some.inj hn
    rw [h2] at h1
    exact h1
  have hlen : (ops.take n).length = n := by rw [List.length_take]; omega
  cases c <;> simp only [compC] at hc
  case region id os draw =>
    obtain ⟨ps, q1, hc⟩ := bind_spec hc
    split at hc
    · rcases compD_cases hc with ⟨_, _, hc⟩ | ⟨_, _, hc, _⟩ <;> cases hc
    · rename_i hd
      cases hc
      have hd : draw = false := by simpa using hd
      subst hd
      refine wpIn_region ?_
      rw [List.range_eq_range']
      have hcd : ∀ i (p1 p2 : List POp), ∀ j, compOps P hh os (os.toList.drop j) = some (p1 ++ p2) → i = j + p1.length → compOps P hh os (os.toList.drop i) = some p2 := by
        intro i p1
        induction p1 with
        | nil => intro p2 j hj e; rw [List.length_nil, Nat.add_zero] at e; subst e; exact hj
        | cons p p1 ih =>
          intro p2 j hj e
          rw [List.cons_append] at hj
          exact ih p2 (j + 1) (compOps_tail hj).2 (by rw [List.length_cons] at e; omega)
      have q1' : compOps P hh os (os.toList.drop 0) = some (ops.take n ++ y :: ops.drop (n + 1)) := by rw [← hops]; exact q1
      refine ops_prefix (hint := hh) postX_in (ops.take n) 0 q1' (runM_run h) hR ?_
      rintro a1 w1 ⟨st1, H1, g1, hy, hR1, hE1⟩
      rw [hlen, Nat.zero_add]
      have q2 := hcd n _ _ 0 q1' (by omega)
      obtain ⟨hlt2, q3⟩ := compOps_tail q2
      have hS1 := hS.evol hE1
      have hE2 := hE.trans hE1
      have hD1 : Ds B.top [] w1 g1 dq := hD.up hE1
      -- what is behind it
      have tail : ∀ (s' : Option PExit) (st2 : List PV) (H2 : Heap) (g2 : Ghost) (a2 : Act) (w2 : World), runM P (ops.drop (n + 1)) (fun st' H' => Q s' .normal st' H') st2 H2 → Rel dq B.out st2 H2 a2 w2 g2 → Evol B.out B.w B.g w2 g2 → StB B s' w2 g2 → Ds B.top [] w2 g2 dq →
          wpOpsIn (WR none) 1 P os (PostX B Q) (List.range' (n + 1) (os.size - (n + 1))) a2 w2 := by
        intro s' st2 H2 g2 a2 w2 hr r1 r2 r3 r4
        refine opsIn postX_in (.inl rfl) _ _ _ (ops_sound (os.size - (n + 1)) (n + 1) (by omega) q3 (runM_run hr) r1 ?_)
        rintro a3 w3 ⟨st3, H3, g3, z1, z2, z3⟩
        exact ⟨s', .normal, st3, H3, g3, rfl, z1, ⟨dq, z2, r4.up z3⟩, r2.trans z3, r3.evol z3⟩
      rw [show os.size - n = (os.size - (n + 1)) + 1 by omega, List.range'_succ, wpOpsIn_cons]
      have hdr : os.toList.drop n = os[n] :: os.toList.drop (n + 1) := by
        rw [List.drop_eq_getElem_cons (by exact hlt2)]
        rfl
      rw [hdr] at q2
      obtain ⟨k, hk, hc⟩ := bind_spec q2
      obtain ⟨gd, hgd, hc⟩ := bind_spec hc
      obtain ⟨ps', hps, hc⟩ := map_spec hc
      have ey := (List.cons.inj hc).1
      have ho : os[n]? = some os[n] := Array.getElem?_eq_getElem hlt2
      obtain ⟨w1', w2'⟩ := wanted_spec hgd hR1.tm
      unfold wpOpIn
      rw [ho]
      simp only
      subst ey
      simp only at hyk
      subst hyk
      rcases hy with ⟨hg, hr⟩ | ⟨hg, HI, Ho, pre, rfl, hyv, hx, hpl, hJ, hT, hF⟩
      · have hw : Region.wanted os[n] (yielded os a1.tmps) = false := by
          cases gd with
          | none => cases hg
          | some p =>
            obtain ⟨t, want⟩ := p
            simp only [goes] at hg
            cases e : gval (st1.getD t .unit) with
            | none => rw [e] at hg; cases hg
            | some b =>
              rw [e] at hg
              rw [w2' t want b rfl e]
              simpa using hg
        rw [if_neg (by rw [hw]; simp)]
        exact ⟨fun _ _ => trivial, tail none _ _ _ _ _ hr (put_rel hR1 _) hE2 hS1 hD1⟩
      · have hw : Region.wanted os[n] (yielded os a1.tmps) = true := by
          cases gd with
          | none => exact w1' rfl
          | some p =>
            obtain ⟨t, want⟩ := p
            simp only [goes] at hg
            cases e : gval (st1.getD t .unit) with
            | none => rw [e] at hg; cases hg
            | some b =>
              rw [e] at hg
              rw [w2' t want b rfl e]
              simpa using hg
        rw [if_pos hw]
        refine yield_op hY hk hR1 hE2 hS1 hD1 hyv hx hpl hJ ?_
        rintro s' bv Ho' g' a' w' (⟨rfl, rfl, hj⟩ | ⟨pe, hne, rfl, rfl, hj⟩) z1 z2 z3 z4
        · exact tail _ _ _ _ _ _ (hT _ hj) z1 z2 z3 z4
        · exact tail _ _ _ _ _ _ (hF _ _ hne hj) z1 z2 z3 z4
  case seq => obtain ⟨_, _, hc⟩ := bind_spec hc; obtain ⟨_, _, hc⟩ := map_spec hc; cases hc
  case cond => obtain ⟨_, _, hc⟩ := bind_spec hc; obtain ⟨_, _, hc⟩ := bind_spec hc; obtain ⟨_, _, hc⟩ := map_spec hc; cases hc
  case block => obtain ⟨_, _, hc⟩ := map_spec hc; cases hc
  case loop => obtain ⟨_, _, hc⟩ := map_spec hc; cases hc
  case rangeFunc => obtain ⟨_, _, hc⟩ := bind_spec hc; obtain ⟨_, _, hc⟩ := bind_spec hc; obtain ⟨_, _, hc⟩ := bind_spec hc; obtain ⟨_, hc⟩ := ite_spec hc; cases hc
  all_goals cases hc
def yieldM (P : Program) (B : Bs) (xs : List (List PV)) (J : List (List PV) → Heap → Prop) (Jx : List (List PV) → PExit → Heap → Prop) (Q : Option PExit → PPost) (y : POp) (yv : Arg) (args : List Arg) (ops2 : List POp) (st1 : List PV) (H1 : Heap) : Prop :=
  (goes y st1 = some false ∧ ∀ K : List PV → Heap → Prop, (∀ st' H', Q none .normal st' H' → K st' H') → runM P ops2 K (putSt st1 y.dst (.tup [])) H1) ∨
  (goes y st1 = some true ∧ ∃ HI Ho pre x, H1 = HI ++ Ho ∧ arg st1 yv = .fn (.yield B.l) [] [] ∧ args.map (arg st1) = x ∧ x ∈ xs ∧ pre.length < xs.length ∧ J pre Ho ∧
    (∀ Ho', J (pre ++ [x]) Ho' → ∀ K : List PV → Heap → Prop, (∀ st' H', Q none .normal st' H' → K st' H') → runM P ops2 K (putSt st1 y.dst (.bool true)) (HI ++ Ho')) ∧
    ∀ pe Ho', pe ≠ .normal → Jx (pre ++ [x]) pe Ho' → ∀ K : List PV → Heap → Prop, (∀ st' H', Q (some pe) .normal st' H' → K st' H') → runM P ops2 K (putSt st1 y.dst (.bool false)) (HI ++ Ho'))
theorem pwpE_yieldM {Q : Option PExit → PPost} {st : List PV} {H : Heap} {xs : List (List PV)} {J : List (List PV) → Heap → Prop} {Jx : List (List PV) → PExit → Heap → Prop} (hY : YieldOk P B xs J Jx) (n : Nat) {ops : List POp} {y : POp} {yv : Arg} {args : List Arg} (hn : ops[n]? = some y) (hyk : y.k = .callV yv args)
    (h : ∀ K : List PV → Heap → Prop, (∀ st1 H1, yieldM P B xs J Jx Q y yv args (ops.drop (n + 1)) st1 H1 → K st1 H1) → runM P (ops.take n) K st H) : pwpE P B none (.region ops) Q st H := by
  refine pwpE_yield hY n hn hyk (h _ fun st1 H1 hy => ?_)
  rcases hy with ⟨h1, h2⟩ | ⟨h1, HI, Ho, pre, x, h2, h3, rfl, h4, h5, h6, h7, h8⟩
  · exact .inl ⟨h1, h2 _ fun _ _ h => h⟩
  · exact .inr ⟨h1, HI, Ho, pre, h2, h3, h4, h5, h6, fun Ho' hj => h7 Ho' hj _ fun _ _ h => h, fun pe Ho' hp hj => h8 pe Ho' hp hj _ fun _ _ h => h⟩
theorem iter_of_body {h : Hint} {f : Nat} {p : PFn} {caps : List PV} {HI : Heap} {xs : List (List PV)} (hf : compF P h f = some p)
    (hb : ∀ (B : Bs) (J : List (List PV) → Heap → Prop) (Jx : List (List PV) → PExit → Heap → Prop) (Ho : Heap), YieldOk P B xs J Jx → J [] Ho →
      pwpE P B none p.body (fun s e st' H' => (e = .normal ∨ e = .ret) ∧ ∃ rs H2, resL st' H' p.res = some rs ∧ H2.Sublist H' ∧ match s with | none => J xs H2 | some pe => pe ≠ .normal ∧ ∃ pre, pre <+: xs ∧ Jx pre pe H2)
        (.fn (.yield B.l) [] [] :: lendL caps ++ List.replicate (p.ntmps - (caps.length + 1)) .unit) (HI ++ Ho)) : IterG P f caps HI xs := by
  unfold compF at hf
  obtain ⟨fn, hfn, hf⟩ := bind_spec hf
  obtain ⟨c, hbody, hf⟩ := bind_spec hf
  obtain ⟨b, hcomp, hf⟩ := bind_spec hf
  obtain ⟨rs, hrs, hf⟩ := bind_spec hf
  obtain ⟨⟨hcall, hnd⟩, hf⟩ := ite_spec hf
  cases hf
  refine ⟨hcall, fun B w g vals0 Ho J Jx hw hH hu hEv hsz hS ha0 hY hJ => ?_⟩
  obtain ⟨vals, hvals⟩ : ∃ vals, vals = #[Value.func (.yield B.l) #[] #[]] ++ vals0 := ⟨_, rfl⟩
  have ha : VRl false w g (.fn (.yield B.l) [] [] :: caps) vals.toList := by
    rw [hvals, Array.toList_append]
    exact ⟨_, _, rfl, ⟨#[], #[], rfl, rfl, rfl⟩, ha0⟩
  rw [← hvals]
  have hal := VRl_length ha
  have hlc : (PV.fn (.yield B.l) [] [] :: caps).length = caps.length + 1 := rfl
  have htm : (vals ++ Array.replicate (fn.ntmps - vals.size) undef).toList = vals.toList ++ List.replicate (fn.ntmps - (caps.length + 1)) undef := by
    rw [Array.toList_append, Array.toList_replicate]
    have : vals.toList.length = vals.size := rfl
    rw [← hlc, ← hal, this]
  have htk : toksL (lendL (PV.fn (.yield B.l) [] [] :: caps)) vals.toList = [] := toksL_lend _ _
  have hR : Rel [] B.out (lendL (.fn (.yield B.l) [] [] :: caps) ++ List.replicate (fn.ntmps - (caps.length + 1)) .unit) (HI ++ Ho) { tmps := vals ++ Array.replicate (fn.ntmps - vals.size) undef, defers := [] } w g := by
    refine ⟨hw, hH, ?_, fun b => ?_, rfl⟩
    · rw [htm]
      exact VRl_append (VRl_lend _ _ ha) (VRl_unit _ _ (by simp))
    · show (toksL _ (vals ++ Array.replicate (fn.ntmps - vals.size) undef).toList).count b + _ + _ ≤ 1
      rw [htm, toksL_append _ _ _ _ (by rw [hal, lendL_eq_map, List.length_map]), toksL_unit, List.append_nil, htk, List.count_nil]
      have := hu b
      omega
  refine calls_WR ((callsIn_wide (n := 1)).1 (callsIn_of_wp_marks hfn hbody trivial (wpIn_mono (hb B J Jx Ho hY hJ h c hcomp _ w g ⟨[], hR, Ds.refl _ _ _ _⟩ hEv hS) ?_)))
  rintro e a' w1 ⟨s, pe, st', H', g', rfl, ⟨he, rsv, H2, hres, hsub, hQ⟩, ⟨dq', hR1, ⟨M, hM1, hM2, hM3⟩⟩, hE1, hS1⟩
  have hdf : a'.defers = M.map mark := by rw [hR1.df, hM1, List.append_nil]
  have hfin : ∀ w', Aside B.top.heap.size w1 w' → ∃ v, (results fn a'.tmps).run P w' = .ok v w' ∧ (∃ v2, Ending.returned v = .returned v2) ∧ ∃ s g' H', WRel B.out w' g' ∧ HRel w' g' H' ∧ (∀ b, (toksH w' H').count b + B.out.count b ≤ 1) ∧ Evol B.out B.w B.g w' g' ∧ StB B s w' g' ∧
      match s with
      | none => J xs H'
      | some pe => pe ≠ .normal ∧ ∃ pre, pre <+: xs ∧ Jx pre pe H' := by
    intro w' hA
    have hR' := hA.rel hR1
    have hlow : ∀ b, b < B.w.heap.size → w'.heap[b]? = w1.heap[b]? := fun b hb => hA.low b (by rw [Bs.top_size]; omega) (Nat.lt_of_lt_of_le hb hE1.size)
    have hE : Evol B.out B.w B.g w' g' := by
      refine ⟨hA.os.trans hE1.os, hA.tape.trans hE1.tape, hA.output.trans hE1.output, Nat.le_trans hE1.size hA.size, fun b hb hi => ?_, fun b f c e fz h0 hf hc => ?_, fun b hb => ?_⟩
      · obtain ⟨k1, k2⟩ := hE1.imm b hb hi
        exact ⟨(hlow b hb).trans k1, k2⟩
      · obtain ⟨c', fz', k1, k2, k3⟩ := hE1.tail b f c e fz h0 hf hc
        exact ⟨c', fz', (hA.cells b _ _ _ k1).trans k1, k2, k3⟩
      · obtain ⟨k1, k2⟩ := hE1.out b hb
        obtain ⟨f, hf⟩ := hR1.wr.outT b hb
        obtain ⟨c, e, hc, _⟩ := hR1.wr.tl b f hf
        exact ⟨(hA.cells b _ _ _ hc).trans k1, k2⟩
    have hSS : StB B s w' g' := ⟨(hA.low _ (by rw [Bs.top_size]; omega) (lt_of_heap hS1.hl)).trans hS1.hl, hS1.gl, (hA.low _ (by rw [Bs.top_size]; omega) (lt_of_heap hS1.hD)).trans hS1.hD, hS1.gD⟩
    obtain ⟨us, u1, u2, u3⟩ := resL_spec (P := P) hR'.tm hR'.hp hrs hres
    obtain ⟨s1, s2⟩ := sub_HRel hsub hR'.hp
    have hmap : (fn.results.mapM (resSem a'.tmps)).run P w' = .ok us.toArray w' := by
      rw [Array.mapM_eq_mapM_toList]
      simp only [Sem.run_map, u1, Result.andThen_ok]
    rw [results_eq]
    simp only [Sem.run_bind, hmap, Result.andThen_ok, Sem.run_pure]
    refine ⟨_, rfl, ⟨_, rfl⟩, s, g', H2, hR'.wr, s1, fun b => ?_, hE, hSS, by cases s <;> exact hQ⟩
    have q1 := s2 b
    have q2 := hR'.un b
    omega
  rcases he with rfl | rfl
  · show LeavesInM _ _ _ _ a'.tmps _ a'.defers .returning w1
    rw [hdf]
    exact leaves_marks M w1 hM2 (fun D hD => ⟨(hM3 D hD).1, (hM3 D hD).2.1⟩) hfin
  · show LeavesInM _ _ _ _ a'.tmps _ a'.defers .returning w1
    rw [hdf]
    exact leaves_marks M w1 hM2 (fun D hD => ⟨(hM3 D hD).1, (hM3 D hD).2.1⟩) hfin
theorem iter_of {h : Hint} {f : Nat} {p : PFn} {caps : List PV} {HI : Heap} {xs : List (List PV)} (hf : compF P h f = some p) (hl : caps.length + 1 ≤ p.ntmps)
    (hb : ∀ (B : Bs) (J : List (List PV) → Heap → Prop) (Jx : List (List PV) → PExit → Heap → Prop) (Ho : Heap), YieldOk P B xs J Jx → J [] Ho →
      pwpE P B none p.body (fun s e st' H' => (e = .normal ∨ e = .ret) ∧ ∃ rs H2, resL st' H' p.res = some rs ∧ H2.Sublist H' ∧ match s with | none => J xs H2 | some pe => pe ≠ .normal ∧ ∃ pre, pre <+: xs ∧ Jx pre pe H2)
        (MS p.ntmps (idxA 0 (.fn (.yield B.l) [] [] :: lendL caps))) (HI ++ Ho)) : IterG P f caps HI xs := by
  refine iter_of_body hf fun B J Jx Ho hY hJ => ?_
  have h1 := hb B J Jx Ho hY hJ
  have hlc : (PV.fn (.yield B.l) [] [] :: lendL caps).length = caps.length + 1 := by rw [List.length_cons, lendL_eq_map, List.length_map]
  rw [← init_MS (by rw [hlc]; exact hl), hlc] at h1
  exact h1
end
end Go.Proofs.YtjcjbpbkakfjdaaDoor.E
