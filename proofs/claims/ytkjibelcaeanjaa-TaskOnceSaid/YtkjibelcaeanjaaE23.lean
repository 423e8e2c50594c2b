/- A logic of plain values, part 23: .. (2): any order that the edges leave comes to the same. -/
import Derived.Test.YtkjibelcaeanjaaE22
namespace Go.Proofs.Ytkjibelcaeanjaa.E
open Go Go.RowKit
set_option linter.unusedVariables false
set_option linter.unusedSimpArgs false
abbrev Uses := List (Nat × Nat × Nat × Nat)
/-- An operation of a drawing region, the i-th, with what was read of the blocks ahead of it (rd) and written (wr); late: pairs of a load and a store that no edge orders. -/
def planOp (P : Program) (late : List (Nat × Nat)) (op : POp) (i : Nat) (rd wr : Uses) (K : Uses → Uses → List PV → Heap → Prop) (st : List PV) (H : Heap) : Prop :=
  match op.k with
  | .al _ => False
  | .bx _ _ => False
  | .ld sz ag true x => ∃ b off cs r, arg st x = .ptr (some (b, off)) ∧ hget H b = some cs ∧ partP sz ag cs off = some r ∧ off + sz ≤ cs.length ∧
      (∀ e ∈ rd, (e.1, i) ∈ late → apartC e.2 (b, off, sz)) ∧
      K rd ((i, b, off, sz) :: wr) (putSt st op.dst r) (hset H b (cs.take off ++ lendL ((cs.drop off).take sz) ++ cs.drop (off + sz)))
  | .mk _ _ _ _ _ _ true => False
  | .bsl _ _ _ _ _ true => False
  | .sto sz x v => ∃ b off cs, arg st x = .ptr (some (b, off)) ∧ hget H b = some cs ∧ (cellsOf (argT st v)).length = sz ∧ off + sz ≤ cs.length ∧ (cellsOf (argT st v)).all PV.isCell = true ∧
      (∀ e ∈ rd, (e.1, i) ∈ late → apartC e.2 (b, off, sz)) ∧
      K rd ((i, b, off, sz) :: wr) (putSt (takeAt st v) op.dst .unit) (hset H b (cs.take off ++ cellsOf (argT st v) ++ cs.drop (off + sz)))
  | .appR _ _ _ _ _ => False
  | .clr _ _ _ => False
  | .cap _ => False
  | .cpy sz x y => ∃ b off n cap cs ys m, arg st x = .row b off n cap ∧ hget H b = some cs ∧ off + n * sz ≤ cs.length ∧ cellsY sz H (arg st y) = some (ys, m) ∧
      K rd wr (putSt st op.dst (.int .i64 (min m n : Nat))) (hset H b (cs.take off ++ ys.take (min m n * sz) ++ cs.drop (off + min m n * sz)))
  | .callF n as tk => ∃ r, PSpec P n (callArgs st as tk) r ∧ K rd wr (putSt (callTake st as tk) op.dst r) H
  | .callV fx as => ∃ n first cap r, arg st fx = .fn (.func n) first cap ∧ PSpec P n (lendL first ++ as.map (arg st) ++ lendL cap) r ∧ K rd wr (putSt st op.dst r) H
  | k => ∃ r, pev st H k = some r ∧ (∀ c, ldCells st k = some c → ∀ e ∈ wr, (i, e.1) ∈ late → apartC c e.2) ∧
      K (match ldCells st k with | some c => (i, c) :: rd | none => rd) wr (putSt (ptake st k) op.dst r) H
/-- The operations of a drawing region one behind the other. -/
def planOps (P : Program) (late : List (Nat × Nat)) : List POp → Nat → Uses → Uses → (List PV → Heap → Prop) → List PV → Heap → Prop
  | [], _, _, _, K, st, H => K st H
  | op :: ops, i, rd, wr, K, st, H =>
    match op.gd with
    | none => planOp P late op i rd wr (fun rd' wr' st' H' => planOps P late ops (i + 1) rd' wr' K st' H') st H
    | some (t, want) => ∃ b, gval (st.getD t .unit) = some b ∧
        if b = some want then planOp P late op i rd wr (fun rd' wr' st' H' => planOps P late ops (i + 1) rd' wr' K st' H') st H else planOps P late ops (i + 1) rd wr K (putSt st op.dst (.tup [])) H
abbrev Trc := List ((List PV → List PV) × Heap)
def stAt (tr : Trc) (st : List PV) (i : Nat) : List PV := (tr.take i).foldl (fun s p => p.1 s) st
def hpAt : Trc → Heap → Nat → Heap
  | _, H, 0 => H
  | [], H, _ + 1 => H
  | p :: tr, _, i + 1 => hpAt tr p.2 i
def stCells (st : List PV) : PK → Option (Nat × Nat × Nat)
  | .sto sz x _ => match arg st x with
    | .ptr (some (b, off)) => some (b, off, sz)
    | _ => none
  | .ld sz _ true x => match arg st x with
    | .ptr (some (b, off)) => some (b, off, sz)
    | _ => none
  | _ => none
/-- What a trace says. -/
structure Told (P : Program) (late : List (Nat × Nat)) (ops : List POp) (i : Nat) (rd wr : Uses) (K : List PV → Heap → Prop) (st : List PV) (H : Heap) (tr : Trc) : Prop where
  len : tr.length = ops.length
  ev : ∀ k op, ops[k]? = some op → ∃ f H', tr[k]? = some (f, H') ∧ Ev P op (stAt tr st k) (hpAt tr H k) f H'
  fin : K (stAt tr st ops.length) (hpAt tr H ops.length)
  rd : ∀ e ∈ rd, ∀ s op, ops[s]? = some op → liveAt (stAt tr st s) op → ∀ d, stCells (stAt tr st s) op.k = some d → (e.1, i + s) ∈ late → apartC e.2 d
  wr : ∀ e ∈ wr, ∀ k op, ops[k]? = some op → liveAt (stAt tr st k) op → ∀ c, ldCells (stAt tr st k) op.k = some c → (i + k, e.1) ∈ late → apartC c e.2
  pr : ∀ k s op op', ops[k]? = some op → ops[s]? = some op' → liveAt (stAt tr st k) op → liveAt (stAt tr st s) op' → ∀ c d, ldCells (stAt tr st k) op.k = some c → stCells (stAt tr st s) op'.k = some d → (i + k, i + s) ∈ late → apartC c d
theorem stAt_succ (p : (List PV → List PV) × Heap) (tr : Trc) (st : List PV) (k : Nat) : stAt (p :: tr) st (k + 1) = stAt tr (p.1 st) k := by simp [stAt]
theorem told_cons {P : Program} {late : List (Nat × Nat)} {op : POp} {ops : List POp} {i : Nat} {rd wr rd' wr' : Uses} {K : List PV → Heap → Prop} {st : List PV} {H H' : Heap} {f : List PV → List PV} {tr : Trc}
    (hE : Ev P op st H f H') (hT : Told P late ops (i + 1) rd' wr' K (f st) H' tr) (hrd : ∀ e ∈ rd, e ∈ rd') (hwr : ∀ e ∈ wr, e ∈ wr')
    (hl : liveAt st op → ∀ c, ldCells st op.k = some c → (i, c) ∈ rd' ∧ ∀ e ∈ wr, (i, e.1) ∈ late → apartC c e.2)
    (hs : liveAt st op → ∀ d, stCells st op.k = some d → (i, d) ∈ wr' ∧ ∀ e ∈ rd, (e.1, i) ∈ late → apartC e.2 d) : Told P late (op :: ops) i rd wr K st H ((f, H') :: tr) := by
  have eq : ∀ k, i + (k + 1) = i + 1 + k := fun k => by omega
  refine ⟨by simp [hT.len], fun k o ho => ?_, ?_, fun e he s o ho hlv d hd hlt => ?_, fun e he k o ho hlv c hc hlt => ?_, fun k s o o' ho ho' hlk hls c d hc hd hlt => ?_⟩
  · cases k with
    | zero =>
      simp at ho
      subst ho
      exact ⟨f, H', rfl, hE⟩
    | succ k =>
      obtain ⟨f2, H2, q1, q2⟩ := hT.ev k o (by simpa using ho)
      exact ⟨f2, H2, by simpa using q1, by rw [stAt_succ]; exact q2⟩
  · have := hT.fin
    rw [List.length_cons, stAt_succ]
    exact this
  · cases s with
    | zero =>
      simp at ho
      subst ho
      exact (hs hlv d hd).2 e he (by simpa using hlt)
    | succ s =>
      rw [stAt_succ] at hlv hd
      exact hT.rd e (hrd e he) s o (by simpa using ho) hlv d hd (by rw [← eq]; exact hlt)
  · cases k with
    | zero =>
      simp at ho
      subst ho
      exact (hl hlv c hc).2 e he (by simpa using hlt)
    | succ k =>
      rw [stAt_succ] at hlv hc
      exact hT.wr e (hwr e he) k o (by simpa using ho) hlv c hc (by rw [← eq]; exact hlt)
  · cases k with
    | zero =>
      simp at ho
      subst ho
      cases s with
      | zero =>
        simp at ho'
        subst ho'
        -- no operation is both
        exfalso
        unfold ldCells at hc
        unfold stCells at hd
        split at hc
        · rename_i e
          rw [e] at hd
          cases hd
        · cases hc
      | succ s =>
        rw [stAt_succ] at hls hd
        exact hT.rd (i, c) (hl hlk c hc).1 s o' (by simpa using ho') hls d hd (by rw [← eq]; simpa using hlt)
    | succ k =>
      rw [stAt_succ] at hlk hc
      cases s with
      | zero =>
        simp at ho'
        subst ho'
        exact hT.wr (i, d) (hs hls d hd).1 k o (by simpa using ho) hlk c hc (by rw [← eq]; simpa using hlt)
      | succ s =>
        rw [stAt_succ] at hls hd
        exact hT.pr k s o o' (by simpa using ho) (by simpa using ho') hlk hls c d hc hd (by rw [← eq, ← eq]; exact hlt)
theorem plan_told {P : Program} {late : List (Nat × Nat)} {K : List PV → Heap → Prop} : ∀ {ops : List POp} {i : Nat} {rd wr : Uses} {st : List PV} {H : Heap}, planOps P late ops i rd wr K st H → ∃ tr, Told P late ops i rd wr K st H tr
  | [], i, rd, wr, st, H, h => ⟨[], rfl, fun k op e => by simp at e, h, fun _ _ _ _ e => by simp at e, fun _ _ _ _ e => by simp at e, fun _ _ _ _ e => by simp at e⟩
  | op :: ops, i, rd, wr, st, H, h => by
    obtain ⟨d, gd, k⟩ := op
    -- the operation itself
    have go : ∀ (hlive : liveAt st ⟨d, gd, k⟩) (hEv : ∀ f H', Ev0 P ⟨d, gd, k⟩ st H f H' → Ev P ⟨d, gd, k⟩ st H f H'),
        planOp P late ⟨d, gd, k⟩ i rd wr (fun rd' wr' st' H' => planOps P late ops (i + 1) rd' wr' K st' H') st H → ∃ tr, Told P late (⟨d, gd, k⟩ :: ops) i rd wr K st H tr := by
      intro hlive hEv hg
      unfold planOp at hg
      have pure_ : (∀ f H', (∃ r, pev st H k = some r ∧ f = (fun s => putSt (ptake s k) d r) ∧ H' = H) → Ev0 P ⟨d, gd, k⟩ st H f H') → (∀ c, stCells st k ≠ some c) →
          (∃ r, pev st H k = some r ∧ (∀ c, ldCells st k = some c → ∀ e ∈ wr, (i, e.1) ∈ late → apartC c e.2) ∧
              planOps P late ops (i + 1) (match ldCells st k with | some c => (i, c) :: rd | none => rd) wr K (putSt (ptake st k) d r) H) → ∃ tr, Told P late (⟨d, gd, k⟩ :: ops) i rd wr K st H tr := by
        rintro hq hns ⟨r, q1, q2, q3⟩
        obtain ⟨tr, hT⟩ := plan_told q3
        refine ⟨_, told_cons (f := fun s => putSt (ptake s k) d r) (hEv _ _ (hq _ _ ⟨r, q1, rfl, rfl⟩)) hT (fun e he => ?_) (fun _ h => h) (fun _ c hc => ⟨?_, q2 c hc⟩) (fun _ c hc => absurd hc (hns c))⟩
        · cases hl : ldCells st k with
          | none => rw [hl] at hT; exact he
          | some c => simp [he]
        · simp only at hc
          rw [hc]
          simp
      cases k with
      | al z => exact hg.elim
      | bx s x => exact hg.elim
      | appR s b z x y => exact hg.elim
      | clr s z x => exact hg.elim
      | cap x => exact hg.elim
      | cpy s x y =>
        obtain ⟨b, off, n, cap, cs, ys, m, q1, q2, q3, q4, q5⟩ := hg
        obtain ⟨tr, hT⟩ := plan_told q5
        exact ⟨_, told_cons (f := fun s => putSt s d (.int .i64 (min m n : Nat))) (hEv _ _ ⟨b, off, n, cap, cs, ys, m, q1, q2, q3, q4, rfl, rfl⟩) hT (fun _ h => h) (fun _ h => h) (fun _ c hc => by simp [ldCells] at hc) (fun _ c hc => by simp [stCells] at hc)⟩
      | ld s ag tk x =>
        cases tk with
        | true =>
          obtain ⟨b, off, cs, r, q1, q2, q3, q4, q5, q6⟩ := hg
          obtain ⟨tr, hT⟩ := plan_told q6
          refine ⟨_, told_cons (f := fun s => putSt s d r) (hEv _ _ ⟨b, off, cs, r, q1, q2, q3, q4, rfl, rfl⟩) hT (fun _ h => h) (fun _ h => by simp [h]) (fun _ c hc => by simp [ldCells] at hc) (fun _ c hc => ?_)⟩
          simp only [stCells, q1, Option.some.injEq] at hc
          subst hc
          exact ⟨by simp, q5⟩
        | false => exact pure_ (fun f H' h => h) (fun c e => by simp [stCells] at e) hg
      | mk s b ag z l c mu =>
        cases mu with
        | true => exact hg.elim
        | false => exact pure_ (fun f H' h => h) (fun c e => by simp [stCells] at e) hg
      | bsl s n ag z ps mu =>
        cases mu with
        | true => exact hg.elim
        | false => exact pure_ (fun f H' h => h) (fun c e => by simp [stCells] at e) hg
      | sto s x v =>
        obtain ⟨b, off, cs, q1, q2, q3, q4, q5, q6, q7⟩ := hg
        obtain ⟨tr, hT⟩ := plan_told q7
        refine ⟨_, told_cons (f := fun s => putSt (takeAt s v) d .unit) (hEv _ _ ⟨b, off, cs, q1, q2, q3, q4, q5, rfl, rfl⟩) hT (fun _ h => h) (fun _ h => by simp [h]) (fun _ c hc => by simp [ldCells] at hc) (fun _ c hc => ?_)⟩
        simp only [stCells, q1, Option.some.injEq] at hc
        subst hc
        exact ⟨by simp, q6⟩
      | callF n xs tk =>
        obtain ⟨r, q1, q2⟩ := hg
        obtain ⟨tr, hT⟩ := plan_told q2
        exact ⟨_, told_cons (f := fun s => putSt (callTake s xs tk) d r) (hEv _ _ ⟨r, q1, rfl, rfl⟩) hT (fun _ h => h) (fun _ h => h) (fun _ c hc => by simp [ldCells] at hc) (fun _ c hc => by simp [stCells] at hc)⟩
      | callV fx xs =>
        obtain ⟨n, first, cap, r, q1, q2, q3⟩ := hg
        obtain ⟨tr, hT⟩ := plan_told q3
        exact ⟨_, told_cons (f := fun s => putSt s d r) (hEv _ _ ⟨n, first, cap, r, q1, q2, rfl, rfl⟩) hT (fun _ h => h) (fun _ h => h) (fun _ c hc => by simp [ldCells] at hc) (fun _ c hc => by simp [stCells] at hc)⟩
      | _ => exact pure_ (fun f H' h => h) (fun c e => by simp [stCells] at e) hg
    unfold planOps at h
    cases gd with
    | none => exact go trivial (fun f H' h => h) h
    | some p =>
      obtain ⟨t, want⟩ := p
      obtain ⟨b, hb, h⟩ := h
      by_cases hbw : b = some want
      · subst hbw
        rw [if_pos rfl] at h
        exact go hb (fun f H' h => ⟨_, hb, by rw [if_pos rfl]; exact h⟩) h
      · rw [if_neg hbw] at h
        obtain ⟨tr, hT⟩ := plan_told h
        have hnl : ¬ liveAt st ⟨d, some (t, want), k⟩ := fun hl => by
          simp only [liveAt, hb, Option.some.injEq] at hl
          exact hbw hl
        exact ⟨_, told_cons (f := fun s => putSt s d (.tup [])) ⟨b, hb, by rw [if_neg hbw]; exact ⟨rfl, rfl⟩⟩ hT (fun _ h => h) (fun _ h => h) (fun hl => absurd hl hnl) (fun hl => absurd hl hnl)⟩
end Go.Proofs.Ytkjibelcaeanjaa.E
