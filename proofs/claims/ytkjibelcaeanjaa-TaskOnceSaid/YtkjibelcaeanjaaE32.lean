/- A logic of plain values, part 32: regions whose order is drawn, that store. -/
import Derived.Test.YtkjibelcaeanjaaE31
namespace Go.Proofs.Ytkjibelcaeanjaa.E
open Go Go.RowKit
set_option linter.unusedVariables false
set_option linter.unusedSimpArgs false
def planS (P : Program) (late : List (Nat × Nat)) : List POp → Nat → Uses → Uses → (List PV → Heap → Prop) → List PV → Heap → Prop
  | [], _, _, _, K, st, H => K st H
  | op :: ops, i, rd, wr, K, st, H =>
    match goes op st with
    | none => False
    | some false => planS P late ops (i + 1) rd wr K (putSt st op.dst (.tup [])) H
    | some true => match op.k with
      | .sto sz x v => match arg st x with
        | .ptr (some (b, off)) => match hget H b with
          | some cs => (cellsOf (argT st v)).length = sz ∧ off + sz ≤ cs.length ∧ (cellsOf (argT st v)).all PV.isCell = true ∧ (∀ e ∈ rd, (e.1, i) ∈ late → apartC e.2 (b, off, sz)) ∧
              planS P late ops (i + 1) rd ((i, b, off, sz) :: wr) K (putSt (takeAt st v) op.dst .unit) (hset H b (cs.take off ++ cellsOf (argT st v) ++ cs.drop (off + sz)))
          | none => False
        | _ => False
      | .ld sz ag true x => match arg st x with
        | .ptr (some (b, off)) => match hget H b with
          | some cs => match partP sz ag cs off with
            | some r => off + sz ≤ cs.length ∧ (∀ e ∈ rd, (e.1, i) ∈ late → apartC e.2 (b, off, sz)) ∧
                planS P late ops (i + 1) rd ((i, b, off, sz) :: wr) K (putSt st op.dst r) (hset H b (cs.take off ++ lendL ((cs.drop off).take sz) ++ cs.drop (off + sz)))
            | none => False
          | none => False
        | _ => False
      | .cpy sz x y => cpyB sz (arg st x) (arg st y) (fun v H' => planS P late ops (i + 1) rd wr K (putSt st op.dst v) H') H
      | .callF f args tk => ∃ r, PSpec P f (callArgs st args tk) r ∧ planS P late ops (i + 1) rd wr K (putSt (callTake st args tk) op.dst r) H
      | .callV fx args => match arg st fx with
        | .fn (.func f) first cap => ∃ r, PSpec P f (lendL first ++ args.map (arg st) ++ lendL cap) r ∧ planS P late ops (i + 1) rd wr K (putSt st op.dst r) H
        | _ => False
      | k => match pev st H k with
        | some r => match ldCells st k with
          | some c => (∀ e ∈ wr, (i, e.1) ∈ late → apartC c e.2) ∧ planS P late ops (i + 1) ((i, c) :: rd) wr K (putSt (ptake st k) op.dst r) H
          | none => planS P late ops (i + 1) rd wr K (putSt (ptake st k) op.dst r) H
        | none => False
def planSB (P : Program) (late : List (Nat × Nat)) (op : POp) (ops : List POp) (i : Nat) (rd wr : Uses) (K : List PV → Heap → Prop) (st : List PV) (H : Heap) : Prop :=
  match goes op st with
  | none => False
  | some false => planS P late ops (i + 1) rd wr K (putSt st op.dst (.tup [])) H
  | some true => match op.k with
    | .sto sz x v => match arg st x with
      | .ptr (some (b, off)) => match hget H b with
        | some cs => (cellsOf (argT st v)).length = sz ∧ off + sz ≤ cs.length ∧ (cellsOf (argT st v)).all PV.isCell = true ∧ (∀ e ∈ rd, (e.1, i) ∈ late → apartC e.2 (b, off, sz)) ∧
            planS P late ops (i + 1) rd ((i, b, off, sz) :: wr) K (putSt (takeAt st v) op.dst .unit) (hset H b (cs.take off ++ cellsOf (argT st v) ++ cs.drop (off + sz)))
        | none => False
      | _ => False
    | .ld sz ag true x => match arg st x with
      | .ptr (some (b, off)) => match hget H b with
        | some cs => match partP sz ag cs off with
          | some r => off + sz ≤ cs.length ∧ (∀ e ∈ rd, (e.1, i) ∈ late → apartC e.2 (b, off, sz)) ∧
              planS P late ops (i + 1) rd ((i, b, off, sz) :: wr) K (putSt st op.dst r) (hset H b (cs.take off ++ lendL ((cs.drop off).take sz) ++ cs.drop (off + sz)))
          | none => False
        | none => False
      | _ => False
    | .cpy sz x y => cpyB sz (arg st x) (arg st y) (fun v H' => planS P late ops (i + 1) rd wr K (putSt st op.dst v) H') H
    | .callF f args tk => ∃ r, PSpec P f (callArgs st args tk) r ∧ planS P late ops (i + 1) rd wr K (putSt (callTake st args tk) op.dst r) H
    | .callV fx args => match arg st fx with
      | .fn (.func f) first cap => ∃ r, PSpec P f (lendL first ++ args.map (arg st) ++ lendL cap) r ∧ planS P late ops (i + 1) rd wr K (putSt st op.dst r) H
      | _ => False
    | k => match pev st H k with
      | some r => match ldCells st k with
        | some c => (∀ e ∈ wr, (i, e.1) ∈ late → apartC c e.2) ∧ planS P late ops (i + 1) ((i, c) :: rd) wr K (putSt (ptake st k) op.dst r) H
        | none => planS P late ops (i + 1) rd wr K (putSt (ptake st k) op.dst r) H
      | none => False
theorem planS_nil {P : Program} {late : List (Nat × Nat)} {i : Nat} {rd wr : Uses} {K : List PV → Heap → Prop} {st : List PV} {H : Heap} : planS P late [] i rd wr K st H = K st H := by rw [planS]
theorem planS_cons {P : Program} {late : List (Nat × Nat)} {op : POp} {ops : List POp} {i : Nat} {rd wr : Uses} {K : List PV → Heap → Prop} {st : List PV} {H : Heap} : planS P late (op :: ops) i rd wr K st H = planSB P late op ops i rd wr K st H := by
  rw [planS]
  rfl
section
variable {P : Program} {Q : PPost} {st : List PV} {H : Heap}
theorem planS_plan {late : List (Nat × Nat)} {K : List PV → Heap → Prop} : ∀ {ops : List POp} {i : Nat} {rd wr : Uses} {st : List PV} {H : Heap}, planS P late ops i rd wr K st H → planOps P late ops i rd wr K st H
  | [], i, rd, wr, st, H, h => h
  | op :: ops, i, rd, wr, st, H, h => by
    have step : (match op.k with
      | .sto sz x v => match arg st x with
        | .ptr (some (b, off)) => match hget H b with
          | some cs => (cellsOf (argT st v)).length = sz ∧ off + sz ≤ cs.length ∧ (cellsOf (argT st v)).all PV.isCell = true ∧ (∀ e ∈ rd, (e.1, i) ∈ late → apartC e.2 (b, off, sz)) ∧
              planS P late ops (i + 1) rd ((i, b, off, sz) :: wr) K (putSt (takeAt st v) op.dst .unit) (hset H b (cs.take off ++ cellsOf (argT st v) ++ cs.drop (off + sz)))
          | none => False
        | _ => False
      | .ld sz ag true x => match arg st x with
        | .ptr (some (b, off)) => match hget H b with
          | some cs => match partP sz ag cs off with
            | some r => off + sz ≤ cs.length ∧ (∀ e ∈ rd, (e.1, i) ∈ late → apartC e.2 (b, off, sz)) ∧
                planS P late ops (i + 1) rd ((i, b, off, sz) :: wr) K (putSt st op.dst r) (hset H b (cs.take off ++ lendL ((cs.drop off).take sz) ++ cs.drop (off + sz)))
            | none => False
          | none => False
        | _ => False
      | .cpy sz x y => cpyB sz (arg st x) (arg st y) (fun v H' => planS P late ops (i + 1) rd wr K (putSt st op.dst v) H') H
      | .callF f args tk => ∃ r, PSpec P f (callArgs st args tk) r ∧ planS P late ops (i + 1) rd wr K (putSt (callTake st args tk) op.dst r) H
      | .callV fx args => match arg st fx with
        | .fn (.func f) first cap => ∃ r, PSpec P f (lendL first ++ args.map (arg st) ++ lendL cap) r ∧ planS P late ops (i + 1) rd wr K (putSt st op.dst r) H
        | _ => False
      | k => match pev st H k with
        | some r => match ldCells st k with
          | some c => (∀ e ∈ wr, (i, e.1) ∈ late → apartC c e.2) ∧ planS P late ops (i + 1) ((i, c) :: rd) wr K (putSt (ptake st k) op.dst r) H
          | none => planS P late ops (i + 1) rd wr K (putSt (ptake st k) op.dst r) H
        | none => False) → planOp P late op i rd wr (fun rd' wr' st' H' => planOps P late ops (i + 1) rd' wr' K st' H') st H := by
      obtain ⟨d, gd, k⟩ := op
      intro h
      have pure_ : (match pev st H k with
          | some r => match ldCells st k with
            | some c => (∀ e ∈ wr, (i, e.1) ∈ late → apartC c e.2) ∧ planS P late ops (i + 1) ((i, c) :: rd) wr K (putSt (ptake st k) d r) H
            | none => planS P late ops (i + 1) rd wr K (putSt (ptake st k) d r) H
          | none => False) → ∃ r, pev st H k = some r ∧ (∀ c, ldCells st k = some c → ∀ e ∈ wr, (i, e.1) ∈ late → apartC c e.2) ∧
          planOps P late ops (i + 1) (match ldCells st k with | some c => (i, c) :: rd | none => rd) wr K (putSt (ptake st k) d r) H := fun h => by
        cases hr : pev st H k with
        | none => rw [hr] at h; exact h.elim
        | some r =>
          rw [hr] at h
          refine ⟨r, rfl, ?_⟩
          cases hl : ldCells st k with
          | some c =>
            simp only [hl] at h ⊢
            exact ⟨fun c' hc => by cases hc; exact h.1, planS_plan h.2⟩
          | none =>
            exact ⟨fun c' hc => by simp at hc, by simp only [hl] at h; exact planS_plan h⟩
      have no : (match pev st H k with
          | some r => match ldCells st k with
            | some c => (∀ e ∈ wr, (i, e.1) ∈ late → apartC c e.2) ∧ planS P late ops (i + 1) ((i, c) :: rd) wr K (putSt (ptake st k) d r) H
            | none => planS P late ops (i + 1) rd wr K (putSt (ptake st k) d r) H
          | none => False) → pev st H k = none → False := fun h e => by rw [e] at h; exact h
      cases k with
      | sto sz x v =>
        simp only at h
        split at h
        · rename_i b off e
          split at h
          · rename_i cs e2
            exact ⟨b, off, cs, e, e2, h.1, h.2.1, h.2.2.1, h.2.2.2.1, planS_plan h.2.2.2.2⟩
          · exact h.elim
        · exact h.elim
      | callF n xs tk =>
        obtain ⟨r, h1, h2⟩ := h
        exact ⟨r, h1, planS_plan h2⟩
      | callV fx xs =>
        simp only at h
        split at h
        · rename_i f first cap e
          obtain ⟨r, h1, h2⟩ := h
          exact ⟨f, first, cap, r, e, h1, planS_plan h2⟩
        · exact h.elim
      | cpy s x y => exact cpyB_mono h fun v H' h => planS_plan h
      | al z => exact (no h rfl).elim
      | bx s x => exact (no h rfl).elim
      | appR s b z x y => exact (no h rfl).elim
      | clr s z x => exact (no h rfl).elim
      | cap x => exact (no h rfl).elim
      | ld s ag tk x =>
        cases tk with
        | false => exact pure_ h
        | true =>
          simp only at h
          split at h
          · rename_i b off e
            split at h
            · rename_i cs e2
              split at h
              · rename_i r e3
                exact ⟨b, off, cs, r, e, e2, e3, h.1, h.2.1, planS_plan h.2.2⟩
              · exact h.elim
            · exact h.elim
          · exact h.elim
      | mk s b ag z l c mu =>
        cases mu with
        | false => exact pure_ h
        | true => exact (no h rfl).elim
      | bsl s n ag z ps mu =>
        cases mu with
        | false => exact pure_ h
        | true => exact (no h rfl).elim
      | _ => exact pure_ h
    unfold planS at h
    unfold planOps
    unfold goes at h
    cases hg : op.gd with
    | none =>
      rw [hg] at h
      exact step h
    | some p =>
      obtain ⟨t, want⟩ := p
      rw [hg] at h
      simp only at h ⊢
      cases e : gval (st.getD t .unit) with
      | some b =>
        rw [e] at h
        refine ⟨b, rfl, ?_⟩
        simp only at h
        by_cases hb : b = some want
        · rw [if_pos hb]
          have : (b == some want) = true := by simp [hb]
          rw [this] at h
          exact step h
        · rw [if_neg hb]
          have : (b == some want) = false := by simp [hb]
          rw [this] at h
          exact planS_plan h
      | none => rw [e] at h; exact h.elim
theorem pwp_drawS (hmix : P.follows .mixedOrders = true) {ops : List POp} {late : List (Nat × Nat)} (h : ∀ K : List PV → Heap → Prop, (∀ st' H', Q .normal st' H' → K st' H') → planS P late ops 0 [] [] K st H) : pwp P (.draw ops late) Q st H := pwp_draw hmix (planS_plan (h _ fun _ _ h => h))
end
end Go.Proofs.Ytkjibelcaeanjaa.E
