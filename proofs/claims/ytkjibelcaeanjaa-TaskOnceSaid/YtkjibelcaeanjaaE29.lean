/- A logic of plain values, part 29: the operations in a form that is quickly reckoned. -/
import Derived.Test.YtkjibelcaeanjaaE28
namespace Go.Proofs.Ytkjibelcaeanjaa.E
open Go Go.RowKit
set_option linter.unusedVariables false
set_option linter.unusedSimpArgs false
/-- A call, behind which the rest of a region goes on. -/
def callK (P : Program) (f : Nat) (H : Heap) (args : List PV) (ops : List POp) (K : List PV → Heap → Prop) (st : List PV) (d : Option Nat) : Prop :=
  ∃ Q, SpecH P f H args Q ∧ ∀ r H', Q r H' → runOps P ops K (putSt st d r) H'
/-- A row is appended to. -/
def appB (sz bytes : Nat) (zero : List PV) (px py : PV) (rest : PV → Heap → Prop) (H : Heap) : Prop :=
  match px with
  | .row b off n cap => match hget H b with
    | some cs => match cellsY sz H py with
      | some (ys, m) => off = 0 ∧ cap * sz ≤ cs.length ∧ n ≤ cap ∧ cap ≤ maxLen ∧ (n + m) * bytes ≤ 140737488355328 ∧
          (n + m ≤ cap → rest (.row b 0 (n + m) cap) (hset H b (cs.take (n * sz) ++ ys ++ cs.drop ((n + m) * sz)))) ∧
          (cap < n + m → ∀ b' cap', hget H b' = none → n + m ≤ cap' → cap' ≤ maxLen → rest (.row b' 0 (n + m) cap') ((b', lendL (cs.take (n * sz)) ++ ys ++ repCells (cap' - (n + m)) zero) :: H))
      | none => False
    | none => False
  | _ => False
def cpyB (sz : Nat) (px py : PV) (rest : PV → Heap → Prop) (H : Heap) : Prop :=
  match px with
  | .row b off n cap => match hget H b with
    | some cs => match cellsY sz H py with
      | some (ys, m) => off + n * sz ≤ cs.length ∧ rest (.int .i64 (min m n : Nat)) (hset H b (cs.take off ++ ys.take (min m n * sz) ++ cs.drop (off + min m n * sz)))
      | none => False
    | none => False
  | _ => False
def clrB (sz : Nat) (zero : List PV) (px : PV) (rest : PV → Heap → Prop) (H : Heap) : Prop :=
  match px with
  | .row b off n cap => match hget H b with
    | some cs => off + n * sz ≤ cs.length ∧ rest .unit (hset H b (cs.take off ++ repCells n zero ++ cs.drop (off + n * sz)))
    | none => False
  | _ => False
def capB (px : PV) (rest : PV → Heap → Prop) (H : Heap) : Prop :=
  match px with
  | .row _ _ _ c => rest (.int .i64 c) H
  | .lst _ xs _ => ∀ c : Nat, xs.length ≤ c → c ≤ maxLen → rest (.int .i64 c) H
  | _ => False
theorem appB_mono {sz bytes : Nat} {zero : List PV} {px py : PV} {H : Heap} {r r' : PV → Heap → Prop} (h : appB sz bytes zero px py r H) (hr : ∀ v H', r v H' → r' v H') :
    ∃ b n cap cs ys m, px = .row b 0 n cap ∧ hget H b = some cs ∧ cap * sz ≤ cs.length ∧ n ≤ cap ∧ cap ≤ maxLen ∧ cellsY sz H py = some (ys, m) ∧ (n + m) * bytes ≤ 140737488355328 ∧
      (n + m ≤ cap → r' (.row b 0 (n + m) cap) (hset H b (cs.take (n * sz) ++ ys ++ cs.drop ((n + m) * sz)))) ∧
      (cap < n + m → ∀ b' cap', hget H b' = none → n + m ≤ cap' → cap' ≤ maxLen → r' (.row b' 0 (n + m) cap') ((b', lendL (cs.take (n * sz)) ++ ys ++ repCells (cap' - (n + m)) zero) :: H)) := by
  unfold appB at h
  split at h
  · split at h
    · rename_i cs e
      split at h
      · rename_i ys m e2
        obtain ⟨rfl, h1, h2, h3, h4, h5, h6⟩ := h
        exact ⟨_, _, _, cs, ys, m, rfl, e, h1, h2, h3, e2, h4, fun q => hr _ _ (h5 q), fun q b' c' q1 q2 q3 => hr _ _ (h6 q b' c' q1 q2 q3)⟩
      · exact h.elim
    · exact h.elim
  · exact h.elim
theorem cpyB_mono {sz : Nat} {px py : PV} {H : Heap} {r r' : PV → Heap → Prop} (h : cpyB sz px py r H) (hr : ∀ v H', r v H' → r' v H') :
    ∃ b off n cap cs ys m, px = .row b off n cap ∧ hget H b = some cs ∧ off + n * sz ≤ cs.length ∧ cellsY sz H py = some (ys, m) ∧
      r' (.int .i64 (min m n : Nat)) (hset H b (cs.take off ++ ys.take (min m n * sz) ++ cs.drop (off + min m n * sz))) := by
  unfold cpyB at h
  split at h
  · split at h
    · rename_i cs e
      split at h
      · rename_i ys m e2
        exact ⟨_, _, _, _, cs, ys, m, rfl, e, h.1, e2, hr _ _ h.2⟩
      · exact h.elim
    · exact h.elim
  · exact h.elim
theorem clrB_mono {sz : Nat} {zero : List PV} {px : PV} {H : Heap} {r r' : PV → Heap → Prop} (h : clrB sz zero px r H) (hr : ∀ v H', r v H' → r' v H') :
    ∃ b off n cap cs, px = .row b off n cap ∧ hget H b = some cs ∧ off + n * sz ≤ cs.length ∧ r' .unit (hset H b (cs.take off ++ repCells n zero ++ cs.drop (off + n * sz))) := by
  unfold clrB at h
  split at h
  · split at h
    · rename_i cs e
      exact ⟨_, _, _, _, cs, rfl, e, h.1, hr _ _ h.2⟩
    · exact h.elim
  · exact h.elim
theorem capB_mono {px : PV} {H : Heap} {r r' : PV → Heap → Prop} (h : capB px r H) (hr : ∀ v H', r v H' → r' v H') :
    (∃ b off n c, px = .row b off n c ∧ r' (.int .i64 c) H) ∨ (∃ s xs o, px = .lst s xs o ∧ ∀ c : Nat, xs.length ≤ c → c ≤ maxLen → r' (.int .i64 c) H) := by
  unfold capB at h
  split at h
  · exact .inl ⟨_, _, _, _, rfl, hr _ _ h⟩
  · exact .inr ⟨_, _, _, rfl, fun c h1 h2 => hr _ _ (h c h1 h2)⟩
  · exact h.elim
/-- Is it done? -/
def goes (op : POp) (st : List PV) : Option Bool :=
  match op.gd with
  | none => some true
  | some (t, want) => match gval (st.getD t .unit) with
    | some b => some (b == some want)
    | none => none
def runM (P : Program) : List POp → (List PV → Heap → Prop) → List PV → Heap → Prop
  | [], K, st, H => K st H
  | op :: ops, K, st, H =>
    match goes op st with
    | none => False
    | some false => runM P ops K (putSt st op.dst (.tup [])) H
    | some true => match op.k with
      | .al cs => ∀ b, hget H b = none → runM P ops K (putSt st op.dst (.ptr (some (b, 0)))) ((b, cs) :: H)
      | .bx sz x => (cellsOf (argT st x)).all PV.isCell = true ∧ ∀ b, hget H b = none → runM P ops K (putSt (takeAt st x) op.dst (.ptr (some (b, 0)))) ((b, cellsOf (argT st x)) :: H)
      | .sto sz x v => match arg st x with
        | .ptr (some (b, off)) => match hget H b with
          | some cs => (cellsOf (argT st v)).length = sz ∧ off + sz ≤ cs.length ∧ (cellsOf (argT st v)).all PV.isCell = true ∧
              runM P ops K (putSt (takeAt st v) op.dst .unit) (hset H b (cs.take off ++ cellsOf (argT st v) ++ cs.drop (off + sz)))
          | none => False
        | _ => False
      | .ld sz ag true x => match arg st x with
        | .ptr (some (b, off)) => match hget H b with
          | some cs => match partP sz ag cs off with
            | some r => runM P ops K (putSt st op.dst r) (hset H b (cs.take off ++ lendL ((cs.drop off).take sz) ++ cs.drop (off + sz)))
            | none => False
          | none => False
        | _ => False
      | .mk sz bytes ag zero l c true => match arg st l, arg st c with
        | .int _ ln, .int _ cn => 0 ≤ ln ∧ ln ≤ cn ∧ cn * bytes ≤ 281474976710656 ∧ ∀ b, hget H b = none → runM P ops K (putSt st op.dst (.row b 0 ln.toNat cn.toNat)) ((b, repCells cn.toNat zero) :: H)
        | _, _ => False
      | .bsl sz len ag zero ps true => match fillP zero (elemParts sz st ps) with
        | some cs => ∀ b, hget H b = none → runM P ops K (putSt st op.dst (.row b 0 len len)) ((b, cs) :: H)
        | none => False
      | .eqN ne x => match arg st x with
        | .lst s xs o => (xs ≠ [] → runM P ops K (putSt st op.dst (.bool ne)) H) ∧ (xs = [] → ∀ b, runM P ops K (putSt st op.dst (.bool b)) H)
        | _ => False
      | .appR sz bytes zero x y => appB sz bytes zero (arg st x) (arg st y) (fun v H' => runM P ops K (putSt st op.dst v) H') H
      | .cpy sz x y => cpyB sz (arg st x) (arg st y) (fun v H' => runM P ops K (putSt st op.dst v) H') H
      | .clr sz zero x => clrB sz zero (arg st x) (fun v H' => runM P ops K (putSt st op.dst v) H') H
      | .cap x => capB (arg st x) (fun v H' => runM P ops K (putSt st op.dst v) H') H
      | .callF f args tk => callK P f H (callArgs st args tk) ops K (callTake st args tk) op.dst
      | .callV fx args => match arg st fx with
        | .fn (.func f) first cap => callK P f H (lendL first ++ args.map (arg st) ++ lendL cap) ops K st op.dst
        | _ => False
      | k => match pev st H k with
        | some r => runM P ops K (putSt (ptake st k) op.dst r) H
        | none => False
/-- The same, one step. -/
def runB (P : Program) (op : POp) (ops : List POp) (K : List PV → Heap → Prop) (st : List PV) (H : Heap) : Prop :=
  match goes op st with
  | none => False
  | some false => runM P ops K (putSt st op.dst (.tup [])) H
  | some true => match op.k with
    | .al cs => ∀ b, hget H b = none → runM P ops K (putSt st op.dst (.ptr (some (b, 0)))) ((b, cs) :: H)
    | .bx sz x => (cellsOf (argT st x)).all PV.isCell = true ∧ ∀ b, hget H b = none → runM P ops K (putSt (takeAt st x) op.dst (.ptr (some (b, 0)))) ((b, cellsOf (argT st x)) :: H)
    | .sto sz x v => match arg st x with
      | .ptr (some (b, off)) => match hget H b with
        | some cs => (cellsOf (argT st v)).length = sz ∧ off + sz ≤ cs.length ∧ (cellsOf (argT st v)).all PV.isCell = true ∧
            runM P ops K (putSt (takeAt st v) op.dst .unit) (hset H b (cs.take off ++ cellsOf (argT st v) ++ cs.drop (off + sz)))
        | none => False
      | _ => False
    | .ld sz ag true x => match arg st x with
      | .ptr (some (b, off)) => match hget H b with
        | some cs => match partP sz ag cs off with
          | some r => runM P ops K (putSt st op.dst r) (hset H b (cs.take off ++ lendL ((cs.drop off).take sz) ++ cs.drop (off + sz)))
          | none => False
        | none => False
      | _ => False
    | .mk sz bytes ag zero l c true => match arg st l, arg st c with
      | .int _ ln, .int _ cn => 0 ≤ ln ∧ ln ≤ cn ∧ cn * bytes ≤ 281474976710656 ∧ ∀ b, hget H b = none → runM P ops K (putSt st op.dst (.row b 0 ln.toNat cn.toNat)) ((b, repCells cn.toNat zero) :: H)
      | _, _ => False
    | .bsl sz len ag zero ps true => match fillP zero (elemParts sz st ps) with
      | some cs => ∀ b, hget H b = none → runM P ops K (putSt st op.dst (.row b 0 len len)) ((b, cs) :: H)
      | none => False
    | .eqN ne x => match arg st x with
      | .lst s xs o => (xs ≠ [] → runM P ops K (putSt st op.dst (.bool ne)) H) ∧ (xs = [] → ∀ b, runM P ops K (putSt st op.dst (.bool b)) H)
      | _ => False
    | .appR sz bytes zero x y => appB sz bytes zero (arg st x) (arg st y) (fun v H' => runM P ops K (putSt st op.dst v) H') H
    | .cpy sz x y => cpyB sz (arg st x) (arg st y) (fun v H' => runM P ops K (putSt st op.dst v) H') H
    | .clr sz zero x => clrB sz zero (arg st x) (fun v H' => runM P ops K (putSt st op.dst v) H') H
    | .cap x => capB (arg st x) (fun v H' => runM P ops K (putSt st op.dst v) H') H
    | .callF f args tk => callK P f H (callArgs st args tk) ops K (callTake st args tk) op.dst
    | .callV fx args => match arg st fx with
      | .fn (.func f) first cap => callK P f H (lendL first ++ args.map (arg st) ++ lendL cap) ops K st op.dst
      | _ => False
    | k => match pev st H k with
      | some r => runM P ops K (putSt (ptake st k) op.dst r) H
      | none => False
theorem runM_nil {P : Program} {K : List PV → Heap → Prop} {st : List PV} {H : Heap} : runM P [] K st H = K st H := by rw [runM]
theorem runM_cons {P : Program} {op : POp} {ops : List POp} {K : List PV → Heap → Prop} {st : List PV} {H : Heap} : runM P (op :: ops) K st H = runB P op ops K st H := by
  rw [runM]
  rfl
section
variable {P : Program} {Q : PPost} {st : List PV} {H : Heap}
theorem runM_run {K : List PV → Heap → Prop} : ∀ {ops : List POp} {st : List PV} {H : Heap}, runM P ops K st H → runOps P ops K st H
  | [], st, H, h => h
  | op :: ops, st, H, h => by
    have step : (match op.k with
      | .al cs => ∀ b, hget H b = none → runM P ops K (putSt st op.dst (.ptr (some (b, 0)))) ((b, cs) :: H)
      | .bx sz x => (cellsOf (argT st x)).all PV.isCell = true ∧ ∀ b, hget H b = none → runM P ops K (putSt (takeAt st x) op.dst (.ptr (some (b, 0)))) ((b, cellsOf (argT st x)) :: H)
      | .sto sz x v => match arg st x with
        | .ptr (some (b, off)) => match hget H b with
          | some cs => (cellsOf (argT st v)).length = sz ∧ off + sz ≤ cs.length ∧ (cellsOf (argT st v)).all PV.isCell = true ∧
              runM P ops K (putSt (takeAt st v) op.dst .unit) (hset H b (cs.take off ++ cellsOf (argT st v) ++ cs.drop (off + sz)))
          | none => False
        | _ => False
      | .ld sz ag true x => match arg st x with
        | .ptr (some (b, off)) => match hget H b with
          | some cs => match partP sz ag cs off with
            | some r => runM P ops K (putSt st op.dst r) (hset H b (cs.take off ++ lendL ((cs.drop off).take sz) ++ cs.drop (off + sz)))
            | none => False
          | none => False
        | _ => False
      | .mk sz bytes ag zero l c true => match arg st l, arg st c with
        | .int _ ln, .int _ cn => 0 ≤ ln ∧ ln ≤ cn ∧ cn * bytes ≤ 281474976710656 ∧ ∀ b, hget H b = none → runM P ops K (putSt st op.dst (.row b 0 ln.toNat cn.toNat)) ((b, repCells cn.toNat zero) :: H)
        | _, _ => False
      | .bsl sz len ag zero ps true => match fillP zero (elemParts sz st ps) with
        | some cs => ∀ b, hget H b = none → runM P ops K (putSt st op.dst (.row b 0 len len)) ((b, cs) :: H)
        | none => False
      | .eqN ne x => match arg st x with
        | .lst s xs o => (xs ≠ [] → runM P ops K (putSt st op.dst (.bool ne)) H) ∧ (xs = [] → ∀ b, runM P ops K (putSt st op.dst (.bool b)) H)
        | _ => False
      | .appR sz bytes zero x y => appB sz bytes zero (arg st x) (arg st y) (fun v H' => runM P ops K (putSt st op.dst v) H') H
      | .cpy sz x y => cpyB sz (arg st x) (arg st y) (fun v H' => runM P ops K (putSt st op.dst v) H') H
      | .clr sz zero x => clrB sz zero (arg st x) (fun v H' => runM P ops K (putSt st op.dst v) H') H
      | .cap x => capB (arg st x) (fun v H' => runM P ops K (putSt st op.dst v) H') H
      | .callF f args tk => callK P f H (callArgs st args tk) ops K (callTake st args tk) op.dst
      | .callV fx args => match arg st fx with
        | .fn (.func f) first cap => callK P f H (lendL first ++ args.map (arg st) ++ lendL cap) ops K st op.dst
        | _ => False
      | k => match pev st H k with
        | some r => runM P ops K (putSt (ptake st k) op.dst r) H
        | none => False) → stepOp P op (runOps P ops K) st H := by
      obtain ⟨d, gd, k⟩ := op
      intro h
      have pure_ : (match pev st H k with | some r => runM P ops K (putSt (ptake st k) d r) H | none => False) → ∃ r, pev st H k = some r ∧ runOps P ops K (putSt (ptake st k) d r) H := fun h => by
        split at h
        · rename_i r e
          exact ⟨r, e, runM_run h⟩
        · exact h.elim
      cases k with
      | al z => exact fun b hb => runM_run (h b hb)
      | bx s x => exact ⟨h.1, fun b hb => runM_run (h.2 b hb)⟩
      | sto s x v =>
        simp only at h
        split at h
        · rename_i b off e
          split at h
          · rename_i cs e2
            exact ⟨b, off, cs, e, e2, h.1, h.2.1, h.2.2.1, runM_run h.2.2.2⟩
          · exact h.elim
        · exact h.elim
      | ld s ag tk x =>
        cases tk with
        | false => exact pure_ h
        | true =>
          simp only at h
          split at h
          · rename_i b off e
            split at h
            · rename_i cs e2
              split at h
              · rename_i r e3
                exact ⟨b, off, cs, r, e, e2, e3, runM_run h⟩
              · exact h.elim
            · exact h.elim
          · exact h.elim
      | mk s b ag z l c mu =>
        cases mu with
        | false => exact pure_ h
        | true =>
          simp only at h
          split at h
          · rename_i k1 ln k2 cn e1 e2
            exact ⟨k1, ln, k2, cn, e1, e2, h.1, h.2.1, h.2.2.1, fun b hb => runM_run (h.2.2.2 b hb)⟩
          · exact h.elim
      | bsl s n ag z ps mu =>
        cases mu with
        | false => exact pure_ h
        | true =>
          simp only at h
          split at h
          · rename_i cs e
            exact ⟨cs, e, fun b hb => runM_run (h b hb)⟩
          · exact h.elim
      | eqN ne x =>
        simp only at h
        split at h
        · rename_i s xs o e
          exact ⟨s, xs, o, e, fun hx => runM_run (h.1 hx), fun hx b => runM_run (h.2 hx b)⟩
        · exact h.elim
      | appR s b z x y => exact appB_mono h fun v H' h => runM_run h
      | cpy s x y => exact cpyB_mono h fun v H' h => runM_run h
      | clr s z x => exact clrB_mono h fun v H' h => runM_run h
      | cap x => exact capB_mono h fun v H' h => runM_run h
      | callF f xs tk => exact h
      | callV fx xs =>
        simp only at h
        split at h
        · rename_i f first cap e
          obtain ⟨R, h1, h2⟩ := h
          exact ⟨f, first, cap, R, e, h1, h2⟩
        · exact h.elim
      | _ => exact pure_ h
    unfold runM at h
    unfold runOps
    unfold goes at h
    cases hg : op.gd with
    | none =>
      rw [hg] at h
      exact step h
    | some p =>
      obtain ⟨t, want⟩ := p
      rw [hg] at h
      simp only at h ⊢
      cases e : gval (st.getD t .unit) with
      | some b =>
        rw [e] at h
        refine ⟨b, rfl, ?_⟩
        simp only at h
        by_cases hb : b = some want
        · rw [if_pos hb]
          have : (b == some want) = true := by simp [hb]
          rw [this] at h
          exact step h
        · rw [if_neg hb]
          have : (b == some want) = false := by simp [hb]
          rw [this] at h
          exact runM_run h
      | none => rw [e] at h; exact h.elim
theorem pwp_regionM {ops : List POp} (h : ∀ K : List PV → Heap → Prop, (∀ st' H', Q .normal st' H' → K st' H') → runM P ops K st H) : pwp P (.region ops) Q st H := pwp_region (runM_run (h _ fun _ _ h => h))
/-- A call whose contract is known. -/
theorem useP {f : Nat} {args : List PV} {r : PV} {ops : List POp} {K : List PV → Heap → Prop} {d : Option Nat} (h : PSpec P f args r) (hK : runM P ops K (putSt st d r) H) : callK P f H args ops K st d :=
  ⟨_, h H, fun r' H' ⟨e1, e2⟩ => by subst e1 e2; exact runM_run hK⟩
theorem useH {f : Nat} {args : List PV} {R : PV → Heap → Prop} {ops : List POp} {K : List PV → Heap → Prop} {d : Option Nat} (h : SpecH P f H args R) (hK : ∀ r H', R r H' → runM P ops K (putSt st d r) H') : callK P f H args ops K st d := ⟨R, h, fun r H' h => runM_run (hK r H' h)⟩
/-! ## regions whose order is drawn, that store nothing -/
def callD (P : Program) (f : Nat) (H : Heap) (args : List PV) (ops : List POp) (K : List PV → Heap → Prop) (st : List PV) (d : Option Nat) : Prop :=
  ∃ r, PSpec P f args r ∧ ∀ late i rd, planOps P late ops i rd [] K (putSt st d r) H
def planM (P : Program) : List POp → (List PV → Heap → Prop) → List PV → Heap → Prop
  | [], K, st, H => K st H
  | op :: ops, K, st, H =>
    match goes op st with
    | none => False
    | some false => planM P ops K (putSt st op.dst (.tup [])) H
    | some true => match op.k with
      | .cpy sz x y => cpyB sz (arg st x) (arg st y) (fun v H' => planM P ops K (putSt st op.dst v) H') H
      | .callF f args tk => callD P f H (callArgs st args tk) ops K (callTake st args tk) op.dst
      | .callV fx args => match arg st fx with
        | .fn (.func f) first cap => callD P f H (lendL first ++ args.map (arg st) ++ lendL cap) ops K st op.dst
        | _ => False
      | k => match pev st H k with
        | some r => planM P ops K (putSt (ptake st k) op.dst r) H
        | none => False
def planB (P : Program) (op : POp) (ops : List POp) (K : List PV → Heap → Prop) (st : List PV) (H : Heap) : Prop :=
  match goes op st with
  | none => False
  | some false => planM P ops K (putSt st op.dst (.tup [])) H
  | some true => match op.k with
    | .cpy sz x y => cpyB sz (arg st x) (arg st y) (fun v H' => planM P ops K (putSt st op.dst v) H') H
    | .callF f args tk => callD P f H (callArgs st args tk) ops K (callTake st args tk) op.dst
    | .callV fx args => match arg st fx with
      | .fn (.func f) first cap => callD P f H (lendL first ++ args.map (arg st) ++ lendL cap) ops K st op.dst
      | _ => False
    | k => match pev st H k with
      | some r => planM P ops K (putSt (ptake st k) op.dst r) H
      | none => False
theorem planM_nil {K : List PV → Heap → Prop} {st : List PV} {H : Heap} : planM P [] K st H = K st H := by rw [planM]
theorem planM_cons {op : POp} {ops : List POp} {K : List PV → Heap → Prop} {st : List PV} {H : Heap} : planM P (op :: ops) K st H = planB P op ops K st H := by
  rw [planM]
  rfl
theorem planM_plan {K : List PV → Heap → Prop} : ∀ {ops : List POp} {late : List (Nat × Nat)} {i : Nat} {rd : Uses} {st : List PV} {H : Heap}, planM P ops K st H → planOps P late ops i rd [] K st H
  | [], late, i, rd, st, H, h => h
  | op :: ops, late, i, rd, st, H, h => by
    have step : (match op.k with
      | .cpy sz x y => cpyB sz (arg st x) (arg st y) (fun v H' => planM P ops K (putSt st op.dst v) H') H
      | .callF f args tk => callD P f H (callArgs st args tk) ops K (callTake st args tk) op.dst
      | .callV fx args => match arg st fx with
        | .fn (.func f) first cap => callD P f H (lendL first ++ args.map (arg st) ++ lendL cap) ops K st op.dst
        | _ => False
      | k => match pev st H k with
        | some r => planM P ops K (putSt (ptake st k) op.dst r) H
        | none => False) → planOp P late op i rd [] (fun rd' wr' st' H' => planOps P late ops (i + 1) rd' wr' K st' H') st H := by
      obtain ⟨d, gd, k⟩ := op
      intro h
      have pure_ : (match pev st H k with | some r => planM P ops K (putSt (ptake st k) d r) H | none => False) → ∃ r, pev st H k = some r ∧ (∀ c, ldCells st k = some c → ∀ e ∈ ([] : Uses), (i, e.1) ∈ late → apartC c e.2) ∧
          planOps P late ops (i + 1) (match ldCells st k with | some c => (i, c) :: rd | none => rd) [] K (putSt (ptake st k) d r) H := fun h => by
        split at h
        · rename_i r e
          exact ⟨r, e, fun c _ e he => (by cases he), planM_plan h⟩
        · exact h.elim
      cases k with
      | callF f xs tk =>
        obtain ⟨r, h1, h2⟩ := h
        exact ⟨r, h1, h2 _ _ _⟩
      | callV fx xs =>
        simp only at h
        split at h
        · rename_i f first cap e
          obtain ⟨r, h1, h2⟩ := h
          exact ⟨f, first, cap, r, e, h1, h2 _ _ _⟩
        · exact h.elim
      | appR s b z x y => exact h.elim
      | clr s z x => exact h.elim
      | cap x => exact h.elim
      | cpy s x y => exact cpyB_mono h fun v H' h => planM_plan h
      | al z => exact h.elim
      | bx s x => exact h.elim
      | sto s x v => exact h.elim
      | ld s ag tk x =>
        cases tk with
        | false => exact pure_ h
        | true => exact h.elim
      | mk s b ag z l c mu =>
        cases mu with
        | false => exact pure_ h
        | true => exact h.elim
      | bsl s n ag z ps mu =>
        cases mu with
        | false => exact pure_ h
        | true => exact h.elim
      | _ => exact pure_ h
    unfold planM at h
    unfold planOps
    unfold goes at h
    cases hg : op.gd with
    | none =>
      rw [hg] at h
      exact step h
    | some p =>
      obtain ⟨t, want⟩ := p
      rw [hg] at h
      simp only at h ⊢
      cases e : gval (st.getD t .unit) with
      | some b =>
        rw [e] at h
        refine ⟨b, rfl, ?_⟩
        simp only at h
        by_cases hb : b = some want
        · rw [if_pos hb]
          have : (b == some want) = true := by simp [hb]
          rw [this] at h
          exact step h
        · rw [if_neg hb]
          have : (b == some want) = false := by simp [hb]
          rw [this] at h
          exact planM_plan h
      | none => rw [e] at h; exact h.elim
theorem useD {f : Nat} {args : List PV} {r : PV} {ops : List POp} {K : List PV → Heap → Prop} {d : Option Nat} (h : PSpec P f args r) (hK : planM P ops K (putSt st d r) H) : callD P f H args ops K st d := ⟨r, h, fun _ _ _ => planM_plan hK⟩
theorem pwp_drawM (hmix : P.follows .mixedOrders = true) {ops : List POp} {late : List (Nat × Nat)} (h : ∀ K : List PV → Heap → Prop, (∀ st' H', Q .normal st' H' → K st' H') → planM P ops K st H) : pwp P (.draw ops late) Q st H := pwp_draw hmix (planM_plan (h _ fun _ _ h => h))
end
end Go.Proofs.Ytkjibelcaeanjaa.E
