/- A logic of plain values, part 34: steps that are taken one by one. -/
import Derived.Test.YtkjibelcaeanjaaE33
namespace Go.Proofs.Ytkjibelcaeanjaa.E
open Go Go.RowKit
set_option linter.unusedVariables false
set_option linter.unusedSimpArgs false
def runK (P : Program) (k : PK) (d : Option Nat) (ops : List POp) (K : List PV → Heap → Prop) (st : List PV) (H : Heap) : Prop :=
  match k with
  | .al cs => ∀ b, hget H b = none → runM P ops K (putSt st d (.ptr (some (b, 0)))) ((b, cs) :: H)
  | .bx sz x => (cellsOf (argT st x)).all PV.isCell = true ∧ ∀ b, hget H b = none → runM P ops K (putSt (takeAt st x) d (.ptr (some (b, 0)))) ((b, cellsOf (argT st x)) :: H)
  | .sto sz x v => match arg st x with
    | .ptr (some (b, off)) => match hget H b with
      | some cs => (cellsOf (argT st v)).length = sz ∧ off + sz ≤ cs.length ∧ (cellsOf (argT st v)).all PV.isCell = true ∧
            runM P ops K (putSt (takeAt st v) d .unit) (hset H b (cs.take off ++ cellsOf (argT st v) ++ cs.drop (off + sz)))
      | none => False
    | _ => False
  | .ld sz ag true x => match arg st x with
    | .ptr (some (b, off)) => match hget H b with
      | some cs => match partP sz ag cs off with
        | some r => runM P ops K (putSt st d r) (hset H b (cs.take off ++ lendL ((cs.drop off).take sz) ++ cs.drop (off + sz)))
        | none => False
      | none => False
    | _ => False
  | .mk sz bytes ag zero l c true => match arg st l, arg st c with
    | .int _ ln, .int _ cn => 0 ≤ ln ∧ ln ≤ cn ∧ cn * bytes ≤ 281474976710656 ∧ ∀ b, hget H b = none → runM P ops K (putSt st d (.row b 0 ln.toNat cn.toNat)) ((b, repCells cn.toNat zero) :: H)
    | _, _ => False
  | .bsl sz len ag zero ps true => match fillP zero (elemParts sz st ps) with
    | some cs => ∀ b, hget H b = none → runM P ops K (putSt st d (.row b 0 len len)) ((b, cs) :: H)
    | none => False
  | .eqN ne x => match arg st x with
    | .lst s xs o => (xs ≠ [] → runM P ops K (putSt st d (.bool ne)) H) ∧ (xs = [] → ∀ b, runM P ops K (putSt st d (.bool b)) H)
    | _ => False
  | .appR sz bytes zero x y => appB sz bytes zero (arg st x) (arg st y) (fun v H' => runM P ops K (putSt st d v) H') H
  | .cpy sz x y => cpyB sz (arg st x) (arg st y) (fun v H' => runM P ops K (putSt st d v) H') H
  | .clr sz zero x => clrB sz zero (arg st x) (fun v H' => runM P ops K (putSt st d v) H') H
  | .cap x => capB (arg st x) (fun v H' => runM P ops K (putSt st d v) H') H
  | .callF f args tk => callK P f H (callArgs st args tk) ops K (callTake st args tk) d
  | .callV fx args => match arg st fx with
    | .fn (.func f) first cap => callK P f H (lendL first ++ args.map (arg st) ++ lendL cap) ops K st d
    | _ => False
  | k => match pev st H k with
    | some r => runM P ops K (putSt (ptake st k) d r) H
    | none => False
section
variable {P : Program} {K : List PV → Heap → Prop} {st : List PV} {H : Heap} {d : Option Nat} {k : PK} {ops : List POp} {t : Nat} {w : Bool}
theorem runM_n : runM P (⟨d, none, k⟩ :: ops) K st H = runK P k d ops K st H := by rw [runM_cons]; rfl
theorem runM_t (h : st.getD t .unit = .bool w) : runM P (⟨d, some (t, w), k⟩ :: ops) K st H = runK P k d ops K st H := by
  rw [runM_cons, runB]
  simp only [goes, h, gval, beq_self_eq_true]
  rfl
theorem runM_f (h : st.getD t .unit = .bool (!w)) : runM P (⟨d, some (t, w), k⟩ :: ops) K st H = runM P ops K (putSt st d (.tup [])) H := by
  rw [runM_cons, runB]
  have : ((some (!w)) == some w) = false := by cases w <;> rfl
  simp only [goes, h, gval, this]
theorem runM_s (h : st.getD t .unit = .tup []) : runM P (⟨d, some (t, w), k⟩ :: ops) K st H = runM P ops K (putSt st d (.tup [])) H := by
  rw [runM_cons, runB]
  have : ((none : Option Bool) == some w) = false := rfl
  simp only [goes, h, gval, this]
end
def planK (P : Program) (k : PK) (d : Option Nat) (ops : List POp) (K : List PV → Heap → Prop) (st : List PV) (H : Heap) : Prop :=
  match k with
    | .cpy sz x y => cpyB sz (arg st x) (arg st y) (fun v H' => planM P ops K (putSt st d v) H') H
    | .callF f args tk => callD P f H (callArgs st args tk) ops K (callTake st args tk) d
    | .callV fx args => match arg st fx with
      | .fn (.func f) first cap => callD P f H (lendL first ++ args.map (arg st) ++ lendL cap) ops K st d
      | _ => False
    | k => match pev st H k with
      | some r => planM P ops K (putSt (ptake st k) d r) H
      | none => False
def planSK (P : Program) (late : List (Nat × Nat)) (k : PK) (d : Option Nat) (ops : List POp) (i : Nat) (rd wr : Uses) (K : List PV → Heap → Prop) (st : List PV) (H : Heap) : Prop :=
  match k with
    | .sto sz x v => match arg st x with
      | .ptr (some (b, off)) => match hget H b with
        | some cs => (cellsOf (argT st v)).length = sz ∧ off + sz ≤ cs.length ∧ (cellsOf (argT st v)).all PV.isCell = true ∧ (∀ e ∈ rd, (e.1, i) ∈ late → apartC e.2 (b, off, sz)) ∧
            planS P late ops (i + 1) rd ((i, b, off, sz) :: wr) K (putSt (takeAt st v) d .unit) (hset H b (cs.take off ++ cellsOf (argT st v) ++ cs.drop (off + sz)))
        | none => False
      | _ => False
    | .ld sz ag true x => match arg st x with
      | .ptr (some (b, off)) => match hget H b with
        | some cs => match partP sz ag cs off with
          | some r => off + sz ≤ cs.length ∧ (∀ e ∈ rd, (e.1, i) ∈ late → apartC e.2 (b, off, sz)) ∧
              planS P late ops (i + 1) rd ((i, b, off, sz) :: wr) K (putSt st d r) (hset H b (cs.take off ++ lendL ((cs.drop off).take sz) ++ cs.drop (off + sz)))
          | none => False
        | none => False
      | _ => False
    | .cpy sz x y => cpyB sz (arg st x) (arg st y) (fun v H' => planS P late ops (i + 1) rd wr K (putSt st d v) H') H
    | .callF f args tk => ∃ r, PSpec P f (callArgs st args tk) r ∧ planS P late ops (i + 1) rd wr K (putSt (callTake st args tk) d r) H
    | .callV fx args => match arg st fx with
      | .fn (.func f) first cap => ∃ r, PSpec P f (lendL first ++ args.map (arg st) ++ lendL cap) r ∧ planS P late ops (i + 1) rd wr K (putSt st d r) H
      | _ => False
    | k => match pev st H k with
      | some r => match ldCells st k with
        | some c => (∀ e ∈ wr, (i, e.1) ∈ late → apartC c e.2) ∧ planS P late ops (i + 1) ((i, c) :: rd) wr K (putSt (ptake st k) d r) H
        | none => planS P late ops (i + 1) rd wr K (putSt (ptake st k) d r) H
      | none => False
section
variable {P : Program} {K : List PV → Heap → Prop} {st : List PV} {H : Heap} {d : Option Nat} {k : PK} {ops : List POp} {t : Nat} {w : Bool}
theorem planM_n : planM P (⟨d, none, k⟩ :: ops) K st H = planK P k d ops K st H := by rw [planM_cons]; rfl
theorem planM_t (h : st.getD t .unit = .bool w) : planM P (⟨d, some (t, w), k⟩ :: ops) K st H = planK P k d ops K st H := by
  rw [planM_cons, planB]
  simp only [goes, h, gval, beq_self_eq_true]
  rfl
theorem planM_f (h : st.getD t .unit = .bool (!w)) : planM P (⟨d, some (t, w), k⟩ :: ops) K st H = planM P ops K (putSt st d (.tup [])) H := by
  rw [planM_cons, planB]
  have : ((some (!w)) == some w) = false := by cases w <;> rfl
  simp only [goes, h, gval, this]
theorem planM_s (h : st.getD t .unit = .tup []) : planM P (⟨d, some (t, w), k⟩ :: ops) K st H = planM P ops K (putSt st d (.tup [])) H := by
  rw [planM_cons, planB]
  have : ((none : Option Bool) == some w) = false := rfl
  simp only [goes, h, gval, this]
variable {late : List (Nat × Nat)} {i : Nat} {rd wr : Uses}
theorem planS_n : planS P late (⟨d, none, k⟩ :: ops) i rd wr K st H = planSK P late k d ops i rd wr K st H := by rw [planS_cons]; rfl
theorem planS_t (h : st.getD t .unit = .bool w) : planS P late (⟨d, some (t, w), k⟩ :: ops) i rd wr K st H = planSK P late k d ops i rd wr K st H := by
  rw [planS_cons, planSB]
  simp only [goes, h, gval, beq_self_eq_true]
  rfl
theorem planS_f (h : st.getD t .unit = .bool (!w)) : planS P late (⟨d, some (t, w), k⟩ :: ops) i rd wr K st H = planS P late ops (i + 1) rd wr K (putSt st d (.tup [])) H := by
  rw [planS_cons, planSB]
  have : ((some (!w)) == some w) = false := by cases w <;> rfl
  simp only [goes, h, gval, this]
theorem planS_s (h : st.getD t .unit = .tup []) : planS P late (⟨d, some (t, w), k⟩ :: ops) i rd wr K st H = planS P late ops (i + 1) rd wr K (putSt st d (.tup [])) H := by
  rw [planS_cons, planSB]
  have : ((none : Option Bool) == some w) = false := rfl
  simp only [goes, h, gval, this]
end
/-! ## the flow of control -/
section
variable {P : Program} {Q : PPost} {st : List PV} {H : Heap}
/-- A region, and what comes behind it. -/
theorem pwp_sr {ops : List POp} {y : PCode} (h : ∀ K : List PV → Heap → Prop, (∀ st' H', pwp P y Q st' H' → K st' H') → runM P ops K st H) : pwp P (.seq (.region ops) y) Q st H :=
  pwp_seq (pwp_regionM fun K hK => h K fun st' H' h' => hK st' H' h')
theorem pwp_sd (hmix : P.follows .mixedOrders = true) {ops : List POp} {late : List (Nat × Nat)} {y : PCode} (h : ∀ K : List PV → Heap → Prop, (∀ st' H', pwp P y Q st' H' → K st' H') → planM P ops K st H) : pwp P (.seq (.draw ops late) y) Q st H :=
  pwp_seq (pwp_drawM hmix fun K hK => h K fun st' H' h' => hK st' H' h')
theorem pwp_ss (hmix : P.follows .mixedOrders = true) {ops : List POp} {late : List (Nat × Nat)} {y : PCode} (h : ∀ K : List PV → Heap → Prop, (∀ st' H', pwp P y Q st' H' → K st' H') → planS P late ops 0 [] [] K st H) : pwp P (.seq (.draw ops late) y) Q st H :=
  pwp_seq (pwp_drawS hmix fun K hK => h K fun st' H' h' => hK st' H' h')
theorem pwp_cT {x y : PCode} {p : Arg} (hb : argT st p = .bool true) (h : pwp P x Q st H) : pwp P (.cond p x y) Q st H := pwp_cond hb (fun _ => h) (fun e => by cases e)
theorem pwp_cF {x y : PCode} {p : Arg} (hb : argT st p = .bool false) (h : pwp P y Q st H) : pwp P (.cond p x y) Q st H := pwp_cond hb (fun e => by cases e) (fun _ => h)
theorem pwp_sF {x z : PCode} {p : Arg} (hb : argT st p = .bool false) (h : pwp P z Q st H) : pwp P (.seq (.cond p x .skip) z) Q st H := pwp_seq (pwp_cF hb (pwp_skip h))
theorem pwp_sT {z y : PCode} {p : Arg} (hb : argT st p = .bool true) (h : pwp P z Q st H) : pwp P (.seq (.cond p .skip y) z) Q st H := pwp_seq (pwp_cT hb (pwp_skip h))
theorem thenP_ret {R : List PV → Heap → Prop} : thenP R Q .ret st H = Q .ret st H := rfl
theorem inBlockP_ret {id : Nat} : inBlockP id Q .ret st H = Q .ret st H := rfl
theorem pwp_retB {id : Nat} {R : List PV → Heap → Prop} (h : Q .ret st H) : pwp P .ret (inBlockP id (thenP R Q)) st H := pwp_ret h
theorem pwp_retT {R : List PV → Heap → Prop} (h : Q .ret st H) : pwp P .ret (thenP R Q) st H := pwp_ret h
/-- What an if hangs on: the slot, and what comes behind either arm. -/
def IfP (P : Program) (c : Arg) (x y : PCode) (Q : PPost) (st : List PV) (H : Heap) : Prop := ∃ b, argT st c = .bool b ∧ (b = true → pwp P x Q st H) ∧ (b = false → pwp P y Q st H)
theorem ifT {c : Arg} {x y : PCode} (hb : argT st c = .bool true) (h : pwp P x Q st H) : IfP P c x y Q st H := ⟨true, hb, (fun _ => h), (fun e => by cases e)⟩
theorem ifF {c : Arg} {x y : PCode} (hb : argT st c = .bool false) (h : pwp P y Q st H) : IfP P c x y Q st H := ⟨false, hb, (fun e => by cases e), fun _ => h⟩
theorem ifB {c : Arg} {x y : PCode} {p : Prop} [Decidable p] (hb : argT st c = .bool (decide p)) (h1 : p → pwp P x Q st H) (h2 : ¬ p → pwp P y Q st H) : IfP P c x y Q st H :=
  ⟨_, hb, fun e => h1 (of_decide_eq_true e), fun e => h2 (of_decide_eq_false e)⟩
/-- A region and an if (one arm of which may leave), and what comes behind. -/
theorem pwp_rif {ops : List POp} {c : Arg} {x y z : PCode} (h : ∀ K : List PV → Heap → Prop, (∀ st' H', IfP P c x y (thenP (pwp P z Q) Q) st' H' → K st' H') → runM P ops K st H) : pwp P (.seq (.seq (.region ops) (.cond c x y)) z) Q st H :=
  pwp_seq (pwp_sr fun K hK => h K fun st' H' ⟨b, h1, h2, h3⟩ => hK st' H' (pwp_cond h1 h2 h3))
theorem pwp_rifE {ops : List POp} {c : Arg} {x y : PCode} (h : ∀ K : List PV → Heap → Prop, (∀ st' H', IfP P c x y Q st' H' → K st' H') → runM P ops K st H) : pwp P (.seq (.region ops) (.cond c x y)) Q st H :=
  pwp_sr fun K hK => h K fun st' H' ⟨b, h1, h2, h3⟩ => hK st' H' (pwp_cond h1 h2 h3)
theorem pwp_dif (hmix : P.follows .mixedOrders = true) {ops : List POp} {late : List (Nat × Nat)} {c : Arg} {x y z : PCode} (h : ∀ K : List PV → Heap → Prop, (∀ st' H', IfP P c x y (thenP (pwp P z Q) Q) st' H' → K st' H') → planM P ops K st H) : pwp P (.seq (.seq (.draw ops late) (.cond c x y)) z) Q st H :=
  pwp_seq (pwp_sd hmix fun K hK => h K fun st' H' ⟨b, h1, h2, h3⟩ => hK st' H' (pwp_cond h1 h2 h3))
theorem useU {f : Nat} {args args' : List PV} {r : PV} {ops : List POp} {K : List PV → Heap → Prop} {d : Option Nat} (h : PSpec P f args' r) (hu : UpL true args args') (hK : runM P ops K (putSt st d r) H) : callK P f H args ops K st d :=
  useP (fun H => SpecH_args hu (h H)) hK
end
end Go.Proofs.Ytkjibelcaeanjaa.E
