/- A logic of plain values, part 5: operations on data, and that the model's operations come to the same. -/
import Derived.Test.YtkjibelcaeanjaaE4
import Derived.Laws.Strings
namespace Go.Proofs.Ytkjibelcaeanjaa.E
open Go Go.RowKit
set_option linter.unusedVariables false
set_option linter.unusedSimpArgs false
inductive Arg where
  | t (i : Nat)
  | c (v : PV)
  deriving Inhabited
inductive PK where
  | mv (tk : Bool) (x : Arg)
  | pick (c a b : Arg)
  | bin (op : BinOp) (x y : Arg)
  | binB (ne : Bool) (x y : Arg)
  | eqS (ne : Bool) (ks : List Nat) (x y : Arg)
  | eqN (ne : Bool) (x : Arg)
  | cvM (x : Arg)
  | bad
  | un (op : UnOp) (x : Arg)
  | cvI (k : IntKind) (x : Arg)
  | cvS (x : Arg)
  | cvB (x : Arg)
  | idc (x : Arg)
  | fld (off sz : Nat) (ag : Bool) (x : Arg)
  | build (zero : List PV) (parts : List (Nat × Nat × Arg))
  | bsl (sz len : Nat) (ag : Bool) (zero : List PV) (parts : List (Nat × Arg)) (mu : Bool)
  | nl (sz len : Nat) (ag : Bool) (zero : List PV) (parts : List (Nat × Arg))
  | idx (x i : Arg)
  | iad (sz : Nat) (x i : Arg)
  | fad (off : Nat) (x : Arg)
  | ld (sz : Nat) (ag tk : Bool) (x : Arg)
  | sto (sz : Nat) (x v : Arg)
  | sli (sz : Nat) (x : Arg) (lo hi mx : Option Arg)
  | sls (x : Arg) (lo hi : Option Arg)
  | app (sz bytes : Nat) (x y : Arg)
  | len (s : Bool) (x : Arg)
  | mm (mx : Bool) (x y : Arg)
  | mk (sz bytes : Nat) (ag : Bool) (zero : List PV) (l c : Arg) (mu : Bool)
  | al (zero : List PV)
  | bx (sz : Nat) (x : Arg)
  | mkf (f : Fn) (first cap : List Arg)
  | callF (f : Nat) (args : List Arg) (tk : List Bool)
  | callV (f : Arg) (args : List Arg)
  | ext (tk : Bool) (x : Arg) (i : Nat)
  | nck (x : Arg)
  | bxI (sz : Nat) (x : Arg)
  | appR (sz bytes : Nat) (zero : List PV) (x y : Arg)
  | cpy (sz : Nat) (x y : Arg)
  | clr (sz : Nat) (zero : List PV) (x : Arg)
  | cap (x : Arg)
  | mvc (n : Nat) (x : Arg)
  deriving Inhabited
def argT (st : List PV) : Arg → PV
  | .t i => st.getD i .unit
  | .c v => v
/-- An operand, borrowed. -/
def arg (st : List PV) (x : Arg) : PV := lend (argT st x)
def takeAt (st : List PV) : Arg → List PV
  | .t i => st.set i (lend (st.getD i .unit))
  | .c _ => st
/-! ## numbers, strings, bools -/
def bitsP (op : BinOp) (k : IntKind) (a b : Int) : Option Int :=
  match op with
  | .and => some (k.wrap (BitVec.ofInt k.bits a &&& BitVec.ofInt k.bits b).toNat)
  | .or => some (k.wrap (BitVec.ofInt k.bits a ||| BitVec.ofInt k.bits b).toNat)
  | .xor => some (k.wrap (BitVec.ofInt k.bits a ^^^ BitVec.ofInt k.bits b).toNat)
  | .andNot => some (k.wrap (BitVec.ofInt k.bits a &&& ~~~(BitVec.ofInt k.bits b)).toNat)
  | _ => none
def lexLt : List Int → List Int → Bool
  | _, [] => false
  | [], _ :: _ => true
  | a :: x, b :: y => decide (a < b) || (decide (a = b) && lexLt x y)
def intP (op : BinOp) (k : IntKind) (a b : Int) : Option PV :=
  match op with
  | .add => some (.int k (k.wrap (a + b)))
  | .sub => some (.int k (k.wrap (a - b)))
  | .mul => some (.int k (k.wrap (a * b)))
  | .quo => if b = 0 then none else some (.int k (k.wrap (a.tdiv b)))
  | .rem => if b = 0 then none else some (.int k (a.tmod b))
  | .eql => some (.bool (decide (a = b)))
  | .neq => some (.bool (!decide (a = b)))
  | .lss => some (.bool (decide (a < b)))
  | .leq => some (.bool (decide (a ≤ b)))
  | .gtr => some (.bool (decide (b < a)))
  | .geq => some (.bool (decide (b ≤ a)))
  | op => (bitsP op k a b).map (.int k)
def strP (op : BinOp) (a b : List Int) : Option PV :=
  match op with
  | .add => if a.length + b.length ≤ 9223372036854775807 then some (.str (a ++ b)) else none
  | .eql => some (.bool (decide (a = b)))
  | .neq => some (.bool (!decide (a = b)))
  | .lss => some (.bool (lexLt a b))
  | .leq => some (.bool (lexLt a b || decide (a = b)))
  | .gtr => some (.bool (!(lexLt a b || decide (a = b))))
  | .geq => some (.bool (!lexLt a b))
  | _ => none
def binP (op : BinOp) : PV → PV → Option PV
  | .int k a, .int k' b =>
    match op with
    | .shl => if b < 0 then none else some (.int k (k.wrap (a * 2 ^ min b.toNat k.bits)))
    | .shr => if b < 0 then none else some (.int k (a.fdiv (2 ^ min b.toNat k.bits)))
    | op => if k = k' then intP op k a b else none
  | .str a, .str b => strP op a b
  | _, _ => none
/-! bytes -/
theorem bytesOf_length (s : ByteArray) : (bytesOf s).length = s.size := by
  unfold bytesOf
  rw [List.length_map]
  rfl
theorem bytesOf_append (s t : ByteArray) : bytesOf (s ++ t) = bytesOf s ++ bytesOf t := by simp [bytesOf]
theorem u8_inj {a b : UInt8} : (a.toNat : Int) = (b.toNat : Int) ↔ a = b := by
  constructor
  · intro h
    exact UInt8.toNat_inj.1 (by omega)
  · rintro rfl; rfl
theorem bytesOf_inj {s t : ByteArray} : bytesOf s = bytesOf t ↔ s.data.toList = t.data.toList := by
  unfold bytesOf
  constructor
  · intro h
    exact List.map_inj_right (fun a b h => u8_inj.1 h) |>.1 h
  · intro h; rw [h]
theorem lexLt_eq : ∀ (a b : List UInt8), Op.bytesLess a b = lexLt (a.map fun c => (c.toNat : Int)) (b.map fun c => (c.toNat : Int))
  | _, [] => by simp [Op.bytesLess, lexLt]
  | [], _ :: _ => by simp [Op.bytesLess, lexLt]
  | a :: x, b :: y => by
    simp only [Op.bytesLess, lexLt, List.map_cons, lexLt_eq x y]
    congr 1
    · exact decide_eq_decide.2 (by rw [UInt8.lt_iff_toNat_lt]; omega)
    · congr 1
      rw [Bool.eq_iff_iff]
      simp
      constructor
      · rintro rfl; rfl
      · intro h; exact UInt8.toNat_inj.1 (by omega)
theorem strEq (s t : ByteArray) : (s.toList == t.toList) = decide (bytesOf s = bytesOf t) := by
  rw [Bool.eq_iff_iff, Go.ByteArray.toList_eq, Go.ByteArray.toList_eq]
  simp [bytesOf_inj]
theorem eqGuard_int (P : Program) (op : BinOp) (t : TypeId) (X Y : Operand) (k k' : IntKind) (a b : Int) (w : World) : (eqGuard op t X Y (.int k a) (.int k' b)).run P w = .ok () w := by
  unfold eqGuard
  split <;> rfl
theorem eqGuard_str (P : Program) (op : BinOp) (t : TypeId) (X Y : Operand) (a b : ByteArray) (w : World) : (eqGuard op t X Y (.string a) (.string b)).run P w = .ok () w := by
  unfold eqGuard
  split <;> rfl
theorem eqGuard_bool (P : Program) (op : BinOp) (t : TypeId) (X Y : Operand) (a b : Bool) (w : World) : (eqGuard op t X Y (.bool a) (.bool b)).run P w = .ok () w := by
  unfold eqGuard
  split <;> rfl
theorem intP_run {P : Program} {op : BinOp} {t : TypeId} {k : IntKind} {a b : Int} {r : PV} {w : World} {g : Ghost} (h : intP op k a b = some r) (hs : op ≠ .shl ∧ op ≠ .shr) :
    ∃ v, (binOp op t (.int k a) (.int k b)).run P w = .ok v w ∧ VR true w g r v ∧ toks r v = [] := by
  obtain ⟨h1, h2⟩ := hs
  cases op <;> simp only [intP, bitsP, Option.map_some, Option.map_none, Option.some.injEq, reduceCtorEq] at h
  case quo =>
    split at h
    · cases h
    · rename_i hb
      cases h
      exact ⟨_, by simp [binOp, Op.intDiv, hb], rfl, rfl⟩
  case rem =>
    split at h
    · cases h
    · rename_i hb
      cases h
      exact ⟨_, by simp [binOp, Op.intDiv, hb], rfl, rfl⟩
  all_goals first
    | (subst h; exact ⟨_, by simp [binOp, Op.intArith, Op.intBits, Op.intCmp] <;> rfl, rfl, rfl⟩)
    | (subst h; refine ⟨_, by simp [binOp, Op.intArith, Op.intBits, Op.intCmp]; rfl, ?_, rfl⟩; simp [VR] <;> rfl)
theorem strP_run {P : Program} {op : BinOp} {a b : ByteArray} {r : PV} {w : World} {g : Ghost} (h : strP op (bytesOf a) (bytesOf b) = some r) :
    ∃ v, (Op.stringOp op a b).run P w = .ok v w ∧ VR true w g r v ∧ toks r v = [] := by
  have e1 := strEq a b
  have e2 : Op.bytesLess a.toList b.toList = lexLt (bytesOf a) (bytesOf b) := by
    rw [Go.ByteArray.toList_eq, Go.ByteArray.toList_eq]
    exact lexLt_eq _ _
  cases op <;> simp only [strP, Option.some.injEq, reduceCtorEq] at h
  case add =>
    split at h
    · rename_i hl
      cases h
      rw [bytesOf_length, bytesOf_length] at hl
      refine ⟨.string (a ++ b), ?_, ⟨_, rfl, bytesOf_append a b⟩, by simp [toks]⟩
      have : ¬ ((a.size + b.size : Nat) : Int) > IntKind.i64.max := by simp [IntKind.max, IntKind.signed, IntKind.bits]; omega
      unfold Op.stringOp
      simp only [if_neg this]
      rfl
    · cases h
  all_goals
    subst h
    refine ⟨_, rfl, ?_, rfl⟩
    simp only [VR, e1, e2]
theorem binP_run {P : Program} {op : BinOp} {t : TypeId} {x y r : PV} {v u : Value} {X Y : Operand} {w : World} {g : Ghost} {o o' : Bool} (h : binP op x y = some r) (hx : VR o w g x v) (hy : VR o' w g y u) :
    ∃ z, (do eqGuard op t X Y v u; binOp op t v u : Sem Value).run P w = .ok z w ∧ VR true w g r z ∧ toks r z = [] := by
  unfold binP at h
  split at h
  · rename_i k a k' b
    cases hx
    cases hy
    split at h
    · split at h
      · cases h
      · rename_i hb
        cases h
        exact ⟨_, by simp [eqGuard_int, binOp, Op.shift, hb], rfl, rfl⟩
    · split at h
      · cases h
      · rename_i hb
        cases h
        exact ⟨_, by simp [eqGuard_int, binOp, Op.shift, hb], rfl, rfl⟩
    · rename_i h1 h2
      split at h
      · rename_i hk
        subst hk
        obtain ⟨z, h3, h4⟩ := intP_run (P := P) (t := t) (w := w) (g := g) h ⟨h1, h2⟩
        exact ⟨z, by simp [eqGuard_int, h3], h4⟩
      · cases h
  · obtain ⟨s, rfl, rfl⟩ := hx
    obtain ⟨s', rfl, rfl⟩ := hy
    obtain ⟨z, h3, h4⟩ := strP_run (P := P) (w := w) (g := g) h
    refine ⟨z, ?_, h4⟩
    have : (binOp op t (.string s) (.string s') : Sem Value) = Op.stringOp op s s' := by
      cases op <;> rfl
    simp [eqGuard_str, this, h3]
  · cases h
theorem equal_bool {P : Program} {t : TypeId} (ht : P.underlying t = some .bool) (a b : Bool) (w : World) : (Op.equal t (.bool a) (.bool b)).run P w = .ok (a == b) w := by
  show (Op.equalIn (9999 + 1) t (.bool a) (.bool b)).run P w = _
  rw [Op.equalIn]
  simp only [Sem.run_bind, run_underlying ht, Result.andThen_ok]
  rfl
def binBP (ne : Bool) : PV → PV → Option PV
  | .bool a, .bool b => some (.bool (if ne then a != b else a == b))
  | _, _ => none
theorem binBP_run {P : Program} {ne : Bool} {t : TypeId} {x y r : PV} {v u : Value} {X Y : Operand} {w : World} {g : Ghost} {o o' : Bool} (ht : P.underlying t = some .bool) (h : binBP ne x y = some r) (hx : VR o w g x v) (hy : VR o' w g y u) :
    ∃ z, (do eqGuard (if ne then .neq else .eql) t X Y v u; binOp (if ne then .neq else .eql) t v u : Sem Value).run P w = .ok z w ∧ VR true w g r z ∧ toks r z = [] := by
  unfold binBP at h
  split at h
  · rename_i a b
    cases hx
    cases hy
    cases h
    cases ne
    · exact ⟨.bool (a == b), by simp only [Sem.run_bind, eqGuard_bool, Result.andThen_ok, Bool.false_eq_true, if_false, binOp, equal_bool ht, Sem.run_pure], rfl, rfl⟩
    · exact ⟨.bool (a != b), by simp only [Sem.run_bind, eqGuard_bool, Result.andThen_ok, if_true, binOp, equal_bool ht, Sem.run_pure]; rfl, rfl, rfl⟩
  · cases h
def unP (op : UnOp) : PV → Option PV
  | .int k n => match op with
    | .neg => some (.int k (k.wrap (0 - n)))
    | .xor => (bitsP .xor k (if k.signed then -1 else k.max) n).map (.int k)
    | _ => none
  | .bool b => match op with
    | .not => some (.bool (!b))
    | _ => none
  | _ => none
theorem unP_run {P : Program} {op : UnOp} {x r : PV} {v : Value} {w : World} {g : Ghost} {o : Bool} (h : unP op x = some r) (hx : VR o w g x v) :
    ∃ z, (Op.unary op v).run P w = .ok z w ∧ VR true w g r z ∧ toks r z = [] := by
  unfold unP at h
  split at h
  · cases hx
    split at h
    · cases h
      exact ⟨_, rfl, rfl, rfl⟩
    · cases h
      exact ⟨_, rfl, rfl, rfl⟩
    · cases h
  · cases hx
    split at h
    · cases h
      exact ⟨_, rfl, rfl, rfl⟩
    · cases h
  · cases h
end Go.Proofs.Ytkjibelcaeanjaa.E
