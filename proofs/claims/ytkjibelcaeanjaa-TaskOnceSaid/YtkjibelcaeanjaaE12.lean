/- A logic of plain values, part 12: each pure operation comes to its data. -/
import Derived.Test.YtkjibelcaeanjaaE11
namespace Go.Proofs.Ytkjibelcaeanjaa.E
open Go Go.RowKit
set_option linter.unusedVariables false
set_option linter.unusedSimpArgs false
def compParts (P : Program) (fields : Array Field) : List (Nat × Operand) → Option (List (Nat × Nat × Arg))
  | [] => some []
  | (i, x) :: ps => (fields[i]?).bind fun f => (P.info? f.type).bind fun fi => (compArg x).bind fun a => (compParts P fields ps).map ((f.offset, fi.size, a) :: ·)
def compElems (sz : Nat) : List (Nat × Operand) → Option (List (Nat × Nat × Arg))
  | [] => some []
  | (i, x) :: ps => (compArg x).bind fun a => (compElems sz ps).map ((i * sz, sz, a) :: ·)
def repCells (n : Nat) (z : List PV) : List PV := (List.replicate n z).flatten
def isRow (h : Hint) (d : Option Nat) : Bool := match d with | some d => h.rows.contains d | none => false
def isLit (h : Hint) (d : Option Nat) : Bool := match d with | some d => h.lits.contains d | none => false
def isExt (h : Hint) (d : Option Nat) : Bool := match d with | some d => h.exts.contains d | none => false
def isMv (h : Hint) (d : Option Nat) : Bool := match d with | some d => h.mvs.contains d | none => false
def isRo (h : Hint) (d : Option Nat) : Bool := match d with | some d => h.ros.contains d | none => false
def isTake (h : Hint) (d : Option Nat) : Bool := match d with | some d => h.loads.contains d | none => false
def takesOf (h : Hint) (f : Nat) : List Bool := ((h.takes.find? fun p => p.1 == f).map (·.2)).getD []
def compSlice (P : Program) (t : TypeId) (x : Operand) (lo hi mx : Option Operand) : Option PK :=
  match P.underlying t with
  | some (.slice e) => (P.info? e).bind fun i => (compArg x).bind fun x => (compOpt lo).bind fun lo => (compOpt hi).bind fun hi => (compOpt mx).map fun mx => .sli i.size x lo hi mx
  | some .string => if mx.isSome then none else (compArg x).bind fun x => (compOpt lo).bind fun lo => (compOpt hi).map fun hi => .sls x lo hi
  | _ => none
def compConv (P : Program) (src dst : TypeId) (x : Operand) : Option PK :=
  match P.underlying src, P.underlying dst with
  | some (.int _), some (.int k) => (compArg x).map (.cvI k)
  | some .string, some .string => (compArg x).map .idc
  | some (.slice e), some .string => match P.underlying e with
    | some (.int .u8) => (compArg x).map .cvS
    | _ => none
  | some .string, some (.slice e) => match P.underlying e with
    | some (.int .u8) => (compArg x).map .cvB
    | _ => none
  | some (.slice e), some (.slice _) => if src = dst then (match P.underlying e with
    | some (.int .u8) => (compArg x).map .cvM
    | _ => none) else none
  | _, _ => none
/-- The kinds of a struct's fields, all of them plain. -/
def plainKinds (P : Program) : Nat → List Field → Option (List Nat)
  | _, [] => some []
  | i, f :: fs => if f.offset = i ∧ f.name ≠ "_" then (match P.underlying f.type with
    | some (.int _) => (plainKinds P (i + 1) fs).map (0 :: ·)
    | some .bool => (plainKinds P (i + 1) fs).map (1 :: ·)
    | some .string => (plainKinds P (i + 1) fs).map (2 :: ·)
    | _ => none) else none
def isNil : Operand → Bool
  | .const (.slice none _ _) => true
  | _ => false
def compBin (P : Program) (op : BinOp) (t : TypeId) (x y : Operand) : Option PK :=
  match P.underlying t with
  | some (.int _) => (compArg x).bind fun x => (compArg y).map fun y => .bin op x y
  | some .string => (compArg x).bind fun x => (compArg y).map fun y => .bin op x y
  | some .bool => (compArg x).bind fun x => (compArg y).bind fun y => match op with | .eql => some (.binB false x y) | .neq => some (.binB true x y) | _ => none
  | some (.slice _) => if isNil y = true then (compArg x).bind fun x => match op with | .eql => some (.eqN false x) | .neq => some (.eqN true x) | _ => none else none
  | some (.struct fields) => if P.eqGuardType P.depth t = false ∧ P.stoodInHeld t = false then (plainKinds P 0 fields.toList).bind fun ks => (compArg x).bind fun x => (compArg y).bind fun y => match op with | .eql => some (.eqS false ks x y) | .neq => some (.eqS true ks x y) | _ => none else none
  | _ => none
def compBuiltin (P : Program) (b : Builtin) (ts : List TypeId) (args : List Operand) : Option PK :=
  match b, ts, args with
  | .append, [t, tx], [x, y] => match P.underlying t, P.underlying tx with
    | some (.slice e), some dx => (P.info? e).bind fun i => i.zero.bind fun z => if z.cells.size = i.size ∧ 0 < i.size ∧ 1 ≤ i.bytes ∧ (match dx with | .string => true | .slice _ => true | _ => false) = true then
        (compArg x).bind fun x => (compArg y).map fun y => .app i.size i.bytes x y else none
    | _, _ => none
  | .len, [t], [x] => match P.underlying t with
    | some .string => (compArg x).map (.len true)
    | some (.slice _) => (compArg x).map (.len false)
    | _ => none
  | .max, _, [x, y] => (compArg x).bind fun x => (compArg y).map fun y => .mm true x y
  | .min, _, [x, y] => (compArg x).bind fun x => (compArg y).map fun y => .mm false x y
  | _, _, _ => none
/-- What is done to rows of H. -/
def compRow (P : Program) (h : Hint) (d : Option Nat) (b : Builtin) (ts : List TypeId) (args : List Operand) : Option PK :=
  match b, ts, args with
  | .append, [t, tx], [x, y] => if isRow h d = true then match P.underlying t, P.underlying tx with
    | some (.slice e), some dx => (P.info? e).bind fun i => i.zero.bind fun z => (constCells z.cells.toList).bind fun zero => if z.cells.size = i.size ∧ 0 < i.size ∧ 1 ≤ i.bytes ∧ (match dx with | .string => true | .slice _ => true | _ => false) = true then
        (compArg x).bind fun x => (compArg y).map fun y => .appR i.size i.bytes zero x y else none
    | _, _ => none else none
  | .copy, [t, _], [x, y] => match P.underlying t with
    | some (.slice e) => (P.info? e).bind fun i => if 0 < i.size then (compArg x).bind fun x => (compArg y).map fun y => .cpy i.size x y else none
    | _ => none
  | .clear, [t], [x] => match P.underlying t with
    | some (.slice e) => (P.info? e).bind fun i => i.zero.bind fun z => (constCells z.cells.toList).bind fun zero => if z.cells.size = i.size ∧ 0 < i.size then (compArg x).map fun x => .clr i.size zero x else none
    | _ => none
  | .cap, [t], [x] => match P.underlying t with
    | some (.slice _) => (compArg x).map .cap
    | _ => none
  | _, _, _ => none
def compOp0 (P : Program) (h : Hint) (o : Oper) : Option PK :=
  match o.op with
  | .move x => (compArg x).map (.mv (isMv h o.dst))
  | .assign x => (compArg x).map (.mv true)
  | .pick c a b => (compArg c).bind fun c => (compArg a).bind fun a => (compArg b).map fun b => .pick c a b
  | .alloc elem => (P.info? elem).bind fun i => i.zero.bind fun z => (constCells z.cells.toList).map .al
  | .box elem x => (P.info? elem).bind fun i => (compArg x).map fun x => if isRo h o.dst then .bxI i.size x else .bx i.size x
  | .build t parts => match P.underlying t with
    | some (.struct fields) => (P.info? t).bind fun i => i.zero.bind fun z => (constCells z.cells.toList).bind fun zero =>
        if fields.toList.all (fun f => (P.info? f.type).isSome) = true then (compParts P fields parts.toList).map fun ps => .build zero ps else none
    | _ => none
  | .buildSlice t len parts => match P.underlying t with
    | some (.slice e) => (P.info? e).bind fun i => (P.underlying e).bind fun d => i.zero.bind fun z => (constCells z.cells.toList).bind fun zero =>
        if zero.length = i.size ∧ 0 < i.size ∧ len * i.size ≤ 16777216 ∧ (isAggD d = false → i.size = 1) then (compElems i.size parts.toList).map fun ps => if isLit h o.dst then .nl i.size len (isAggD d) (repCells len zero) (ps.map fun p => (p.1, p.2.2)) else .bsl i.size len (isAggD d) (repCells len zero) (ps.map fun p => (p.1, p.2.2)) (isRow h o.dst) else none
    | _ => none
  | .load t a => (P.info? t).bind fun i => (P.underlying t).bind fun d => if isAggD d = false → i.size = 1 then (compArg a).map fun a => .ld i.size (isAggD d) (isTake h o.dst) a else none
  | .store t a x => (P.info? t).bind fun i => (compArg a).bind fun a => (compArg x).map fun x => .sto i.size a x
  | .nilCheck x => (compArg x).map .nck
  | .binOp op t x y _ => compBin P op t x y
  | .unOp op _ x => (compArg x).map (.un op)
  | .convert src dst x => compConv P src dst x
  | .makeFunc fn first captured => (compArgs first.toList).bind fun f => (compArgs captured.toList).map fun c => .mkf fn f c
  | .makeSlice t l c => match P.underlying t with
    | some (.slice e) => (P.info? e).bind fun i => (P.underlying e).bind fun d => i.zero.bind fun z => (constCells z.cells.toList).bind fun zero =>
        if zero.length = i.size ∧ 0 < i.size ∧ 1 ≤ i.bytes ∧ (isAggD d = false → i.size = 1) then (compArg l).bind fun l => (compArg c).map fun c => .mk i.size i.bytes (isAggD d) zero l c (isRow h o.dst) else none
    | _ => none
  | .slice t x lo hi mx => compSlice P t x lo hi mx
  | .fieldAddr s x f => match P.underlying s with
    | some (.struct fields) => (fields[f]?).bind fun f => (P.info? f.type).bind fun i => if i.size ≠ 0 then (compArg x).map (.fad f.offset) else none
    | _ => none
  | .field s x f => match P.underlying s with
    | some (.struct fields) => (fields[f]?).bind fun f => (P.info? f.type).bind fun i => (P.underlying f.type).bind fun d => if isAggD d = false → i.size = 1 then (compArg x).map (.fld f.offset i.size (isAggD d)) else none
    | _ => none
  | .indexAddr t x ix => match P.underlying t with
    | some (.slice e) => (P.info? e).bind fun i => (compArg x).bind fun x => (compArg ix).map fun ix => .iad i.size x ix
    | _ => none
  | .index t x ix => match P.underlying t with
    | some .string => (compArg x).bind fun x => (compArg ix).map fun ix => .idx x ix
    | _ => none
  | .extract x i => (compArg x).map fun x => .ext (isExt h o.dst) x i
  | .call c => match c.callee with
    | .builtin b => match compRow P h o.dst b c.argTypes.toList c.args.toList with
      | some k => some k
      | none => compBuiltin P b c.argTypes.toList c.args.toList
    | .value (.func f) => (compArgs c.args.toList).map fun as => .callF f as (takesOf h f)
    | .value f => (compArg f).bind fun f => (compArgs c.args.toList).map fun as => .callV f as
    | _ => none
  | _ => none
/-- An operation; one that isn't turned may stand where it is never come to. -/
def compOp (P : Program) (h : Hint) (o : Oper) : Option PK := some ((compOp0 P h o).getD .bad)
def cvIP (k : IntKind) : PV → Option PV
  | .int _ n => some (.int k (k.wrap n))
  | _ => none
def idcP : PV → Option PV
  | .str s => some (.str s)
  | _ => none
def cvBP : PV → Option PV
  | .str s => if s.length ≤ 9223372036854775807 then some (.lst 1 (s.map (.int .u8)) false) else none
  | _ => none
def chunk (sz : Nat) : Nat → List PV → List PV
  | 0, _ => []
  | n + 1, cs => .agg (cs.take sz) :: chunk sz n (cs.drop sz)
def elemsOf (sz : Nat) (ag : Bool) (n : Nat) (cs : List PV) : List PV := if ag then chunk sz n cs else cs
def partsOf (st : List PV) (ps : List (Nat × Nat × Arg)) : List (Nat × Nat × PV) := ps.map fun p => (p.1, p.2.1, arg st p.2.2)
def elemParts (sz : Nat) (st : List PV) (ps : List (Nat × Arg)) : List (Nat × Nat × PV) := ps.map fun p => (p.1, sz, arg st p.2)
def mkP (sz bytes : Nat) (ag : Bool) (zero : List PV) : PV → PV → Option PV
  | .int _ l, .int _ c => if 0 ≤ l ∧ l ≤ c ∧ c * bytes ≤ 281474976710656 then some (.lst sz (List.replicate l.toNat (if ag then .agg zero else zero.headD .unit)) true) else none
  | _, _ => none
def eqCells : List Nat → List PV → List PV → Option Bool
  | [], [], [] => some true
  | 0 :: ks, .int k a :: cs, .int k' b :: ds => if k = k' then (eqCells ks cs ds).map fun r => decide (a = b) && r else none
  | 1 :: ks, .bool a :: cs, .bool b :: ds => (eqCells ks cs ds).map fun r => (a == b) && r
  | 2 :: ks, .str a :: cs, .str b :: ds => (eqCells ks cs ds).map fun r => decide (a = b) && r
  | _, _, _ => none
def eqSP (ne : Bool) (ks : List Nat) : PV → PV → Option PV
  | .agg cs, .agg ds => (eqCells ks cs ds).map fun r => .bool (if ne then !r else r)
  | _, _ => none
def cvMP : PV → Option PV
  | .nlit 1 xs => some (.lst 1 xs false)
  | _ => none
def mvcP (n : Nat) (x : PV) : Option PV := if (cellsOf x).length = n ∧ (cellsOf x).all PV.isCell = true then some x else none
/-- A variable that nobody will write. -/
def bxP (sz : Nat) (x : PV) : Option PV := if (cellsOf x).all PV.isCell = true ∧ (cellsOf x).length = sz ∧ 0 < sz then some (.ip sz [x] 0 0) else none
/-- What a pure operation comes to. -/
def pev (st : List PV) (H : Heap) : PK → Option PV
  | .mv tk x => some (if tk then argT st x else arg st x)
  | .pick c a b => match arg st c with
    | .bool q => some (if q then arg st a else arg st b)
    | _ => none
  | .bin op x y => binP op (arg st x) (arg st y)
  | .binB ne x y => binBP ne (arg st x) (arg st y)
  | .eqS ne ks x y => eqSP ne ks (arg st x) (arg st y)
  | .cvM x => cvMP (argT st x)
  | .nl sz len ag zero ps => (fillP zero (elemParts sz st ps)).map fun cs => .nlit sz (elemsOf sz ag len cs)
  | .un op x => unP op (arg st x)
  | .cvI k x => cvIP k (arg st x)
  | .cvS x => cvSP (arg st x)
  | .cvB x => cvBP (arg st x)
  | .idc x => idcP (arg st x)
  | .fld off sz ag x => fldP off sz ag (arg st x)
  | .build zero ps => (fillP zero (partsOf st ps)).map .agg
  | .bsl sz len ag zero ps false => (fillP zero (elemParts sz st ps)).map fun cs => .lst sz (elemsOf sz ag len cs) true
  | .idx x i => idxP (arg st x) (arg st i)
  | .iad sz x i => iadP sz (arg st x) (arg st i)
  | .fad off x => fadP off (arg st x)
  | .ld sz ag false x => ldP sz ag H (arg st x)
  | .sli sz x lo hi mx => sliP sz (arg st x) (lo.map (arg st)) (hi.map (arg st)) (mx.map (arg st))
  | .sls x lo hi => slsP (arg st x) (lo.map (arg st)) (hi.map (arg st))
  | .app sz bytes x y => appP sz bytes (argT st x) (arg st y)
  | .len s x => lenP s (arg st x)
  | .mm mx x y => mmP mx (arg st x) (arg st y)
  | .mk sz bytes ag zero l c false => mkP sz bytes ag zero (arg st l) (arg st c)
  | .mkf f first cap => some (.fn f (first.map (arg st)) (cap.map (arg st)))
  | .ext tk x i => extP i (if tk then argT st x else arg st x)
  | .nck x => nckP (arg st x)
  | .bxI sz x => bxP sz (arg st x)
  | .mvc n x => mvcP n (argT st x)
  | _ => none
def extTake (st : List PV) (x : Arg) (i : Nat) : List PV :=
  match x with
  | .t t => match st.getD t .unit with
    | .tup vs => st.set t (.tup (vs.set i (lend (vs.getD i .unit))))
    | _ => st
  | .c _ => st
/-- What is left behind. -/
def ptake (st : List PV) : PK → List PV
  | .mv tk x => if tk then takeAt st x else st
  | .app _ _ x _ => takeAt st x
  | .ext tk x i => if tk then extTake st x i else st
  | .cvM x => takeAt st x
  | .mvc _ x => takeAt st x
  | _ => st
end Go.Proofs.Ytkjibelcaeanjaa.E
