/- A logic of plain values, part 21: what an operation hangs on, and what it touches. -/
import Derived.Test.YtkjibelcaeanjaaE19
namespace Go.Proofs.Ytkjibelcaeanjaa.E
open Go Go.RowKit
set_option linter.unusedVariables false
set_option linter.unusedSimpArgs false
/-- The operands of an operation. -/
def argsOf : PK → List Arg
  | .mv _ x | .un _ x | .cvI _ x | .cvS x | .cvB x | .idc x | .fld _ _ _ x | .fad _ x | .ld _ _ _ x | .len _ x | .bx _ x | .ext _ x _ | .nck x | .eqN _ x | .cvM x | .bxI _ x | .clr _ _ x | .cap x | .mvc _ x => [x]
  | .pick c a b => [c, a, b]
  | .bin _ x y | .binB _ x y | .eqS _ _ x y | .idx x y | .iad _ x y | .sto _ x y | .app _ _ x y | .mm _ x y | .mk _ _ _ _ x y _ | .appR _ _ _ x y | .cpy _ x y => [x, y]
  | .build _ ps => ps.map (·.2.2)
  | .bsl _ _ _ _ ps _ => ps.map (·.2)
  | .sli _ x lo hi mx => x :: (lo.toList ++ hi.toList ++ mx.toList)
  | .sls x lo hi => x :: (lo.toList ++ hi.toList)
  | .nl _ _ _ _ ps => ps.map (·.2)
  | .al _ | .bad => []
  | .mkf _ f c => f ++ c
  | .callF _ as _ => as
  | .callV f as => f :: as
/-- Two looks at a slot: lent (2 t), and with what it owns (2 t + 1). -/
def obs (st : List PV) (n : Nat) : Option PV := if n % 2 = 0 then (st[n / 2]?).map lend else st[n / 2]?
def softs (l : List Arg) : List Nat := l.filterMap fun | .t i => some (2 * i) | .c _ => none
def hards (l : List Arg) : List Nat := l.filterMap fun | .t i => some (2 * i + 1) | .c _ => none
def takenArgs : List Arg → List Bool → List Arg
  | x :: xs, true :: tk => x :: takenArgs xs tk
  | _ :: xs, false :: tk => takenArgs xs tk
  | _, _ => []
/-- The operands that are taken with what they own. -/
def hardOf : PK → List Arg
  | .mv tk x => if tk then [x] else []
  | .app _ _ x _ => [x]
  | .ext tk x _ => if tk then [x] else []
  | .cvM x => [x]
  | .mvc _ x => [x]
  | .sto _ _ v => [v]
  | .callF _ as tk => takenArgs as tk
  | _ => []
def needs (k : PK) : List Nat := softs (argsOf k) ++ hards (hardOf k)
def readsOf (op : POp) : List Nat := needs op.k ++ (match op.gd with | some (t, _) => [2 * t + 1] | none => [])
def dstW (d : Option Nat) : List Nat := match d with | some i => [2 * i, 2 * i + 1] | none => []
def takenTmps (k : PK) : List Nat := hards (hardOf k)
def writesOf (op : POp) : List Nat := dstW op.dst ++ takenTmps op.k
/-- Slots alike. -/
def Same (l : List Nat) (st st' : List PV) : Prop := ∀ t ∈ l, obs st t = obs st' t
theorem obs_even (st : List PV) (i : Nat) : obs st (2 * i) = (st[i]?).map lend := by
  unfold obs
  rw [if_pos (by omega), show 2 * i / 2 = i by omega]
theorem obs_odd (st : List PV) (i : Nat) : obs st (2 * i + 1) = st[i]? := by
  unfold obs
  rw [if_neg (by omega), show (2 * i + 1) / 2 = i by omega]
theorem ext_obs {st st' : List PV} (h : ∀ n, obs st n = obs st' n) : st = st' := by
  apply List.ext_getElem?
  intro i
  have := h (2 * i + 1)
  rwa [obs_odd, obs_odd] at this
theorem argT_same {st st' : List PV} {x : Arg} (h : Same (hards [x]) st st') : argT st x = argT st' x := by
  cases x with
  | t i =>
    have := h (2 * i + 1) (by simp [hards])
    rw [obs_odd, obs_odd] at this
    simp only [argT, List.getD_eq_getElem?_getD, this]
  | c v => rfl
mutual
theorem lend_lend : ∀ v : PV, lend (lend v) = lend v
  | .agg cs => by simp only [lend, lendL_lendL cs]
  | .tup cs => by simp only [lend, lendL_lendL cs]
  | .lst _ _ _ => by simp [lend]
  | .nlit _ _ => by simp [lend]
  | .int _ _ => by simp [lend]
  | .bool _ => by simp [lend]
  | .str _ => by simp [lend]
  | .unit => by simp [lend]
  | .ptr _ => by simp [lend]
  | .ip _ _ _ _ => by simp [lend]
  | .row _ _ _ _ => by simp [lend]
  | .map _ => by simp [lend]
  | .fn _ _ _ => by simp [lend]
  | .nilf => by simp [lend]
theorem lendL_lendL : ∀ vs : List PV, lendL (lendL vs) = lendL vs
  | [] => by simp [lendL]
  | v :: vs => by simp only [lendL, lend_lend v, lendL_lendL vs]
end
theorem lend_unit : lend .unit = .unit := by simp [lend]
theorem lend_getD {st st' : List PV} {i : Nat} (h : (st[i]?).map lend = (st'[i]?).map lend) : lend (st.getD i .unit) = lend (st'.getD i .unit) := by
  simp only [List.getD_eq_getElem?_getD]
  cases h1 : st[i]? <;> cases h2 : st'[i]? <;> simp_all
theorem arg_same {st st' : List PV} {x : Arg} (h : Same (softs [x]) st st') : arg st x = arg st' x := by
  cases x with
  | t i =>
    have := h (2 * i) (by simp [softs])
    rw [obs_even, obs_even] at this
    exact lend_getD this
  | c v => rfl
theorem Same.sub {l l' : List Nat} {st st' : List PV} (h : Same l st st') (hs : ∀ t ∈ l', t ∈ l) : Same l' st st' := fun t ht => h t (hs t ht)
theorem softs_mem {x : Arg} {l : List Arg} (h : x ∈ l) : ∀ t ∈ softs [x], t ∈ softs l := by
  intro t ht
  cases x with
  | t i =>
    simp [softs] at ht
    subst ht
    exact List.mem_filterMap.2 ⟨.t i, h, rfl⟩
  | c v => simp [softs] at ht
theorem hards_mem {x : Arg} {l : List Arg} (h : x ∈ l) : ∀ t ∈ hards [x], t ∈ hards l := by
  intro t ht
  cases x with
  | t i =>
    simp [hards] at ht
    subst ht
    exact List.mem_filterMap.2 ⟨.t i, h, rfl⟩
  | c v => simp [hards] at ht
theorem soft_of {st st' : List PV} {k : PK} (h : Same (needs k) st st') : Same (softs (argsOf k)) st st' := h.sub fun t ht => by simp only [needs, List.mem_append]; exact .inl ht
theorem hard_of {st st' : List PV} {k : PK} (h : Same (needs k) st st') : Same (hards (hardOf k)) st st' := h.sub fun t ht => by simp only [needs, List.mem_append]; exact .inr ht
theorem arg_of {st st' : List PV} {x : Arg} {k : PK} (h : Same (needs k) st st') (hx : x ∈ argsOf k) : arg st x = arg st' x := arg_same ((soft_of h).sub (softs_mem hx))
theorem argT_of {st st' : List PV} {x : Arg} {k : PK} (h : Same (needs k) st st') (hx : x ∈ hardOf k) : argT st x = argT st' x := argT_same ((hard_of h).sub (hards_mem hx))
theorem opt_of {st st' : List PV} {x : Option Arg} {k : PK} (h : Same (needs k) st st') (hx : ∀ y ∈ x.toList, y ∈ argsOf k) : x.map (arg st) = x.map (arg st') := by
  cases x with
  | none => rfl
  | some x => simp only [Option.map_some, arg_of h (hx x (by simp))]
theorem map_of {st st' : List PV} {xs : List Arg} {k : PK} (h : Same (needs k) st st') (hx : ∀ y ∈ xs, y ∈ argsOf k) : xs.map (arg st) = xs.map (arg st') := List.map_congr_left fun y hy => arg_of h (hx y hy)
def isLd : PK → Bool
  | .ld _ _ false _ => true
  | _ => false
/-- A pure operation hangs on its operands alone, a load on its cells, too. -/
theorem pev_same {st st' : List PV} {H H' : Heap} {k : PK} (h : Same (needs k) st st') (hl : isLd k = false ∨ H = H') : pev st H k = pev st' H' k := by
  cases k with
  | mv tk x => cases tk with
    | true => simp only [pev, argT_of h (x := x) (by simp [hardOf]), if_true]
    | false => simp only [pev, arg_of h (x := x) (by simp [argsOf]), Bool.false_eq_true, if_false]
  | pick c a b => simp only [pev, arg_of h (x := c) (by simp [argsOf]), arg_of h (x := a) (by simp [argsOf]), arg_of h (x := b) (by simp [argsOf])]
  | bin op x y => simp only [pev, arg_of h (x := x) (by simp [argsOf]), arg_of h (x := y) (by simp [argsOf])]
  | binB ne x y => simp only [pev, arg_of h (x := x) (by simp [argsOf]), arg_of h (x := y) (by simp [argsOf])]
  | eqS ne ks x y => simp only [pev, arg_of h (x := x) (by simp [argsOf]), arg_of h (x := y) (by simp [argsOf])]
  | eqN ne x => rfl
  | bad => rfl
  | cvM x => simp only [pev, argT_of h (x := x) (by simp [hardOf])]
  | mvc n x => simp only [pev, argT_of h (x := x) (by simp [hardOf])]
  | nl s n ag z ps =>
    have e : elemParts s st ps = elemParts s st' ps := List.map_congr_left fun p hp => by rw [arg_of h (x := p.2) (by simp only [argsOf]; exact List.mem_map.2 ⟨p, hp, rfl⟩)]
    simp only [pev, e]
  | un op x => simp only [pev, arg_of h (x := x) (by simp [argsOf])]
  | cvI k x => simp only [pev, arg_of h (x := x) (by simp [argsOf])]
  | cvS x => simp only [pev, arg_of h (x := x) (by simp [argsOf])]
  | cvB x => simp only [pev, arg_of h (x := x) (by simp [argsOf])]
  | idc x => simp only [pev, arg_of h (x := x) (by simp [argsOf])]
  | fld o s ag x => simp only [pev, arg_of h (x := x) (by simp [argsOf])]
  | build z ps =>
    have e : partsOf st ps = partsOf st' ps := List.map_congr_left fun p hp => by rw [arg_of h (x := p.2.2) (by simp only [argsOf]; exact List.mem_map.2 ⟨p, hp, rfl⟩)]
    simp only [pev, e]
  | bsl s n ag z ps mu =>
    have e : elemParts s st ps = elemParts s st' ps := List.map_congr_left fun p hp => by rw [arg_of h (x := p.2) (by simp only [argsOf]; exact List.mem_map.2 ⟨p, hp, rfl⟩)]
    cases mu <;> simp only [pev, e]
  | idx x i => simp only [pev, arg_of h (x := x) (by simp [argsOf]), arg_of h (x := i) (by simp [argsOf])]
  | iad s x i => simp only [pev, arg_of h (x := x) (by simp [argsOf]), arg_of h (x := i) (by simp [argsOf])]
  | fad o x => simp only [pev, arg_of h (x := x) (by simp [argsOf])]
  | ld s ag tk x =>
    cases tk with
    | true => rfl
    | false =>
      rcases hl with hl | hl
      · cases hl
      · subst hl
        simp only [pev, arg_of h (x := x) (by simp [argsOf])]
  | sto s x v => rfl
  | sli s x lo hi mx =>
    simp only [pev, arg_of h (x := x) (by simp [argsOf]), opt_of h (x := lo) (fun y hy => by simp [argsOf]; simp at hy; simp [hy]), opt_of h (x := hi) (fun y hy => by simp [argsOf]; simp at hy; simp [hy]), opt_of h (x := mx) (fun y hy => by simp [argsOf]; simp at hy; simp [hy])]
  | sls x lo hi =>
    simp only [pev, arg_of h (x := x) (by simp [argsOf]), opt_of h (x := lo) (fun y hy => by simp [argsOf]; simp at hy; simp [hy]), opt_of h (x := hi) (fun y hy => by simp [argsOf]; simp at hy; simp [hy])]
  | app s b x y => simp only [pev, argT_of h (x := x) (by simp [hardOf]), arg_of h (x := y) (by simp [argsOf])]
  | len s x => simp only [pev, arg_of h (x := x) (by simp [argsOf])]
  | mm m x y => simp only [pev, arg_of h (x := x) (by simp [argsOf]), arg_of h (x := y) (by simp [argsOf])]
  | mk s b ag z l c mu => cases mu <;> simp only [pev, arg_of h (x := l) (by simp [argsOf]), arg_of h (x := c) (by simp [argsOf])]
  | al z => rfl
  | bx s x => rfl
  | bxI s x => simp only [pev, arg_of h (x := x) (by simp [argsOf])]
  | appR s b z x y => rfl
  | cpy s x y => rfl
  | clr s z x => rfl
  | cap x => rfl
  | mkf f a c => simp only [pev, map_of h (xs := a) (fun y hy => by simp [argsOf, hy]), map_of h (xs := c) (fun y hy => by simp [argsOf, hy])]
  | callF f as tk => rfl
  | callV f as => rfl
  | ext tk x i => cases tk with
    | true => simp only [pev, argT_of h (x := x) (by simp [hardOf]), if_true]
    | false => simp only [pev, arg_of h (x := x) (by simp [argsOf]), Bool.false_eq_true, if_false]
  | nck x => simp only [pev, arg_of h (x := x) (by simp [argsOf])]
/-- Slot by slot, and only these slots. -/
structure Slotwise (f : List PV → List PV) (ws : List Nat) : Prop where
  slot : ∀ (st st' : List PV) (t : Nat), obs st t = obs st' t → obs (f st) t = obs (f st') t
  rest : ∀ (st : List PV) (t : Nat), t ∉ ws → obs (f st) t = obs st t
theorem Slotwise.id : Slotwise (fun st => st) [] := ⟨fun _ _ _ h => h, fun _ _ _ => rfl⟩
theorem Slotwise.sub {f : List PV → List PV} {ws ws' : List Nat} (h : Slotwise f ws) (hs : ∀ t ∈ ws, t ∈ ws') : Slotwise f ws' := ⟨h.slot, fun st t ht => h.rest st t fun h2 => ht (hs t h2)⟩
theorem Slotwise.comp {f f' : List PV → List PV} {ws ws' : List Nat} (h : Slotwise f ws) (h' : Slotwise f' ws') : Slotwise (fun st => f' (f st)) (ws ++ ws') :=
  ⟨fun st st' t e => h'.slot _ _ t (h.slot _ _ t e), fun st t ht => by
    simp only [List.mem_append, not_or] at ht
    rw [h'.rest _ t ht.2, h.rest st t ht.1]⟩
theorem obs_set (st : List PV) (i : Nat) (x : PV) (n : Nat) : obs (st.set i x) n = if n / 2 = i then (if i < st.length then some (if n % 2 = 0 then lend x else x) else none) else obs st n := by
  unfold obs
  by_cases h : n / 2 = i
  · subst h
    rw [if_pos rfl, List.getElem?_set, if_pos rfl]
    by_cases h2 : n / 2 < st.length
    · rw [if_pos h2, if_pos h2]
      by_cases h3 : n % 2 = 0
      · rw [if_pos h3, if_pos h3]; rfl
      · rw [if_neg h3, if_neg h3]
    · rw [if_neg h2, if_neg h2]; split <;> rfl
  · have : (st.set i x)[n / 2]? = st[n / 2]? := by rw [List.getElem?_set, if_neg (fun e => h e.symm)]
    rw [if_neg h, this]
theorem obs_some {st : List PV} {n : Nat} : (obs st n).isSome = true ↔ n / 2 < st.length := by
  unfold obs
  by_cases h : n / 2 < st.length
  · rw [List.getElem?_eq_getElem h]; split <;> simp [h]
  · rw [List.getElem?_eq_none (by omega)]; split <;> simp [h]
theorem obs_lt {st st' : List PV} {n : Nat} (h : obs st n = obs st' n) : n / 2 < st.length ↔ n / 2 < st'.length := by rw [← obs_some, ← obs_some, h]
theorem local_core {F : PV → PV} (hF : ∀ v v', lend v = lend v' → lend (F v) = lend (F v')) (i : Nat) (st st' : List PV) (n : Nat) (e : obs st n = obs st' n) : obs (st.set i (F (st.getD i .unit))) n = obs (st'.set i (F (st'.getD i .unit))) n := by
  rw [obs_set, obs_set]
  by_cases h : n / 2 = i
  · rw [if_pos h, if_pos h]
    have hl := obs_lt e
    rw [h] at hl
    by_cases h2 : i < st.length
    · rw [if_pos h2, if_pos (hl.1 h2)]
      unfold obs at e
      by_cases h3 : n % 2 = 0
      · rw [if_pos h3, if_pos h3, h] at e
        rw [if_pos h3, if_pos h3, hF _ _ (lend_getD e)]
      · rw [if_neg h3, if_neg h3, h] at e
        rw [if_neg h3, if_neg h3, List.getD_eq_getElem?_getD, List.getD_eq_getElem?_getD, e]
    · rw [if_neg h2, if_neg (fun h3 => h2 (hl.2 h3))]
  · rw [if_neg h, if_neg h, e]
theorem local_set (i : Nat) (F : PV → PV) (hF : ∀ v v', lend v = lend v' → lend (F v) = lend (F v')) : Slotwise (fun st => st.set i (F (st.getD i .unit))) [2 * i, 2 * i + 1] := by
  refine ⟨local_core hF i, fun st t ht => ?_⟩
  simp only [List.mem_cons, List.not_mem_nil, or_false, not_or] at ht
  rw [obs_set, if_neg (by omega)]
/-- .. of what it owns alone. -/
theorem local_take (i : Nat) (F : PV → PV) (hF : ∀ v, lend (F v) = lend v) : Slotwise (fun st => st.set i (F (st.getD i .unit))) [2 * i + 1] := by
  refine ⟨local_core (fun v v' e => by rw [hF, hF, e]) i, fun st t ht => ?_⟩
  simp only [List.mem_singleton] at ht
  rw [obs_set]
  by_cases h : t / 2 = i
  · have h3 : t % 2 = 0 := by omega
    rw [if_pos h, if_pos h3, hF]
    unfold obs
    rw [if_pos h3, h]
    by_cases h2 : i < st.length
    · rw [if_pos h2, List.getElem?_eq_getElem h2, List.getD_eq_getElem?_getD, List.getElem?_eq_getElem h2]
      rfl
    · rw [if_neg h2, List.getElem?_eq_none (by omega)]
      rfl
  · rw [if_neg h]
theorem local_put (d : Option Nat) (v : PV) : Slotwise (fun st => putSt st d v) (dstW d) := by
  cases d with
  | none => exact Slotwise.id
  | some i => exact local_set i (fun _ => v) (fun _ _ _ => rfl)
theorem local_takeAt (x : Arg) : Slotwise (fun st => takeAt st x) (hards [x]) := by
  cases x with
  | t i => exact local_take i lend lend_lend
  | c v => exact Slotwise.id
theorem lendL_set : ∀ (vs : List PV) (i : Nat), lendL (vs.set i (lend (vs.getD i .unit))) = lendL vs
  | [], i => by simp [lendL]
  | v :: vs, 0 => by simp [lendL, lend_lend]
  | v :: vs, i + 1 => by
    have := lendL_set vs i
    simp only [List.set_cons_succ, lendL, List.getD_cons_succ, this]
theorem local_extTake (x : Arg) (i : Nat) : Slotwise (fun st => extTake st x i) (hards [x]) := by
  cases x with
  | t t =>
    have h := local_take t (fun v => match v with | .tup vs => .tup (vs.set i (lend (vs.getD i .unit))) | v => v) (fun v => by
      cases v <;> first | rfl | (simp only [lend, lendL_set]))
    have e : (fun st => extTake st (.t t) i) = fun st => st.set t ((fun v => match v with | .tup vs => .tup (vs.set i (lend (vs.getD i .unit))) | v => v) (st.getD t .unit)) := by
      funext st
      have self : st.set t (st.getD t .unit) = st := by
        by_cases ht : t < st.length
        · have : st.getD t .unit = st[t] := by simp [List.getD, List.getElem?_eq_getElem ht]
          rw [this, List.set_getElem_self]
        · rw [List.set_eq_of_length_le (by omega)]
      cases hv : st.getD t .unit <;> simp only [extTake, hv] <;> first | rfl | (rw [← hv]; exact self.symm)
    rw [e]
    exact h
  | c v => exact Slotwise.id
theorem local_ptake (k : PK) : Slotwise (fun st => ptake st k) (takenTmps k) := by
  cases k with
  | mv tk x =>
    cases tk with
    | true => exact local_takeAt _
    | false => exact Slotwise.id
  | ext tk x i =>
    cases tk with
    | true => exact local_extTake _ _
    | false => exact Slotwise.id
  | app s b x y => exact local_takeAt _
  | cvM x => exact local_takeAt _
  | mvc n x => exact local_takeAt _
  | _ => exact Slotwise.id.sub (fun t ht => by cases ht)
theorem hards_cons (x : Arg) (xs : List Arg) : hards (x :: xs) = hards [x] ++ hards xs := by
  cases x <;> simp [hards]
theorem softs_cons (x : Arg) (xs : List Arg) : softs (x :: xs) = softs [x] ++ softs xs := by
  cases x <;> simp [softs]
theorem local_callTake : ∀ (xs : List Arg) (tk : List Bool), Slotwise (fun st => callTake st xs tk) (hards (takenArgs xs tk))
  | [], tk => by
    have : (fun st => callTake st [] tk) = fun st => st := by funext st; simp [callTake]
    rw [this]
    exact Slotwise.id.sub (fun t ht => by cases ht)
  | x :: xs, [] => (local_callTake xs []).sub fun t ht => by
      cases xs <;> simp [takenArgs, hards] at ht
  | x :: xs, false :: tk => local_callTake xs tk
  | x :: xs, true :: tk => by
    rw [takenArgs, hards_cons]
    exact (local_takeAt x).comp (local_callTake xs tk)
theorem callArgs_same : ∀ (xs : List Arg) (tk : List Bool) {st st' : List PV}, Same (softs xs) st st' → Same (hards (takenArgs xs tk)) st st' → callArgs st xs tk = callArgs st' xs tk
  | [], _, _, _, _, _ => by simp [callArgs]
  | x :: xs, [], st, st', h, h' => by
    rw [softs_cons] at h
    simp only [callArgs, arg_same (x := x) (h.sub fun t ht => by simp [ht]), callArgs_same xs [] (h.sub fun t ht => by simp [ht]) (fun t ht => by cases xs <;> simp [takenArgs, hards] at ht)]
  | x :: xs, false :: tk, st, st', h, h' => by
    rw [softs_cons] at h
    simp only [callArgs, arg_same (x := x) (h.sub fun t ht => by simp [ht]), callArgs_same xs tk (h.sub fun t ht => by simp [ht]) h']
  | x :: xs, true :: tk, st, st', h, h' => by
    rw [softs_cons] at h
    rw [takenArgs, hards_cons] at h'
    have h2 : Same (softs xs) (takeAt st x) (takeAt st' x) := fun t ht => (local_takeAt x).slot st st' t (h t (by simp [ht]))
    have h3 : Same (hards (takenArgs xs tk)) (takeAt st x) (takeAt st' x) := fun t ht => (local_takeAt x).slot st st' t (h' t (by simp [ht]))
    simp only [callArgs, argT_same (x := x) (h'.sub fun t ht => by simp [ht]), callArgs_same xs tk h2 h3]
end Go.Proofs.Ytkjibelcaeanjaa.E
