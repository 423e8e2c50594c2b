/- A logic of plain values, part 11: the model's operations turned into operations on data. -/
import Derived.Test.YtkjibelcaeanjaaE10
namespace Go.Proofs.Ytkjibelcaeanjaa.E
open Go Go.RowKit
set_option linter.unusedVariables false
set_option linter.unusedSimpArgs false
/-- What a proof chooses: which made rows are blocks of H, which arguments are handed over with what they own, which loads take what a cell owns. -/
structure Hint where
  rows : List Nat := []
  takes : List (Nat × List Bool) := []
  loads : List Nat := []
  mvs : List Nat := []
  lits : List Nat := []
  exts : List Nat := []
  ros : List Nat := []
  deriving Inhabited
def constCell : Value → Option PV
  | .bool b => some (.bool b)
  | .int k n => some (.int k n)
  | .string s => some (.str (bytesOf s))
  | .slice none 0 0 => some (.lst 0 [] true)
  | .pointer none => some (.ptr none)
  | .nilFunc => some .nilf
  | _ => none
def constCells : List Value → Option (List PV)
  | [] => some []
  | v :: vs => (constCell v).bind fun x => (constCells vs).map (x :: ·)
def constPV : Value → Option PV
  | .agg cs => (constCells cs.toList).map .agg
  | .tuple cs => if cs.isEmpty then some .unit else none
  | v => constCell v
theorem constCell_spec {v : Value} {x : PV} (h : constCell v = some x) : x.isCell = true ∧ toks x v = [] ∧ lend x = x ∨ (∃ b, x = .lst 0 [] b ∧ v = .slice none 0 0) := by
  unfold constCell at h
  split at h <;> cases h <;> simp [PV.isCell, toks, lend]
theorem constCell_VR {v : Value} {x : PV} (h : constCell v = some x) (w : World) (g : Ghost) : VR true w g x v ∧ x.isCell = true ∧ toks x v = [] := by
  unfold constCell at h
  split at h <;> cases h
  · exact ⟨rfl, rfl, by simp [toks]⟩
  · exact ⟨rfl, rfl, by simp [toks]⟩
  · exact ⟨⟨_, rfl, rfl⟩, rfl, by simp [toks]⟩
  · exact ⟨⟨none, 0, rfl, Nat.le_refl _, Nat.zero_le _, .inl rfl, fun _ _ h => by simp at h⟩, rfl, by simp [toks]⟩
  · exact ⟨rfl, rfl, by simp [toks]⟩
  · exact ⟨rfl, rfl, by simp [toks]⟩
theorem constCells_VR (w : World) (g : Ghost) : ∀ {vs : List Value} {xs : List PV}, constCells vs = some xs → VRl true w g xs vs ∧ xs.all PV.isCell = true ∧ toksL xs vs = []
  | [], xs, h => by cases h; exact ⟨rfl, rfl, by simp [toksL]⟩
  | v :: vs, xs, h => by
    obtain ⟨x, h1, h⟩ := Option.bind_eq_some_iff.mp h
    obtain ⟨ys, h2, rfl⟩ := Option.map_eq_some_iff.mp h
    obtain ⟨a1, a2, a3⟩ := constCell_VR h1 w g
    obtain ⟨b1, b2, b3⟩ := constCells_VR w g h2
    exact ⟨⟨v, vs, rfl, a1, b1⟩, by simp [a2, b2], by simp [toksL, a3, b3]⟩
theorem constPV_VR {v : Value} {x : PV} (h : constPV v = some x) (w : World) (g : Ghost) : VR true w g x v ∧ toks x v = [] := by
  unfold constPV at h
  split at h
  · rename_i cs
    obtain ⟨xs, h1, rfl⟩ := Option.map_eq_some_iff.mp h
    obtain ⟨b1, b2, b3⟩ := constCells_VR w g h1
    exact ⟨⟨b2, _, rfl, b1⟩, by simp [toks, b3]⟩
  · split at h
    · cases h
      exact ⟨trivial, by simp [toks]⟩
    · cases h
  · obtain ⟨a1, a2, a3⟩ := constCell_VR h w g
    exact ⟨a1, a3⟩
def compArg : Operand → Option Arg
  | .tmp t => some (.t t)
  | .const v => (constPV v).map .c
  | .func f => some (.c (.fn (.func f) [] []))
  | .global _ => none
def compArgs : List Operand → Option (List Arg)
  | [] => some []
  | x :: xs => (compArg x).bind fun a => (compArgs xs).map (a :: ·)
def compOpt : Option Operand → Option (Option Arg)
  | none => some none
  | some x => (compArg x).map some
theorem argT_spec {w : World} {g : Ghost} {st : List PV} {a : Act} (h : VRl true w g st a.tmps.toList) {x : Operand} {p : Arg} (hp : compArg x = some p) : VR true w g (argT st p) (a.eval x) := by
  unfold compArg at hp
  split at hp
  · rename_i t
    cases hp
    simp only [argT, Act.eval]
    by_cases ht : t < st.length
    · obtain ⟨v, h1, h2⟩ := VRl_get h (List.getElem?_eq_getElem ht)
      have e1 : st.getD t .unit = st[t] := by simp [List.getD, List.getElem?_eq_getElem ht]
      have e2 : a.tmps.getD t undef = v := by
        simp only [Array.getD_eq_getD_getElem?, ← Array.getElem?_toList, h1, Option.getD_some]
      rw [e1, e2]
      exact h2
    · have e1 : st.getD t .unit = .unit := by rw [List.getD, List.getElem?_eq_none (Nat.le_of_not_lt ht)]; rfl
      rw [e1]
      trivial
  · obtain ⟨x, h1, rfl⟩ := Option.map_eq_some_iff.mp hp
    exact (constPV_VR h1 w g).1
  · cases hp
    exact ⟨_, _, rfl, rfl, rfl⟩
  · cases hp
theorem arg_spec {w : World} {g : Ghost} {st : List PV} {a : Act} (h : VRl true w g st a.tmps.toList) {x : Operand} {p : Arg} (hp : compArg x = some p) : VR true w g (arg st p) (a.eval x) :=
  VR_lend _ _ (VR_weak _ _ (argT_spec h hp))
theorem arg_toks {st : List PV} {p : Arg} {v : Value} : toks (arg st p) v = [] := toks_lend _ _
theorem opt_spec {w : World} {g : Ghost} {st : List PV} {a : Act} (h : VRl true w g st a.tmps.toList) {x : Option Operand} {p : Option Arg} (hp : compOpt x = some p) : OptR w g (p.map (arg st)) (x.map a.eval) := by
  cases x with
  | none => cases hp; trivial
  | some x =>
    obtain ⟨q, h1, rfl⟩ := Option.map_eq_some_iff.mp hp
    exact ⟨true, arg_spec h h1⟩
theorem args_spec {w : World} {g : Ghost} {st : List PV} {a : Act} (h : VRl true w g st a.tmps.toList) : ∀ {xs : List Operand} {ps : List Arg}, compArgs xs = some ps → VRl true w g (ps.map (arg st)) (xs.map a.eval) ∧ toksL (ps.map (arg st)) (xs.map a.eval) = []
  | [], ps, hp => by cases hp; exact ⟨rfl, by simp [toksL]⟩
  | x :: xs, ps, hp => by
    obtain ⟨p, h1, hp⟩ := Option.bind_eq_some_iff.mp hp
    obtain ⟨qs, h2, rfl⟩ := Option.map_eq_some_iff.mp hp
    obtain ⟨i1, i2⟩ := args_spec h h2
    exact ⟨⟨_, _, rfl, arg_spec h h1, i1⟩, by simp [toksL, arg_toks, i2]⟩
/-- What is taken from a slot. -/
theorem take_spec {w : World} {g : Ghost} {st : List PV} {a : Act} (h : VRl true w g st a.tmps.toList) {x : Operand} {p : Arg} (hp : compArg x = some p) :
    VRl true w g (takeAt st p) a.tmps.toList ∧ ∀ b, (toksL (takeAt st p) a.tmps.toList).count b + (toks (argT st p) (a.eval x)).count b ≤ (toksL st a.tmps.toList).count b := by
  unfold compArg at hp
  split at hp
  · rename_i t
    cases hp
    simp only [takeAt, argT, Act.eval]
    by_cases ht : t < st.length
    · obtain ⟨v, h1, h2⟩ := VRl_get h (List.getElem?_eq_getElem ht)
      have e1 : st.getD t .unit = st[t] := by simp [List.getD, List.getElem?_eq_getElem ht]
      have e2 : a.tmps.getD t undef = v := by
        simp only [Array.getD_eq_getD_getElem?, ← Array.getElem?_toList, h1, Option.getD_some]
      rw [e1, e2]
      have hset : a.tmps.toList.set t v = a.tmps.toList := by
        obtain ⟨hl, hv⟩ := List.getElem?_eq_some_iff.1 h1
        rw [← hv]
        exact List.set_getElem_self hl
      refine ⟨?_, fun b => ?_⟩
      · have := VRl_set t h (VR_lend (o := true) _ _ (VR_weak _ _ h2))
        rw [hset] at this
        exact this
      · have := count_toksL_set b st a.tmps.toList t (lend st[t]) st[t] v v (List.getElem?_eq_getElem ht) h1
        rw [hset, toks_lend, List.count_nil] at this
        omega
    · have e1 : st.getD t .unit = .unit := by rw [List.getD, List.getElem?_eq_none (Nat.le_of_not_lt ht)]; rfl
      rw [e1, List.set_eq_of_length_le (Nat.le_of_not_lt ht)]
      exact ⟨h, fun b => by simp [toks]⟩
  · obtain ⟨x, h1, rfl⟩ := Option.map_eq_some_iff.mp hp
    exact ⟨h, fun b => by simp only [takeAt, argT, Act.eval, (constPV_VR h1 w g).2, List.count_nil]; omega⟩
  · cases hp
    exact ⟨h, fun b => by simp [takeAt, argT, toks]⟩
  · cases hp
end Go.Proofs.Ytkjibelcaeanjaa.E
