/- A logic of plain values, part 9: conversions, structs and slices that are built, rows that are made. -/
import Derived.Test.YtkjibelcaeanjaaE8
import Derived.Laws.BytesString
namespace Go.Proofs.Ytkjibelcaeanjaa.E
open Go Go.RowKit
set_option linter.unusedVariables false
set_option linter.unusedSimpArgs false
def toInts : List PV → Option (List Int)
  | [] => some []
  | .int .u8 n :: xs => (toInts xs).map (n :: ·)
  | _ :: _ => none
theorem toInts_map (l : List Int) : toInts (l.map (PV.int .u8)) = some l := by
  induction l with
  | nil => rfl
  | cons a l ih => simp [toInts, ih]
/-- A number as a byte. -/
def norm8 (n : Int) : Int := ((UInt8.ofNat n.toNat).toNat : Int)
theorem norm8_of {n : Int} (h : 0 ≤ n ∧ n < 256) : norm8 n = n := by
  unfold norm8
  rw [UInt8.toNat_ofNat']
  omega
def cvSP : PV → Option PV
  | .lst s xs _ => if s = 1 ∨ xs.isEmpty = true then (toInts xs).map fun l => .str (l.map norm8) else none
  | _ => none
theorem VRe_ints {w : World} {g : Ghost} : ∀ {xs : List PV} {l : List Int} {vs : List Value}, toInts xs = some l → VRe w g 1 xs vs → vs = l.map (Value.int .u8)
  | [], l, vs, h, r => by
    simp only [toInts, Option.some.injEq] at h
    subst h
    cases r
    rfl
  | x :: xs, l, vs, h, r => by
    unfold toInts at h
    split at h
    · rename_i h'; cases h'
    · rename_i n xs' h'
      cases h'
      obtain ⟨l', h1, rfl⟩ := Option.map_eq_some_iff.mp h
      obtain ⟨_, _, v, vs', rfl, h2, h3⟩ := r
      cases h2
      rw [VRe_ints h1 h3]
      rfl
    · cases h
theorem push_fold : ∀ (l : List Int) (s : ByteArray), bytesOf (l.foldl (fun r n => r.push (UInt8.ofNat n.toNat)) s) = bytesOf s ++ l.map norm8
  | [], s => by simp
  | n :: l, s => by
    rw [List.foldl_cons, push_fold l]
    simp [bytesOf, ByteArray.push, norm8]
theorem cvSP_run {P : Program} {w : World} {g : Ghost} {x r : PV} {v : Value} (h : cvSP x = some r) (hx : VR false w g x v) :
    ∃ z, (Conv.bytesToString v).run P w = .ok z w ∧ VR true w g r z ∧ toks r z = [] := by
  unfold cvSP at h
  split at h
  · rename_i s xs own
    split at h
    · rename_i hs
      obtain ⟨l, h1, rfl⟩ := Option.map_eq_some_iff.mp h
      have hx0 := hx
      obtain ⟨A, cap, rfl, _⟩ := hx
      obtain ⟨vs, o1, o2, o3, o4, o5⟩ := VR_lst_cells (P := P) hx0 hs
      have e := VRe_ints h1 o2
      cases A with
      | none =>
        have hn : xs = [] := by
          rcases o5 with o5 | ⟨b, off, o5, _⟩
          · exact o5
          · cases o5
        subst hn
        simp only [toInts, Option.some.injEq] at h1
        subst h1
        exact ⟨.string .empty, by simp [Conv.bytesToString], ⟨_, rfl, rfl⟩, by simp [toks]⟩
      | some a =>
        have hc := o4 w rfl cap
        simp only [Builtin.firstCells, Nat.mul_one] at hc
        rw [e] at hc
        refine ⟨_, run_bytesToString w a xs.length cap l hc, ⟨_, rfl, ?_⟩, by simp [toks]⟩
        rw [push_fold]
        rfl
    · cases h
  · cases h
/-! structs -/
def fillP (cs : List PV) : List (Nat × Nat × PV) → Option (List PV)
  | [] => some cs
  | (off, sz, v) :: rest => if (cellsOf v).length = sz ∧ off + sz ≤ cs.length ∧ (cellsOf v).all PV.isCell = true then fillP (cs.take off ++ cellsOf v ++ cs.drop (off + sz)) rest else none
theorem foldl_set (off : Nat) : ∀ (us : List Value) (j : Nat) (cells : Array Value), off + j + us.length ≤ cells.size →
    ((us.zipIdx j).foldl (fun cs (p : Value × Nat) => cs.setIfInBounds (off + p.2) p.1) cells).toList = cells.toList.take (off + j) ++ us ++ cells.toList.drop (off + j + us.length)
  | [], j, cells, h => by simp
  | u :: us, j, cells, h => by
    simp only [List.zipIdx_cons, List.foldl_cons]
    simp only [List.length_cons] at h
    rw [foldl_set off us (j + 1) (cells.setIfInBounds (off + j) u) (by rw [Array.size_setIfInBounds]; omega)]
    have hlt : off + j < cells.toList.length := by show off + j < cells.size; omega
    simp only [Array.toList_setIfInBounds, List.length_cons]
    rw [show off + (j + 1) = off + j + 1 by omega, show off + j + 1 + us.length = off + j + (us.length + 1) by omega]
    rw [List.take_succ_eq_append_getElem (by rw [List.length_set]; exact hlt), List.take_set_of_le (by omega), List.getElem_set_self, List.drop_set_of_lt (by omega)]
    simp
theorem VR_cells {o : Bool} {w : World} {g : Ghost} {x : PV} {v : Value} (hc : (cellsOf x).all PV.isCell = true) (h : VR o w g x v) : VRl o w g (cellsOf x) v.cells.toList ∧ toksL (cellsOf x) v.cells.toList = toks x v := by
  have one : x.isCell = true → VRl o w g (cellsOf x) v.cells.toList ∧ toksL (cellsOf x) v.cells.toList = toks x v := by
    intro hx
    have e : cellsOf x = [x] := by cases x <;> first | rfl | cases hx
    have ho := VR_oneCell hx h
    have e2 : v.cells = #[v] := by cases v <;> first | rfl | cases ho
    rw [e, e2]
    exact ⟨⟨v, [], rfl, h, rfl⟩, by simp [toksL]⟩
  cases x with
  | agg cs =>
    obtain ⟨_, vs, rfl, h1⟩ := h
    exact ⟨h1, by simp [cellsOf, toks, Value.cells]⟩
  | unit => simp [cellsOf, PV.isCell] at hc
  | tup cs => simp [cellsOf, PV.isCell] at hc
  | _ => exact one rfl
def PartsR (o : Bool) (w : World) (g : Ghost) (place : Nat → Option (Nat × Nat)) : List (Nat × Nat × PV) → List (Nat × Value) → Prop
  | [], qs => qs = []
  | p :: ps, qs => ∃ q qs', qs = q :: qs' ∧ place q.1 = some (p.1, p.2.1) ∧ VR o w g p.2.2 q.2 ∧ toks p.2.2 q.2 = [] ∧ PartsR o w g place ps qs'
theorem fillP_run {o : Bool} {w : World} {g : Ghost} {place : Nat → Option (Nat × Nat)} : ∀ {parts : List (Nat × Nat × PV)} {ps : List (Nat × Value)} {cs rs : List PV} {us : Array Value}, fillP cs parts = some rs → cs.all PV.isCell = true → VRl o w g cs us.toList → toksL cs us.toList = [] →
    PartsR o w g place parts ps →
    ∃ us', Instr.fill place us ps = some us' ∧ rs.all PV.isCell = true ∧ VRl o w g rs us'.toList ∧ toksL rs us'.toList = []
  | [], _, cs, rs, us, h, hc, hv, ht, hp => by
    cases hp
    cases h
    exact ⟨us, rfl, hc, hv, ht⟩
  | (off, sz, v) :: rest, _, cs, rs, us, h, hc, hv, ht, hp => by
      obtain ⟨⟨i, u⟩, ps, rfl, q1, q2, q3, hp⟩ := hp
      simp only at q1 q2 q3
      unfold fillP at h
      split at h
      · rename_i hb
        obtain ⟨b1, b2, b3⟩ := hb
        have hl := VRl_length hv
        obtain ⟨hcv, hct⟩ := VR_cells b3 q2
        have hcl := VRl_length hcv
        have hus : us.toList.length = us.size := rfl
        have hul : u.cells.toList.length = u.cells.size := rfl
        have key : (u.cells.zipIdx.foldl (fun cs (p : Value × Nat) => cs.setIfInBounds (off + p.2) p.1) us).toList = us.toList.take off ++ u.cells.toList ++ us.toList.drop (off + sz) := by
          rw [← Array.foldl_toList, Array.toList_zipIdx]
          have := foldl_set off u.cells.toList 0 us (by omega)
          rw [this]
          simp only [Nat.add_zero]
          congr 2
          omega
        have t1 : toksL (cs.take off) (us.toList.take off) = [] ∧ toksL (cs.drop (off + sz)) (us.toList.drop (off + sz)) = [] := by
          constructor
          · have := toksL_append (cs.take off) (cs.drop off) (us.toList.take off) (us.toList.drop off) (by rw [List.length_take, List.length_take]; omega)
            rw [List.take_append_drop, List.take_append_drop, ht] at this
            exact (List.append_eq_nil_iff.1 this.symm).1
          · have := toksL_append (cs.take (off + sz)) (cs.drop (off + sz)) (us.toList.take (off + sz)) (us.toList.drop (off + sz)) (by rw [List.length_take, List.length_take]; omega)
            rw [List.take_append_drop, List.take_append_drop, ht] at this
            exact (List.append_eq_nil_iff.1 this.symm).2
        obtain ⟨us', r1, r2, r3, r4⟩ := fillP_run (us := u.cells.zipIdx.foldl (fun cs (p : Value × Nat) => cs.setIfInBounds (off + p.2) p.1) us) h (by
            rw [List.all_append, List.all_append, b3]
            have := all_drop_take hc 0 off
            rw [List.drop_zero] at this
            rw [this]
            have := all_drop_take hc (off + sz) cs.length
            rw [List.take_of_length_le (by rw [List.length_drop]; omega)] at this
            rw [this]
            rfl) (by
            rw [key]
            exact VRl_append (VRl_append (VRl_take off hv).1 hcv) (VRl_take (off + sz) hv).2) (by
            rw [key, toksL_append _ _ _ _ (by simp only [List.length_append, List.length_take]; omega), toksL_append _ _ _ _ (by simp only [List.length_take]; omega), t1.1, t1.2, hct, q3]
            rfl) hp
        refine ⟨us', ?_, r2, r3, r4⟩
        unfold Instr.fill
        rw [q1]
        simp only
        rw [if_neg (by simp only [Bool.or_eq_true, decide_eq_true_eq, not_or]; omega)]
        exact r1
      · cases h
end Go.Proofs.Ytkjibelcaeanjaa.E
