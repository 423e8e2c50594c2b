/- A logic of plain values, part 33: an empty slice is one of any elements. -/
import Derived.Test.YtkjibelcaeanjaaE32
namespace Go.Proofs.Ytkjibelcaeanjaa.E
open Go Go.RowKit
set_option linter.unusedVariables false
set_option linter.unusedSimpArgs false
mutual
/-- The same value, said otherwise: a slice without elements, and capacity, is one of any elements; b: what is owned matters. -/
def Up (b : Bool) : PV → PV → Prop
  | .lst s xs o, y => ∃ s' ys o', y = .lst s' ys o' ∧ (s' = s ∨ (s = 0 ∧ xs = [])) ∧ (b = true → o' = o) ∧ UpL false xs ys
  | .agg cs, y => ∃ ds, y = .agg ds ∧ UpL b cs ds
  | .tup cs, y => ∃ ds, y = .tup ds ∧ UpL b cs ds
  | x, y => y = x
def UpL (b : Bool) : List PV → List PV → Prop
  | [], ys => ys = []
  | x :: xs, ys => ∃ y ys', ys = y :: ys' ∧ Up b x y ∧ UpL b xs ys'
end
mutual
theorem Up_refl (b : Bool) : ∀ x : PV, Up b x x
  | .lst s xs o => ⟨s, xs, o, rfl, .inl rfl, fun _ => rfl, UpL_refl false xs⟩
  | .agg cs => ⟨cs, rfl, UpL_refl b cs⟩
  | .tup cs => ⟨cs, rfl, UpL_refl b cs⟩
  | .int .. | .bool .. | .str .. | .unit | .ptr .. | .ip .. | .row .. | .map .. | .fn .. | .nilf | .nlit .. => rfl
theorem UpL_refl (b : Bool) : ∀ xs : List PV, UpL b xs xs
  | [] => rfl
  | x :: xs => ⟨x, xs, rfl, Up_refl b x, UpL_refl b xs⟩
end
theorem UpL_length {b : Bool} : ∀ {xs ys : List PV}, UpL b xs ys → ys.length = xs.length
  | [], ys, h => by cases h; rfl
  | x :: xs, ys, h => by
    obtain ⟨y, ys', rfl, _, h⟩ := h
    simp [UpL_length h]
theorem Up_isCell {b : Bool} {x y : PV} (h : Up b x y) : y.isCell = x.isCell := by
  cases x <;> first
    | (obtain ⟨s', ys, o', rfl, _⟩ := h; rfl)
    | (obtain ⟨ds, rfl, _⟩ := h; rfl)
    | (cases h; rfl)
theorem UpL_all {b : Bool} : ∀ {xs ys : List PV}, UpL b xs ys → ys.all PV.isCell = xs.all PV.isCell
  | [], ys, h => by cases h; rfl
  | x :: xs, ys, h => by
    obtain ⟨y, ys', rfl, h1, h2⟩ := h
    simp [Up_isCell h1, UpL_all h2]
mutual
theorem Up_VR {o b : Bool} (hb : o = true → b = true) {w : World} {g : Ghost} : ∀ (x y : PV) (v : Value), Up b x y → VR o w g x v → VR o w g y v
  | .lst s xs own, y, v, hu, h => by
    obtain ⟨s', ys, o', rfl, hs, ho, hx⟩ := hu
    obtain ⟨A, cap, rfl, h1, h2, h3, h4⟩ := h
    have hl := UpL_length hx
    refine ⟨A, cap, by rw [hl], by omega, h2, ?_, fun e1 e2 hlt => ?_⟩
    · rcases hs with rfl | ⟨rfl, rfl⟩
      · rcases h3 with h3 | ⟨b, off, vs, h5, h6, h7⟩
        · subst h3; cases hx; exact .inl rfl
        · exact .inr ⟨b, off, vs, h5, by rw [hl]; exact h6, UpL_VRe xs ys vs hx h7⟩
      · cases hx; exact .inl rfl
    · have e3 := ho (hb e1)
      subst e3
      have := h4 e1 e2 (by omega)
      rcases hs with rfl | ⟨rfl, rfl⟩
      · rw [hl]; exact this
      · exact absurd this.1 (by omega)
  | .agg cs, y, v, hu, h => by
    obtain ⟨ds, rfl, hx⟩ := hu
    obtain ⟨h0, vs, rfl, h1⟩ := h
    exact ⟨by rw [UpL_all hx]; exact h0, vs, rfl, UpL_VR hb cs ds vs.toList hx h1⟩
  | .tup cs, y, v, hu, h => by
    obtain ⟨ds, rfl, hx⟩ := hu
    obtain ⟨vs, rfl, h1⟩ := h
    exact ⟨vs, rfl, UpL_VR hb cs ds vs.toList hx h1⟩
  | .int .., y, v, hu, h => by cases hu; exact h
  | .bool .., y, v, hu, h => by cases hu; exact h
  | .str .., y, v, hu, h => by cases hu; exact h
  | .unit, y, v, hu, h => by cases hu; exact h
  | .ptr .., y, v, hu, h => by cases hu; exact h
  | .ip .., y, v, hu, h => by cases hu; exact h
  | .row .., y, v, hu, h => by cases hu; exact h
  | .map .., y, v, hu, h => by cases hu; exact h
  | .fn .., y, v, hu, h => by cases hu; exact h
  | .nilf, y, v, hu, h => by cases hu; exact h
  | .nlit .., y, v, hu, h => by cases hu; exact h
theorem UpL_VR {o b : Bool} (hb : o = true → b = true) {w : World} {g : Ghost} : ∀ (xs ys : List PV) (vs : List Value), UpL b xs ys → VRl o w g xs vs → VRl o w g ys vs
  | [], ys, vs, hu, h => by cases hu; exact h
  | x :: xs, ys, vs, hu, h => by
    obtain ⟨y, ys', rfl, h1, h2⟩ := hu
    obtain ⟨v, vs', rfl, h3, h4⟩ := h
    exact ⟨v, vs', rfl, Up_VR hb x y v h1 h3, UpL_VR hb xs ys' vs' h2 h4⟩
theorem UpL_VRe {w : World} {g : Ghost} {sz : Nat} : ∀ (xs ys : List PV) (vs : List Value), UpL false xs ys → VRe w g sz xs vs → VRe w g sz ys vs
  | [], ys, vs, hu, h => by cases hu; exact h
  | x :: xs, ys, vs, hu, h => by
    obtain ⟨y, ys', rfl, h1, h2⟩ := hu
    obtain ⟨us, vs', rfl, ⟨hl, h3⟩, h4⟩ := VRe_cons.1 h
    refine VRe_cons.2 ⟨us, vs', rfl, ⟨hl, ?_⟩, UpL_VRe xs ys' vs' h2 h4⟩
    rcases h3 with ⟨cs, e, h5, h6⟩ | ⟨h5, v, rfl, h6⟩
    · have hag : VR false w g x (.agg us.toArray) := by rw [e]; exact ⟨h5, us.toArray, rfl, by simpa using h6⟩
      have h7 := Up_VR (o := false) (b := false) (fun h => h) x y _ h1 hag
      rw [e] at h1
      obtain ⟨ds, rfl, h1⟩ := h1
      obtain ⟨k1, vs2, k2, k3⟩ := h7
      cases k2
      exact .inl ⟨ds, rfl, k1, by simpa using k3⟩
    · exact .inr ⟨by rw [Up_isCell h1]; exact h5, v, rfl, Up_VR (o := false) (b := false) (fun h => h) x y v h1 h6⟩
end
theorem Up_toks_lst {s : Nat} {xs : List PV} {own : Bool} {y : PV} {v : Value} (hu : Up true (.lst s xs own) y) : toks y v = toks (.lst s xs own) v := by
  obtain ⟨s', ys, o', rfl, hs, ho, hx⟩ := hu
  have e := ho rfl
  subst e
  have hl := UpL_length hx
  cases o' with
  | false => simp [toks]
  | true =>
    cases v with
    | slice A n cap =>
      cases A with
      | none => simp only [toks]
      | some a => simp only [toks, hl]
    | _ => simp only [toks]
mutual
theorem Up_toks : ∀ (x y : PV) (v : Value), Up true x y → toks y v = toks x v
  | .lst s xs own, y, v, hu => Up_toks_lst hu
  | .agg cs, y, v, hu => by
    obtain ⟨ds, rfl, hx⟩ := hu
    have hrec := fun l => UpL_toks cs ds l hx
    cases v <;> simp only [toks, hrec]
  | .tup cs, y, v, hu => by
    obtain ⟨ds, rfl, hx⟩ := hu
    have hrec := fun l => UpL_toks cs ds l hx
    cases v <;> simp only [toks, hrec]
  | .int .., y, v, hu => by cases hu; rfl
  | .bool .., y, v, hu => by cases hu; rfl
  | .str .., y, v, hu => by cases hu; rfl
  | .unit, y, v, hu => by cases hu; rfl
  | .ptr .., y, v, hu => by cases hu; rfl
  | .ip .., y, v, hu => by cases hu; rfl
  | .row .., y, v, hu => by cases hu; rfl
  | .map .., y, v, hu => by cases hu; rfl
  | .fn .., y, v, hu => by cases hu; rfl
  | .nilf, y, v, hu => by cases hu; rfl
  | .nlit .., y, v, hu => by cases hu; rfl
theorem UpL_toks : ∀ (xs ys : List PV) (vs : List Value), UpL true xs ys → toksL ys vs = toksL xs vs
  | [], ys, vs, hu => by cases hu; rfl
  | x :: xs, ys, vs, hu => by
    obtain ⟨y, ys', rfl, h1, h2⟩ := hu
    have r1 := fun v => Up_toks x y v h1
    have r2 := fun l => UpL_toks xs ys' l h2
    cases vs with
    | nil => simp [toksL]
    | cons v vs => simp only [toksL, r1, r2]
end
theorem Up_lst {b : Bool} {s s' : Nat} {xs ys : List PV} {o o' : Bool} : Up b (.lst s xs o) (.lst s' ys o') ↔ (s' = s ∨ (s = 0 ∧ xs = [])) ∧ (b = true → o' = o) ∧ UpL false xs ys := by
  constructor
  · rintro ⟨_, _, _, e, h⟩
    cases e
    exact h
  · exact fun h => ⟨_, _, _, rfl, h⟩
theorem Up_agg {b : Bool} {cs ds : List PV} : Up b (.agg cs) (.agg ds) ↔ UpL b cs ds := by
  constructor
  · rintro ⟨_, e, h⟩
    cases e
    exact h
  · exact fun h => ⟨_, rfl, h⟩
theorem Up_tup {b : Bool} {cs ds : List PV} : Up b (.tup cs) (.tup ds) ↔ UpL b cs ds := by
  constructor
  · rintro ⟨_, e, h⟩
    cases e
    exact h
  · exact fun h => ⟨_, rfl, h⟩
theorem UpL_cons {b : Bool} {x y : PV} {xs ys : List PV} : UpL b (x :: xs) (y :: ys) ↔ Up b x y ∧ UpL b xs ys := by
  constructor
  · rintro ⟨_, _, e, h⟩
    cases e
    exact h
  · exact fun h => ⟨_, _, rfl, h⟩
/-- Slots alike. -/
def UpA (b : Bool) : List (Nat × PV) → List (Nat × PV) → Prop
  | [], l => l = []
  | (i, x) :: l, (j, y) :: l' => i = j ∧ Up b x y ∧ UpA b l l'
  | _ :: _, [] => False
theorem UpA_getS {b : Bool} (i : Nat) : ∀ {l l' : List (Nat × PV)}, UpA b l l' → Up b (getS l i) (getS l' i)
  | [], l', h => by cases h; exact Up_refl b _
  | (j, x) :: l, [], h => h.elim
  | (j, x) :: l, (j2, y) :: l2, h => by
    obtain ⟨rfl, h1, h2⟩ := h
    simp only [getS]
    split
    · exact h1
    · exact UpA_getS i h2
theorem UpL_map_range {b : Bool} {f f' : Nat → PV} (h : ∀ i, Up b (f i) (f' i)) : ∀ l : List Nat, UpL b (l.map f) (l.map f')
  | [] => rfl
  | i :: l => ⟨_, _, rfl, h i, UpL_map_range h l⟩
theorem MS_up {b : Bool} {n : Nat} {l l' : List (Nat × PV)} (h : UpA b l l') : UpL b (MS n l) (MS n l') := UpL_map_range (fun i => UpA_getS i h) _
theorem keep_up {b : Bool} {keep : List Nat} {n : Nat} {l l' : List (Nat × PV)} (h : UpA b (keepA keep l) l') : UpL b (keepL keep 0 (MS n l)) (MS n l') := by
  rw [keepL_MS]
  exact MS_up h
section
variable {P : Program} {Q : PPost} {st : List PV} {H : Heap}
theorem pwp_up {pc : PCode} {st' : List PV} (hu : UpL true st st') (h : pwp P pc Q st' H) : pwp P pc Q st H := by
  intro hh c hc out a w g hR
  exact h hh c hc out a w g ⟨hR.wr, hR.hp, UpL_VR (fun h => h) st st' _ hu hR.tm, fun b => by rw [UpL_toks st st' _ hu]; exact hR.un b, hR.df⟩
/-- A loop, between whose rounds the slots may be said otherwise. -/
theorem pwp_loopU (keep : List Nat) (I : Nat → List PV → Heap → Prop) {x : PCode} {n : Nat} (h0 : ∃ st2 H2, UpL true (keepL keep 0 st) st2 ∧ H2.Sublist H ∧ I n st2 H2)
    (h : ∀ n st H, I n st H → pwp P x (thenP (fun st' H' => ∃ m, m < n ∧ ∃ st2 H2, UpL true (keepL keep 0 st') st2 ∧ H2.Sublist H' ∧ I m st2 H2) Q) st H) : pwp P (.loop x) Q st H := by
  refine pwp_loop (fun m s H' => ∃ st2 H2, UpL true (keepL keep 0 s) st2 ∧ H2.Sublist H' ∧ I m st2 H2) h0 ?_
  rintro m s H' ⟨st2, H2, h1, h2, h3⟩
  exact pwp_drop h2 (pwp_keep keep (pwp_up h1 (h m _ _ h3)))
/-- A contract, whose result may be said otherwise. -/
theorem SpecH_up {f : Nat} {args : List PV} {R R' : PV → Heap → Prop} (h : SpecH P f H args R) (hr : ∀ r H', R r H' → ∃ r', Up true r r' ∧ R' r' H') : SpecH P f H args R' := by
  refine ⟨h.1, fun out w g vals h1 h2 h3 h4 => (h.2 out w g vals h1 h2 h3 h4).mono ?_⟩
  rintro e w' ⟨v, r, H', g', rfl, a2, a3, a4, a5, a6, a7⟩
  obtain ⟨r', hu, hR⟩ := hr _ _ a2
  exact ⟨v, r', H', g', rfl, hR, a3, a4, Up_VR (fun h => h) r r' v hu a5, fun t => by rw [Up_toks r r' v hu]; exact a6 t, a7⟩
/-- .. whose arguments may be said otherwise. -/
theorem SpecH_args {f : Nat} {args args' : List PV} {R : PV → Heap → Prop} (hu : UpL true args args') (h : SpecH P f H args' R) : SpecH P f H args R :=
  ⟨h.1, fun out w g vals h1 h2 h3 h4 => h.2 out w g vals h1 h2 (UpL_VR (fun h => h) args args' _ hu h3) fun t => by rw [UpL_toks args args' _ hu]; exact h4 t⟩
theorem PSpec_up {f : Nat} {args args' : List PV} {r r' : PV} (h : PSpec P f args' r) (hu : UpL true args args') (hr : Up true r r') : PSpec P f args r' := fun H =>
  SpecH_up (SpecH_args hu (h H)) fun r2 H2 ⟨e1, e2⟩ => ⟨r', by rw [e1]; exact hr, rfl, e2⟩
theorem spec_ofU {h : Hint} {f : Nat} {p : PFn} {args : List PV} {H : Heap} {R : PV → Heap → Prop} (hf : compF P h f = some p) (hl : args.length ≤ p.ntmps)
    (hb : pwp P p.body (fun e st' H' => (e = .normal ∨ e = .ret) ∧ ∃ rs r H2, resL st' H' p.res = some rs ∧ H2.Sublist H' ∧ Up true (resV rs) r ∧ R r H2) (MS p.ntmps (idxA 0 args)) H) : SpecH P f H args R := by
  refine SpecH_up (R := fun r H' => ∃ r', Up true r r' ∧ R r' H') (spec_of hf hl (pwp_mono hb ?_)) fun r H' h => h
  rintro e st' H' ⟨h1, rs, r, H2, h2, h3, h4, h5⟩
  exact ⟨h1, rs, H2, h2, h3, r, h4, h5⟩
end
end Go.Proofs.Ytkjibelcaeanjaa.E
