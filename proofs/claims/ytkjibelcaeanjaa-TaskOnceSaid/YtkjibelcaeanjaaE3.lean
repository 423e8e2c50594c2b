/- A logic of plain values, part 3: lists of values, elements, and what is owned. -/
import Derived.Test.YtkjibelcaeanjaaE2
namespace Go.Proofs.Ytkjibelcaeanjaa.E
open Go Go.RowKit
set_option linter.unusedVariables false
set_option linter.unusedSimpArgs false
mutual
theorem VR_weak {w : World} {g : Ghost} {o : Bool} : ∀ (x : PV) (v : Value), VR o w g x v → VR false w g x v
  | .int k n, v, r => r
  | .bool b, v, r => r
  | .str s, v, r => r
  | .unit, _, _ => trivial
  | .lst sz xs own, v, r => by
    obtain ⟨A, cap, rfl, h1, h2, h3, h4⟩ := r
    exact ⟨A, cap, rfl, h1, h2, h3, fun h => by cases h⟩
  | .agg cs, v, r => by
    obtain ⟨h0, vs, rfl, h1⟩ := r
    exact ⟨h0, vs, rfl, VRl_weak cs _ h1⟩
  | .tup cs, v, r => by
    obtain ⟨vs, rfl, h1⟩ := r
    exact ⟨vs, rfl, VRl_weak cs _ h1⟩
  | .ptr a, v, r => r
  | .ip sz xs i off, v, r => r
  | .row .., v, r => r
  | .map b, v, r => r
  | .fn f first cap, v, r => r
  | .nilf, v, r => r
  | .nlit sz xs, v, r => by
    obtain ⟨b, vs, rfl, h1, h2, h3, h4⟩ := r
    exact ⟨b, vs, rfl, h1, h2, h3, fun h => by cases h⟩
theorem VRl_weak {w : World} {g : Ghost} {o : Bool} : ∀ (xs : List PV) (vs : List Value), VRl o w g xs vs → VRl false w g xs vs
  | [], vs, r => r
  | x :: xs, vs, r => by
    obtain ⟨v, vs', rfl, h1, h2⟩ := r
    exact ⟨v, vs', rfl, VR_weak x v h1, VRl_weak xs vs' h2⟩
end
theorem isCell_lend (x : PV) : (lend x).isCell = x.isCell := by cases x <;> rfl
theorem lendL_eq_map : ∀ xs, lendL xs = xs.map lend
  | [] => rfl
  | x :: xs => by simp [lendL, lendL_eq_map xs]
theorem all_lendL (xs : List PV) : (lendL xs).all PV.isCell = xs.all PV.isCell := by
  rw [lendL_eq_map, List.all_map]
  exact congrArg (fun f => xs.all f) (funext fun x => isCell_lend x)
mutual
theorem VR_lend {w : World} {g : Ghost} {o : Bool} : ∀ (x : PV) (v : Value), VR false w g x v → VR o w g (lend x) v
  | .int k n, v, r => r
  | .bool b, v, r => r
  | .str s, v, r => r
  | .unit, _, _ => trivial
  | .lst sz xs own, v, r => by
    obtain ⟨A, cap, rfl, h1, h2, h3, h4⟩ := r
    exact ⟨A, cap, rfl, h1, h2, h3, fun _ h => by cases h⟩
  | .agg cs, v, r => by
    obtain ⟨h0, vs, rfl, h1⟩ := r
    exact ⟨by rw [all_lendL]; exact h0, vs, rfl, VRl_lend cs _ h1⟩
  | .tup cs, v, r => by
    obtain ⟨vs, rfl, h1⟩ := r
    exact ⟨vs, rfl, VRl_lend cs _ h1⟩
  | .ptr a, v, r => r
  | .ip sz xs i off, v, r => r
  | .row .., v, r => r
  | .map b, v, r => r
  | .fn f first cap, v, r => r
  | .nilf, v, r => r
  | .nlit sz xs, v, r => by
    obtain ⟨b, vs, rfl, h1, h2, h3, h4⟩ := r
    exact ⟨_, _, rfl, Nat.le_refl _, h1, .inr ⟨b, 0, vs, rfl, h2, h3⟩, fun _ h => by cases h⟩
theorem VRl_lend {w : World} {g : Ghost} {o : Bool} : ∀ (xs : List PV) (vs : List Value), VRl false w g xs vs → VRl o w g (lendL xs) vs
  | [], vs, r => r
  | x :: xs, vs, r => by
    obtain ⟨v, vs', rfl, h1, h2⟩ := r
    exact ⟨v, vs', rfl, VR_lend x v h1, VRl_lend xs vs' h2⟩
end
mutual
theorem toks_lend : ∀ (x : PV) (v : Value), toks (lend x) v = []
  | .int k n, v => by simp [lend, toks]
  | .bool b, v => by simp [lend, toks]
  | .str s, v => by simp [lend, toks]
  | .unit, _ => by simp [lend, toks]
  | .lst sz xs own, v => by simp [lend, toks]
  | .agg cs, v => by cases v <;> simp [lend, toks, toksL_lend cs]
  | .tup cs, v => by cases v <;> simp [lend, toks, toksL_lend cs]
  | .ptr a, v => by simp [lend, toks]
  | .ip sz xs i off, v => by simp [lend, toks]
  | .row .., v => by simp [lend, toks]
  | .map b, v => by simp [lend, toks]
  | .fn f first cap, v => by simp [lend, toks]
  | .nilf, v => by simp [lend, toks]
  | .nlit sz xs, v => by simp [lend, toks]
theorem toksL_lend : ∀ (xs : List PV) (vs : List Value), toksL (lendL xs) vs = []
  | [], vs => by simp [lendL, toksL]
  | x :: xs, [] => by simp [lendL, toksL]
  | x :: xs, v :: vs => by simp [lendL, toksL, toks_lend x v, toksL_lend xs vs]
end
/-! lists of values -/
theorem VRl_length {o : Bool} {w : World} {g : Ghost} : ∀ {xs : List PV} {vs : List Value}, VRl o w g xs vs → vs.length = xs.length
  | [], vs, r => by cases r; rfl
  | x :: xs, vs, r => by
    obtain ⟨v, vs', rfl, _, h2⟩ := r
    simp [VRl_length h2]
theorem VRl_get {o : Bool} {w : World} {g : Ghost} : ∀ {xs : List PV} {vs : List Value} {i : Nat} {x : PV}, VRl o w g xs vs → xs[i]? = some x → ∃ v, vs[i]? = some v ∧ VR o w g x v
  | [], vs, i, x, r, h => by simp at h
  | y :: xs, vs, 0, x, r, h => by
    obtain ⟨v, vs', rfl, h1, h2⟩ := r
    simp at h
    subst h
    exact ⟨v, rfl, h1⟩
  | y :: xs, vs, i + 1, x, r, h => by
    obtain ⟨v, vs', rfl, h1, h2⟩ := r
    simp at h
    obtain ⟨u, hu, hr⟩ := VRl_get h2 h
    exact ⟨u, by simpa using hu, hr⟩
theorem VRl_set {o : Bool} {w : World} {g : Ghost} : ∀ {xs : List PV} {vs : List Value} (i : Nat) {x : PV} {v : Value}, VRl o w g xs vs → VR o w g x v → VRl o w g (xs.set i x) (vs.set i v)
  | [], vs, i, x, v, r, h => by cases r; simp [VRl]
  | y :: xs, vs, 0, x, v, r, h => by
    obtain ⟨u, vs', rfl, h1, h2⟩ := r
    exact ⟨v, vs', rfl, h, h2⟩
  | y :: xs, vs, i + 1, x, v, r, h => by
    obtain ⟨u, vs', rfl, h1, h2⟩ := r
    exact ⟨u, vs'.set i v, rfl, h1, VRl_set i h2 h⟩
theorem VRl_append {o : Bool} {w : World} {g : Ghost} : ∀ {xs ys : List PV} {vs us : List Value}, VRl o w g xs vs → VRl o w g ys us → VRl o w g (xs ++ ys) (vs ++ us)
  | [], ys, vs, us, r, s => by cases r; exact s
  | x :: xs, ys, vs, us, r, s => by
    obtain ⟨v, vs', rfl, h1, h2⟩ := r
    exact ⟨v, vs' ++ us, rfl, h1, VRl_append h2 s⟩
theorem VRl_split {o : Bool} {w : World} {g : Ghost} : ∀ {xs ys : List PV} {vs : List Value}, VRl o w g (xs ++ ys) vs → ∃ a b, vs = a ++ b ∧ VRl o w g xs a ∧ VRl o w g ys b
  | [], ys, vs, r => ⟨[], vs, rfl, rfl, r⟩
  | x :: xs, ys, vs, r => by
    obtain ⟨v, vs', rfl, h1, h2⟩ := r
    obtain ⟨a, b, rfl, h3, h4⟩ := VRl_split h2
    exact ⟨v :: a, b, rfl, ⟨v, a, rfl, h1, h3⟩, h4⟩
theorem VRl_take {o : Bool} {w : World} {g : Ghost} {xs : List PV} {vs : List Value} (n : Nat) (r : VRl o w g xs vs) : VRl o w g (xs.take n) (vs.take n) ∧ VRl o w g (xs.drop n) (vs.drop n) := by
  rw [← List.take_append_drop n xs] at r
  obtain ⟨a, b, rfl, h1, h2⟩ := VRl_split r
  have hl := VRl_length h1
  by_cases hn : n ≤ xs.length
  · have e : a.length = n := by rw [hl, List.length_take, Nat.min_eq_left hn]
    rw [List.take_left' e, List.drop_left' e]
    exact ⟨h1, h2⟩
  · have hd : xs.drop n = [] := List.drop_of_length_le (by omega)
    rw [hd] at h2 ⊢
    cases h2
    have : a.length ≤ n := by rw [hl, List.length_take]; omega
    rw [List.append_nil, List.take_of_length_le this, List.drop_of_length_le this]
    exact ⟨h1, rfl⟩
theorem VRl_unit {o : Bool} {w : World} {g : Ghost} : ∀ (n : Nat) (vs : List Value), vs.length = n → VRl o w g (List.replicate n .unit) vs
  | 0, vs, h => by simpa [VRl] using h
  | n + 1, [], h => by simp at h
  | n + 1, v :: vs, h => ⟨v, vs, rfl, trivial, VRl_unit n vs (by simpa using h)⟩
theorem count_toksL_set (b : Nat) : ∀ (xs : List PV) (vs : List Value) (i : Nat) (x y : PV) (v u : Value), xs[i]? = some y → vs[i]? = some u →
    (toksL (xs.set i x) (vs.set i v)).count b + (toks y u).count b = (toksL xs vs).count b + (toks x v).count b
  | [], _, i, x, y, v, u, h, _ => by simp at h
  | _ :: _, [], i, x, y, v, u, _, h => by simp at h
  | z :: xs, t :: vs, 0, x, y, v, u, h1, h2 => by
    simp at h1 h2
    subst h1 h2
    simp [toksL]
    omega
  | z :: xs, t :: vs, i + 1, x, y, v, u, h1, h2 => by
    simp at h1 h2
    have := count_toksL_set b xs vs i x y v u h1 h2
    simp [toksL]
    omega
theorem toksL_append : ∀ (xs ys : List PV) (vs us : List Value), vs.length = xs.length → toksL (xs ++ ys) (vs ++ us) = toksL xs vs ++ toksL ys us
  | [], ys, [], us, _ => by simp [toksL]
  | [], ys, v :: vs, us, h => by simp at h
  | x :: xs, ys, [], us, h => by simp at h
  | x :: xs, ys, v :: vs, us, h => by
    simp only [List.cons_append, toksL, List.append_assoc]
    rw [toksL_append xs ys vs us (by simpa using h)]
theorem toksL_unit : ∀ (n : Nat) (vs : List Value), toksL (List.replicate n .unit) vs = []
  | 0, vs => by simp [toksL]
  | n + 1, [] => by simp [List.replicate, toksL]
  | n + 1, v :: vs => by simp [List.replicate, toksL, toks, toksL_unit n vs]
/-! cells -/
theorem VR_oneCell {o : Bool} {w : World} {g : Ghost} {x : PV} {v : Value} (hx : x.isCell = true) (r : VR o w g x v) : v.oneCell' = true := by
  cases x with
  | int k n => cases r; rfl
  | bool b => cases r; rfl
  | str s => obtain ⟨t, rfl, _⟩ := r; rfl
  | unit => cases hx
  | lst sz xs own => obtain ⟨A, cap, rfl, _⟩ := r; rfl
  | agg cs => cases hx
  | tup cs => cases hx
  | ptr a => cases r; rfl
  | ip sz xs i off => obtain ⟨b, base, vs, rfl, _⟩ := r; rfl
  | row b off len cap => cases r; rfl
  | map b => cases r; rfl
  | fn f a c => obtain ⟨fs, cs, rfl, _⟩ := r; rfl
  | nilf => cases r; rfl
  | nlit sz xs => obtain ⟨b, vs, rfl, _⟩ := r; rfl
theorem VRl_oneCell {o : Bool} {w : World} {g : Ghost} : ∀ {xs : List PV} {vs : List Value}, xs.all PV.isCell = true → VRl o w g xs vs → ∀ u ∈ vs, u.oneCell' = true
  | [], vs, _, r, u, hu => by cases r; cases hu
  | x :: xs, vs, h, r, u, hu => by
    obtain ⟨v, vs', rfl, h1, h2⟩ := r
    simp only [List.all_cons, Bool.and_eq_true] at h
    rcases List.mem_cons.1 hu with rfl | hu
    · exact VR_oneCell h.1 h1
    · exact VRl_oneCell h.2 h2 u hu
/-- One element's cells. -/
def VRc (w : World) (g : Ghost) (sz : Nat) (x : PV) (us : List Value) : Prop :=
  us.length = sz ∧ ((∃ cs, x = .agg cs ∧ cs.all PV.isCell = true ∧ VRl false w g cs us) ∨ (x.isCell = true ∧ ∃ v, us = [v] ∧ VR false w g x v))
theorem VRe_cons {w : World} {g : Ghost} {sz : Nat} {x : PV} {xs : List PV} {vs : List Value} : VRe w g sz (x :: xs) vs ↔ ∃ us vs', vs = us ++ vs' ∧ VRc w g sz x us ∧ VRe w g sz xs vs' := by
  have hcell : x.isCell = true → (VRe w g sz (x :: xs) vs ↔ (x.isCell = true ∧ sz = 1 ∧ ∃ v vs', vs = v :: vs' ∧ VR false w g x v ∧ VRe w g sz xs vs')) := by
    intro hx
    cases x <;> first | exact Iff.rfl | cases hx
  have hother : x.isCell = true → ((x.isCell = true ∧ sz = 1 ∧ ∃ v vs', vs = v :: vs' ∧ VR false w g x v ∧ VRe w g sz xs vs') ↔ ∃ us vs', vs = us ++ vs' ∧ VRc w g sz x us ∧ VRe w g sz xs vs') := by
    intro hx
    constructor
    · rintro ⟨_, rfl, v, vs', rfl, h1, h2⟩
      exact ⟨[v], vs', rfl, ⟨rfl, .inr ⟨hx, v, rfl, h1⟩⟩, h2⟩
    · rintro ⟨us, vs', rfl, ⟨hl, h1⟩, h2⟩
      rcases h1 with ⟨cs, rfl, _⟩ | ⟨_, v, rfl, h1⟩
      · cases hx
      · exact ⟨hx, hl.symm, v, vs', rfl, h1, h2⟩
  by_cases hx : x.isCell = true
  · exact (hcell hx).trans (hother hx)
  · cases x with
    | agg cs =>
      constructor
      · rintro ⟨h0, h1, h2, h3⟩
        have hl := VRl_length h2
        have hl2 : (vs.take sz).length = sz := by rw [hl, h1]
        exact ⟨vs.take sz, vs.drop sz, (List.take_append_drop _ _).symm, ⟨hl2, .inl ⟨cs, rfl, h0, h2⟩⟩, h3⟩
      · rintro ⟨us, vs', rfl, ⟨hl, h1⟩, h2⟩
        rcases h1 with ⟨cs', e, h0, h1⟩ | ⟨hc, _⟩
        · cases e
          refine ⟨h0, ?_, ?_, ?_⟩
          · rw [← VRl_length h1, hl]
          · rw [List.take_left' hl]; exact h1
          · rw [List.drop_left' hl]; exact h2
        · exact absurd hc hx
    | unit =>
      constructor
      · rintro ⟨h0, _⟩; cases h0
      · rintro ⟨us, vs', rfl, ⟨hl, h1⟩, h2⟩
        rcases h1 with ⟨cs', e, _⟩ | ⟨hc, _⟩
        · cases e
        · exact absurd hc hx
    | tup cs =>
      constructor
      · rintro ⟨h0, _⟩; cases h0
      · rintro ⟨us, vs', rfl, ⟨hl, h1⟩, h2⟩
        rcases h1 with ⟨cs', e, _⟩ | ⟨hc, _⟩
        · cases e
        · exact absurd hc hx
    | _ => exact absurd rfl hx
theorem VRe_length {w : World} {g : Ghost} {sz : Nat} : ∀ {xs : List PV} {vs : List Value}, VRe w g sz xs vs → vs.length = xs.length * sz
  | [], vs, r => by cases r; simp
  | x :: xs, vs, r => by
    obtain ⟨us, vs', rfl, h1, h2⟩ := VRe_cons.1 r
    rw [List.length_append, h1.1, VRe_length h2, List.length_cons, Nat.succ_mul, Nat.add_comm]
theorem VRe_append {w : World} {g : Ghost} {sz : Nat} : ∀ {xs ys : List PV} {vs us : List Value}, VRe w g sz xs vs → VRe w g sz ys us → VRe w g sz (xs ++ ys) (vs ++ us)
  | [], ys, vs, us, r, s => by cases r; exact s
  | x :: xs, ys, vs, us, r, s => by
    obtain ⟨a, b, rfl, h1, h2⟩ := VRe_cons.1 r
    exact VRe_cons.2 ⟨a, b ++ us, by rw [List.append_assoc], h1, VRe_append h2 s⟩
theorem VRe_split {w : World} {g : Ghost} {sz : Nat} : ∀ {xs ys : List PV} {vs : List Value}, VRe w g sz (xs ++ ys) vs → ∃ a b, vs = a ++ b ∧ VRe w g sz xs a ∧ VRe w g sz ys b
  | [], ys, vs, r => ⟨[], vs, rfl, rfl, r⟩
  | x :: xs, ys, vs, r => by
    obtain ⟨a, b, rfl, h1, h2⟩ := VRe_cons.1 r
    obtain ⟨c, d, rfl, h3, h4⟩ := VRe_split h2
    exact ⟨a ++ c, d, by rw [List.append_assoc], VRe_cons.2 ⟨a, c, rfl, h1, h3⟩, h4⟩
theorem VRe_take {w : World} {g : Ghost} {sz : Nat} {xs : List PV} {vs : List Value} {n : Nat} (hn : n ≤ xs.length) (r : VRe w g sz xs vs) : VRe w g sz (xs.take n) (vs.take (n * sz)) ∧ VRe w g sz (xs.drop n) (vs.drop (n * sz)) := by
  rw [← List.take_append_drop n xs] at r
  obtain ⟨a, b, rfl, h1, h2⟩ := VRe_split r
  have e : a.length = n * sz := by rw [VRe_length h1, List.length_take, Nat.min_eq_left hn]
  rw [List.take_left' e, List.drop_left' e]
  exact ⟨h1, h2⟩
theorem VRe_get {w : World} {g : Ghost} {sz : Nat} {xs : List PV} {vs : List Value} {i : Nat} {x : PV} (h : xs[i]? = some x) (r : VRe w g sz xs vs) : VRc w g sz x ((vs.drop (i * sz)).take sz) := by
  obtain ⟨hi, hx⟩ := List.getElem?_eq_some_iff.1 h
  have h1 := (VRe_take (n := i) (by omega) r).2
  rw [List.drop_eq_getElem_cons hi, hx] at h1
  obtain ⟨us, vs', e, h2, _⟩ := VRe_cons.1 h1
  rw [e, List.take_left' h2.1]
  exact h2
theorem VRe_oneCell {w : World} {g : Ghost} {sz : Nat} : ∀ {xs : List PV} {vs : List Value}, VRe w g sz xs vs → ∀ u ∈ vs, u.oneCell' = true
  | [], vs, r, u, hu => by cases r; cases hu
  | x :: xs, vs, r, u, hu => by
    obtain ⟨us, vs', rfl, ⟨_, h1⟩, h2⟩ := VRe_cons.1 r
    rcases List.mem_append.1 hu with hu | hu
    · rcases h1 with ⟨cs, rfl, h0, h1⟩ | ⟨h0, v, rfl, h1⟩
      · exact VRl_oneCell h0 h1 u hu
      · rw [List.mem_singleton.1 hu]
        exact VR_oneCell h0 h1
    · exact VRe_oneCell h2 u hu
end Go.Proofs.Ytkjibelcaeanjaa.E
