/- A logic of plain values, part 28: what is no longer looked at is let go; loops. -/
import Derived.Test.YtkjibelcaeanjaaE27
namespace Go.Proofs.Ytkjibelcaeanjaa.E
open Go Go.RowKit
set_option linter.unusedVariables false
set_option linter.unusedSimpArgs false
theorem w64 {x : Int} (h1 : -9223372036854775808 ≤ x) (h2 : x ≤ 9223372036854775807) : IntKind.i64.wrap x = x := by
  rw [IntKind.wrap_i64]
  omega
/-- Only these slots are kept. -/
def keepL (keep : List Nat) : Nat → List PV → List PV
  | _, [] => []
  | i, x :: xs => (if keep.contains i then x else .unit) :: keepL keep (i + 1) xs
def getS : List (Nat × PV) → Nat → PV
  | [], _ => .unit
  | (k, v) :: l, i => if k = i then v else getS l i
/-- Slots of which only these are known. -/
def MS (n : Nat) (l : List (Nat × PV)) : List PV := (List.range n).map (getS l)
theorem MS_getElem? {n : Nat} {l : List (Nat × PV)} (i : Nat) : (MS n l)[i]? = if i < n then some (getS l i) else none := by
  unfold MS
  rw [List.getElem?_map]
  by_cases h : i < n
  · rw [List.getElem?_range h, if_pos h]; rfl
  · rw [List.getElem?_eq_none (by simp; omega), if_neg h]; rfl
theorem MS_getD {n : Nat} {l : List (Nat × PV)} {i : Nat} (h : i < n) : (MS n l).getD i .unit = getS l i := by
  rw [List.getD_eq_getElem?_getD, MS_getElem?, if_pos h]
  rfl
theorem MS_get {n : Nat} {l : List (Nat × PV)} {i : Nat} (h : i < n) : (MS n l)[i]?.getD .unit = getS l i := by
  rw [MS_getElem?, if_pos h]
  rfl
theorem MS_set {n : Nat} {l : List (Nat × PV)} {i : Nat} {v : PV} (h : i < n) : (MS n l).set i v = MS n ((i, v) :: l) := by
  apply List.ext_getElem?
  intro j
  rw [List.getElem?_set, MS_getElem?, MS_getElem?]
  have hl : (MS n l).length = n := by simp [MS]
  rw [hl]
  simp only [getS]
  by_cases hij : i = j
  · subst hij; simp [h]
  · simp [hij]
def keepA (keep : List Nat) (l : List (Nat × PV)) : List (Nat × PV) := keep.map fun k => (k, getS l k)
theorem getS_keepA (l : List (Nat × PV)) (j : Nat) : ∀ keep : List Nat, getS (keepA keep l) j = if keep.contains j then getS l j else .unit
  | [] => rfl
  | k :: ks => by
    have := getS_keepA l j ks
    simp only [keepA, List.map_cons, getS] at this ⊢
    by_cases h : k = j
    · subst h; simp
    · rw [if_neg h, this]
      have : (j == k) = false := by simp [Ne.symm h]
      simp only [List.contains_cons, this, Bool.false_or]
theorem keepL_getElem? (keep : List Nat) : ∀ (i : Nat) (st : List PV) (j : Nat), (keepL keep i st)[j]? = (st[j]?).map fun x => if keep.contains (i + j) then x else .unit
  | i, [], j => by simp [keepL]
  | i, x :: st, 0 => by simp [keepL]
  | i, x :: st, j + 1 => by
    simp only [keepL, List.getElem?_cons_succ]
    rw [keepL_getElem? keep (i + 1) st j, show i + 1 + j = i + (j + 1) by omega]
theorem keepL_MS (keep : List Nat) (n : Nat) (l : List (Nat × PV)) : keepL keep 0 (MS n l) = MS n (keepA keep l) := by
  apply List.ext_getElem?
  intro j
  rw [keepL_getElem?, MS_getElem?, MS_getElem?, getS_keepA, Nat.zero_add]
  by_cases h : j < n
  · rw [if_pos h, if_pos h]; rfl
  · rw [if_neg h, if_neg h]; rfl
def idxA : Nat → List PV → List (Nat × PV)
  | _, [] => []
  | i, x :: xs => (i, x) :: idxA (i + 1) xs
theorem getS_idxA : ∀ (xs : List PV) (i j : Nat), getS (idxA i xs) (i + j) = (xs[j]?).getD .unit
  | [], i, j => by simp [idxA, getS]
  | x :: xs, i, 0 => by simp [idxA, getS]
  | x :: xs, i, j + 1 => by
    simp only [idxA, getS, List.getElem?_cons_succ]
    rw [if_neg (by omega), show i + (j + 1) = i + 1 + j by omega, getS_idxA xs (i + 1) j]
theorem init_MS {args : List PV} {n : Nat} (h : args.length ≤ n) : args ++ List.replicate (n - args.length) .unit = MS n (idxA 0 args) := by
  apply List.ext_getElem?
  intro j
  have := getS_idxA args 0 j
  rw [Nat.zero_add] at this
  rw [MS_getElem?, this]
  by_cases h1 : j < args.length
  · rw [List.getElem?_append_left h1, if_pos (by omega), List.getElem?_eq_getElem h1]; rfl
  · rw [List.getElem?_append_right (by omega), List.getElem?_eq_none (l := args) (by omega), List.getElem?_replicate]
    by_cases h2 : j < n
    · rw [if_pos h2, if_pos (by omega)]; rfl
    · rw [if_neg h2, if_neg (by omega)]
/-- A function's contract out of its body. -/
theorem spec_of {P : Program} {h : Hint} {f : Nat} {p : PFn} {args : List PV} {H : Heap} {Q : PV → Heap → Prop} (hf : compF P h f = some p) (hl : args.length ≤ p.ntmps)
    (hb : pwp P p.body (fun e st' H' => (e = .normal ∨ e = .ret) ∧ ∃ rs H2, resL st' H' p.res = some rs ∧ H2.Sublist H' ∧ Q (resV rs) H2) (MS p.ntmps (idxA 0 args)) H) : SpecH P f H args Q := by
  refine spec_of_body hf ?_
  rw [init_MS hl]
  exact hb
theorem VRl_keep {o : Bool} {w : World} {g : Ghost} (keep : List Nat) : ∀ {i : Nat} {st : List PV} {vs : List Value}, VRl o w g st vs → VRl o w g (keepL keep i st) vs ∧ ∀ b, (toksL (keepL keep i st) vs).count b ≤ (toksL st vs).count b
  | i, [], vs, h => ⟨h, fun b => Nat.le_refl _⟩
  | i, x :: st, vs, h => by
    obtain ⟨v, vs', rfl, h1, h2⟩ := h
    obtain ⟨k1, k2⟩ := VRl_keep keep (i := i + 1) h2
    simp only [keepL]
    by_cases hk : keep.contains i = true
    · rw [if_pos hk]
      refine ⟨⟨v, vs', rfl, h1, k1⟩, fun b => ?_⟩
      have := k2 b
      simp only [toksL, List.count_append]
      omega
    · rw [if_neg hk]
      refine ⟨⟨v, vs', rfl, trivial, k1⟩, fun b => ?_⟩
      have := k2 b
      have e : toks .unit v = [] := by simp [toks]
      simp only [toksL, e, List.count_append, List.nil_append]
      omega
section
variable {P : Program} {Q : PPost} {st : List PV} {H : Heap}
theorem pwp_keep (keep : List Nat) {pc : PCode} (h : pwp P pc Q (keepL keep 0 st) H) : pwp P pc Q st H := by
  intro hh c hc out a w g hR
  obtain ⟨k1, k2⟩ := VRl_keep keep (i := 0) hR.tm
  exact h hh c hc out a w g ⟨hR.wr, hR.hp, k1, fun b => by have := hR.un b; have := k2 b; omega, hR.df⟩
/-- A loop: between the rounds only these slots are looked at, and some of the blocks. -/
theorem pwp_loopK (keep : List Nat) (I : Nat → List PV → Heap → Prop) {x : PCode} {n : Nat} (h0 : ∃ H2, H2.Sublist H ∧ I n (keepL keep 0 st) H2)
    (h : ∀ n st H, I n st H → pwp P x (thenP (fun st' H' => ∃ m, m < n ∧ ∃ H2, H2.Sublist H' ∧ I m (keepL keep 0 st') H2) Q) st H) : pwp P (.loop x) Q st H := by
  refine pwp_loop (fun m s H' => ∃ H2, H2.Sublist H' ∧ I m (keepL keep 0 s) H2) h0 ?_
  rintro m s H' ⟨H2, h1, h2⟩
  exact pwp_drop h1 (pwp_keep keep (h m _ _ h2))
theorem pwp_regionK {ops : List POp} (h : ∀ K : List PV → Heap → Prop, (∀ st' H', Q .normal st' H' → K st' H') → runOps P ops K st H) : pwp P (.region ops) Q st H := pwp_region (h _ fun _ _ h => h)
theorem pwp_drawK (hmix : P.follows .mixedOrders = true) {ops : List POp} {late : List (Nat × Nat)} (h : ∀ K : List PV → Heap → Prop, (∀ st' H', Q .normal st' H' → K st' H') → planOps P late ops 0 [] [] K st H) : pwp P (.draw ops late) Q st H := pwp_draw hmix (h _ fun _ _ h => h)
/-- A call whose contract is known. -/
theorem use {f : Nat} {args : List PV} {r : PV} (h : PSpec P f args r) {K : PV → Heap → Prop} (hK : K r H) : ∃ R, SpecH P f H args R ∧ ∀ r' H', R r' H' → K r' H' :=
  ⟨_, h H, fun r' H' ⟨e1, e2⟩ => by subst e1 e2; exact hK⟩
end
end Go.Proofs.Ytkjibelcaeanjaa.E
