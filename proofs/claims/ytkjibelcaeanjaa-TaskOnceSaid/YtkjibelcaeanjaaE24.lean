/- A logic of plain values, part 24: .. (3). -/
import Derived.Test.YtkjibelcaeanjaaE23
namespace Go.Proofs.Ytkjibelcaeanjaa.E
open Go Go.RowKit
set_option linter.unusedVariables false
set_option linter.unusedSimpArgs false
def edgesOf (o : Oper) : List Nat := (o.after.toList.filter (Region.binds .any)).map (·.on)
def beforeOf (acc : List Nat) (es : List Nat) : Nat := es.foldl (fun s e => s ||| 2 ^ e ||| acc.getD e 0) 0
def befores : List Oper → List Nat → List Nat
  | [], acc => acc
  | o :: os, acc => befores os (acc ++ [beforeOf acc (edgesOf o)])
def apartB (ws rs : List Nat) : Bool := ws.all fun t => !rs.contains t
def indepB (pj pk : POp) : Bool := apartB (writesOf pj) (readsOf pk ++ writesOf pk) && apartB (writesOf pk) (readsOf pj) && !(isSto pj.k && isSto pk.k) && !(isLd pj.k && isCpy pk.k) && !(isCpy pj.k && isLd pk.k)
def latePairs (j k : Nat) (pj pk : POp) : List (Nat × Nat) := (if isLd pj.k && isSto pk.k then [(j, k)] else []) ++ (if isSto pj.k && isLd pk.k then [(k, j)] else [])
/-- The loads and stores that no edge orders; none: an order is open that may matter. -/
def drawLate (os : List Oper) (ps : List POp) : Option (List (Nat × Nat)) :=
  let bs := befores os []
  let n := os.length
  if (List.range n).all (fun k => (edgesOf (os.getD k default)).all fun e => decide (e < k)) && (List.range n).all (fun k => (List.range k).all fun j => (bs.getD k 0).testBit j || indepB (ps.getD j default) (ps.getD k default)) then
    some ((List.range n).flatMap fun k => (List.range k).flatMap fun j => if (bs.getD k 0).testBit j then [] else latePairs j k (ps.getD j default) (ps.getD k default))
  else none
theorem beforeOf_bit {acc : List Nat} {j : Nat} : ∀ (es : List Nat) (s : Nat), (es.foldl (fun s e => s ||| 2 ^ e ||| acc.getD e 0) s).testBit j = true → s.testBit j = true ∨ ∃ e ∈ es, j = e ∨ (acc.getD e 0).testBit j = true
  | [], s, h => .inl h
  | e :: es, s, h => by
    simp only [List.foldl_cons] at h
    rcases beforeOf_bit es _ h with h | ⟨e', he, h⟩
    · rw [Nat.testBit_or, Nat.testBit_or, Bool.or_eq_true, Bool.or_eq_true] at h
      rcases h with (h | h) | h
      · exact .inl h
      · rw [Nat.testBit_two_pow] at h
        exact .inr ⟨e, by simp, .inl (by simpa using (of_decide_eq_true h).symm)⟩
      · exact .inr ⟨e, by simp, .inr h⟩
    · exact .inr ⟨e', by simp [he], h⟩
theorem befores_spec : ∀ (os : List Oper) (acc : List Nat), (∃ t, befores os acc = acc ++ t ∧ t.length = os.length) ∧
    ∀ k o, os[k]? = some o → (befores os acc)[acc.length + k]? = some (beforeOf ((befores os acc).take (acc.length + k)) (edgesOf o))
  | [], acc => ⟨⟨[], by simp [befores]⟩, fun k o h => by simp at h⟩
  | o :: os, acc => by
    obtain ⟨⟨t, h1, h2⟩, h3⟩ := befores_spec os (acc ++ [beforeOf acc (edgesOf o)])
    refine ⟨⟨beforeOf acc (edgesOf o) :: t, by simp [befores, h1], by simp [h2]⟩, fun k q hk => ?_⟩
    simp only [befores]
    cases k with
    | zero =>
      simp at hk
      subst hk
      rw [h1]
      simp
    | succ k =>
      have := h3 k q (by simpa using hk)
      rw [List.length_append] at this
      simp only [List.length_cons, List.length_nil] at this
      rw [show acc.length + (k + 1) = acc.length + (0 + 1) + k by omega]
      exact this
theorem before_closed {os : List Oper} {p : Nat → Bool} (hp : ∀ k o, os[k]? = some o → p k = true → ∀ e ∈ edgesOf o, p e = true) : ∀ k j, k < os.length → p k = true → ((befores os []).getD k 0).testBit j = true → p j = true := by
  intro k
  induction k using Nat.strongRecOn with
  | _ k ih =>
    intro j hk hpk hj
    obtain ⟨⟨t, h1, h2⟩, h3⟩ := befores_spec os []
    have h4 := h3 k os[k] (List.getElem?_eq_getElem hk)
    simp only [List.length_nil, Nat.zero_add] at h4
    rw [List.getD_eq_getElem?_getD, h4, Option.getD_some] at hj
    rcases beforeOf_bit _ _ hj with hj | ⟨e, he, hj⟩
    · simp at hj
    · have hpe := hp k os[k] (List.getElem?_eq_getElem hk) hpk e he
      rcases hj with rfl | hj
      · exact hpe
      · by_cases hek : e < k
        · refine ih e hek j (by omega) hpe ?_
          rw [List.getD_eq_getElem?_getD] at hj ⊢
          rwa [List.getElem?_take, if_pos hek] at hj
        · rw [List.getD_eq_getElem?_getD, List.getElem?_take, if_neg hek] at hj
          simp at hj
/-! ## choosing some of the operations -/
def selL (F : Nat → List PV → List PV) (p : Nat → Bool) (l : List Nat) (s : List PV) : List PV := l.foldl (fun s i => if p i then F i s else s) s
theorem range_split {n j : Nat} (h : j < n) : List.range n = List.range j ++ j :: (List.range' (j + 1) (n - (j + 1))) := by
  rw [List.range_eq_range', List.range_eq_range', show n = j + (1 + (n - (j + 1))) by omega, ← List.range'_append_1, ← List.range'_append_1]
  simp [List.range', Nat.add_comm]
  omega
theorem selL_append {F : Nat → List PV → List PV} (p : Nat → Bool) (l m : List Nat) (s : List PV) : selL F p (l ++ m) s = selL F p m (selL F p l s) := by simp [selL]
section
variable {F : Nat → List PV → List PV} {W : Nat → List Nat} (hF : ∀ i, Slotwise (F i) (W i))
include hF
theorem sel_rest {p : Nat → Bool} {t : Nat} : ∀ (l : List Nat) (s : List PV), (∀ i ∈ l, p i = true → t ∉ W i) → obs (selL F p l s) t = obs s t
  | [], s, _ => rfl
  | i :: l, s, h => by
    simp only [selL, List.foldl_cons]
    have := sel_rest l (if p i then F i s else s) (fun i hi => h i (by simp [hi]))
    simp only [selL] at this
    rw [this]
    split
    · rename_i hp
      exact (hF i).rest s t (h i (by simp) hp)
    · rfl
theorem sel_alike {p q : Nat → Bool} {t : Nat} : ∀ (l : List Nat) (s s' : List PV), obs s t = obs s' t → (∀ i ∈ l, p i = q i ∨ t ∉ W i) → obs (selL F p l s) t = obs (selL F q l s') t
  | [], s, s', e, _ => e
  | i :: l, s, s', e, h => by
    simp only [selL, List.foldl_cons]
    refine sel_alike l _ _ ?_ (fun i hi => h i (by simp [hi]))
    rcases h i (by simp) with hpq | hw
    · rw [hpq]
      split
      · exact (hF i).slot s s' t e
      · exact e
    · have r1 : obs (if p i then F i s else s) t = obs s t := by split; exact (hF i).rest s t hw; rfl
      have r2 : obs (if q i then F i s' else s') t = obs s' t := by split; exact (hF i).rest s' t hw; rfl
      rw [r1, r2, e]
theorem sel_step {p : Nat → Bool} {n j : Nat} (hj : j < n) (hpj : p j = false) (s : List PV) (hw : ∀ i, j < i → i < n → p i = true → ∀ t ∈ W j, t ∉ W i) :
    F j (selL F p (List.range n) s) = selL F (fun i => p i || i == j) (List.range n) s := by
  apply ext_obs
  intro t
  by_cases ht : t ∈ W j
  · rw [range_split hj, selL_append, selL_append]
    have hx : selL F (fun i => p i || i == j) (List.range j) s = selL F p (List.range j) s := by
      have : ∀ (l : List Nat) (s : List PV), (∀ i ∈ l, i < j) → selL F (fun i => p i || i == j) l s = selL F p l s := by
        intro l
        induction l with
        | nil => intro s _; rfl
        | cons i l ih =>
          intro s h
          have hi : (i == j) = false := by have := h i (by simp); simp; omega
          have := ih (if p i then F i s else s) (fun i hi => h i (by simp [hi]))
          simp only [selL, List.foldl_cons, hi, Bool.or_false] at this ⊢
          exact this
      exact this _ s (fun i hi => List.mem_range.1 hi)
    rw [hx]
    generalize selL F p (List.range j) s = X
    have e1 : selL F p (j :: List.range' (j + 1) (n - (j + 1))) X = selL F p (List.range' (j + 1) (n - (j + 1))) X := by simp [selL, hpj]
    have e2 : selL F (fun i => p i || i == j) (j :: List.range' (j + 1) (n - (j + 1))) X = selL F (fun i => p i || i == j) (List.range' (j + 1) (n - (j + 1))) (F j X) := by simp [selL]
    rw [e1, e2, sel_rest hF _ _ (fun i hi hp => ?_)]
    · refine (hF j).slot _ _ t (sel_rest hF _ _ fun i hi hp => ?_)
      obtain ⟨q1, q2⟩ := List.mem_range'_1.1 hi
      exact hw i (by omega) (by omega) hp t ht
    · obtain ⟨q1, q2⟩ := List.mem_range'_1.1 hi
      have hij : (i == j) = false := by simp; omega
      simp only [hij, Bool.or_false] at hp
      exact hw i (by omega) (by omega) hp t ht
  · rw [(hF j).rest _ t ht]
    refine sel_alike hF _ _ _ rfl fun i hi => ?_
    by_cases hij : i = j
    · subst hij; exact .inr ht
    · left
      have : (i == j) = false := by simp [hij]
      simp [this]
theorem sel_reads {p : Nat → Bool} {n j t : Nat} (hj : j < n) (hpj : p j = false) (s : List PV) (h1 : ∀ i, i < j → p i = true ∨ t ∉ W i) (h2 : ∀ i, j < i → i < n → p i = true → t ∉ W i) :
    obs (selL F (fun _ => true) (List.range j) s) t = obs (selL F p (List.range n) s) t := by
  rw [range_split hj, selL_append]
  have e1 : ∀ X, selL F p (j :: List.range' (j + 1) (n - (j + 1))) X = selL F p (List.range' (j + 1) (n - (j + 1))) X := fun X => by simp [selL, hpj]
  rw [e1, sel_rest hF (List.range' _ _) _ (fun i hi hp => ?_)]
  · refine sel_alike hF _ _ _ rfl fun i hi => ?_
    rcases h1 i (List.mem_range.1 hi) with h | h
    · exact .inl h.symm
    · exact .inr h
  · obtain ⟨q1, q2⟩ := List.mem_range'_1.1 hi
    exact h2 i (by omega) (by omega) hp
end
end Go.Proofs.Ytkjibelcaeanjaa.E
