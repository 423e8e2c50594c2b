/- A logic of plain values, part 31: a block that is written no more is a list; what a contract may be turned into. -/
import Derived.Test.YtkjibelcaeanjaaE29
namespace Go.Proofs.Ytkjibelcaeanjaa.E
open Go Go.RowKit
set_option linter.unusedVariables false
set_option linter.unusedSimpArgs false
mutual
/-- The rows of a block as lists. -/
def frz (b : Nat) (f : Nat → Nat → Option PV) (q : Nat → Option PV) : PV → PV
  | .row c off len cap => if c = b ∧ off = 0 then (f len cap).getD (.row c off len cap) else .row c off len cap
  | .ptr (some (c, off)) => if c = b then (q off).getD (.ptr (some (c, off))) else .ptr (some (c, off))
  | .agg cs => .agg (frzL b f q cs)
  | .tup cs => .tup (frzL b f q cs)
  | v => v
def frzL (b : Nat) (f : Nat → Nat → Option PV) (q : Nat → Option PV) : List PV → List PV
  | [] => []
  | x :: xs => frz b f q x :: frzL b f q xs
end
def rowL (sz : Nat) (ag : Bool) (cs : List PV) (len cap : Nat) : Option PV :=
  if len ≤ cap ∧ cap ≤ maxLen ∧ len * sz ≤ cs.length ∧ (ag = false → sz = 1) then some (.lst sz (elemsOf sz ag len (lendL (cs.take (len * sz)))) false) else none
/-- The block is let go; L: the other blocks in which its rows are turned, too. -/
def frzH (b : Nat) (f : Nat → Nat → Option PV) (q : Nat → Option PV) (L : List Nat) : Heap → Heap
  | [] => []
  | (c, cs) :: H => if c = b then frzH b f q L H else (c, if L.contains c then frzL b f q cs else cs) :: frzH b f q L H
theorem frzL_eq_map (b : Nat) (f : Nat → Nat → Option PV) (q : Nat → Option PV) : ∀ xs, frzL b f q xs = xs.map (frz b f q)
  | [] => rfl
  | x :: xs => by simp [frzL, frzL_eq_map b f q xs]
theorem frz_isCell {b : Nat} {f : Nat → Nat → Option PV} {q : Nat → Option PV} (hf : ∀ l c p, f l c = some p → p.isCell = true) (hq : ∀ o p, q o = some p → p.isCell = true) (x : PV) : (frz b f q x).isCell = x.isCell := by
  cases x <;> try rfl
  · rename_i a
    cases a with
    | none => rfl
    | some a =>
      obtain ⟨c, off⟩ := a
      simp only [frz]
      split
      · cases h : q off with
        | none => rfl
        | some p => exact hq _ _ h
      · rfl
  · rename_i c off len cap
    simp only [frz]
    split
    · cases h : f len cap with
      | none => rfl
      | some p => exact hf _ _ _ h
    · rfl
theorem frzL_all {b : Nat} {f : Nat → Nat → Option PV} {q : Nat → Option PV} (hf : ∀ l c p, f l c = some p → p.isCell = true) (hq : ∀ o p, q o = some p → p.isCell = true) (xs : List PV) : (frzL b f q xs).all PV.isCell = xs.all PV.isCell := by
  rw [frzL_eq_map, List.all_map]
  congr 1
  funext x
  exact frz_isCell hf hq x
mutual
theorem frz_VR {o : Bool} {w w' : World} {g g' : Ghost} {out : List Nat} {b : Nat} {f : Nat → Nat → Option PV} {q : Nat → Option PV} (hE : Evol out w g w' g')
    (hf : ∀ l c p, f l c = some p → VR true w' g' p (.slice (some ⟨b, 0, none⟩) l c) ∧ (∀ A, toks p (.slice A l c) = []) ∧ p.isCell = true)
    (hq : ∀ o p, q o = some p → VR true w' g' p (.pointer (some ⟨b, o, none⟩)) ∧ (∀ A, toks p (.pointer A) = []) ∧ p.isCell = true) :
    ∀ (x : PV) (v : Value), (o = true → ∀ t ∈ toks x v, t ∈ out) → VR o w g x v → VR o w' g' (frz b f q x) v ∧ toks (frz b f q x) v = toks x v
  | .row c off len cap, v, ho, h => by
    simp only [frz]
    split
    · rename_i hc
      obtain ⟨rfl, rfl⟩ := hc
      cases hp : f len cap with
      | none => exact ⟨h, rfl⟩
      | some p =>
        simp only [VR] at h
        subst h
        obtain ⟨h1, h2, _⟩ := hf _ _ _ hp
        refine ⟨?_, by rw [Option.getD_some, h2]; simp [toks]⟩
        cases o with
        | true => exact h1
        | false => exact VR_weak _ _ h1
    · exact ⟨h, rfl⟩
  | .agg cs, v, ho, h => by
    obtain ⟨h0, vs, rfl, h1⟩ := h
    obtain ⟨i1, i2⟩ := frzL_VR hE hf hq cs vs.toList (fun q t ht => ho q t (by simpa only [toks] using ht)) h1
    refine ⟨⟨?_, vs, rfl, i1⟩, by simp only [frz, toks]; exact i2⟩
    rw [frzL_all]
    · exact h0
    · exact fun l c p hp => (hf _ _ _ hp).2.2
    · exact fun o p hp => (hq _ _ hp).2.2
  | .tup cs, v, ho, h => by
    obtain ⟨vs, rfl, h1⟩ := h
    obtain ⟨i1, i2⟩ := frzL_VR hE hf hq cs vs.toList (fun q t ht => ho q t (by simpa only [toks] using ht)) h1
    exact ⟨⟨vs, rfl, i1⟩, by simp only [frz, toks]; exact i2⟩
  | .int k n, v, ho, h => ⟨VR_mono hE o _ _ ho h, rfl⟩
  | .bool k, v, ho, h => ⟨VR_mono hE o _ _ ho h, rfl⟩
  | .str k, v, ho, h => ⟨VR_mono hE o _ _ ho h, rfl⟩
  | .unit, v, ho, h => ⟨VR_mono hE o _ _ ho h, rfl⟩
  | .lst .., v, ho, h => ⟨VR_mono hE o _ _ ho h, rfl⟩
  | .ptr none, v, ho, h => ⟨VR_mono hE o _ _ ho h, rfl⟩
  | .ptr (some (c, off)), v, ho, h => by
    simp only [frz]
    split
    · rename_i hc
      subst hc
      cases hp : q off with
      | none => exact ⟨h, rfl⟩
      | some p =>
        simp only [VR, Option.map_some] at h
        subst h
        obtain ⟨h1, h2, _⟩ := hq _ _ hp
        refine ⟨?_, by rw [Option.getD_some, h2]; simp [toks]⟩
        cases o with
        | true => exact h1
        | false => exact VR_weak _ _ h1
    · exact ⟨h, rfl⟩
  | .ip .., v, ho, h => ⟨VR_mono hE o _ _ ho h, rfl⟩
  | .map .., v, ho, h => ⟨VR_mono hE o _ _ ho h, rfl⟩
  | .fn .., v, ho, h => ⟨VR_mono hE o _ _ ho h, rfl⟩
  | .nilf, v, ho, h => ⟨VR_mono hE o _ _ ho h, rfl⟩
  | .nlit .., v, ho, h => ⟨VR_mono hE o _ _ ho h, rfl⟩
theorem frzL_VR {o : Bool} {w w' : World} {g g' : Ghost} {out : List Nat} {b : Nat} {f : Nat → Nat → Option PV} {q : Nat → Option PV} (hE : Evol out w g w' g')
    (hf : ∀ l c p, f l c = some p → VR true w' g' p (.slice (some ⟨b, 0, none⟩) l c) ∧ (∀ A, toks p (.slice A l c) = []) ∧ p.isCell = true)
    (hq : ∀ o p, q o = some p → VR true w' g' p (.pointer (some ⟨b, o, none⟩)) ∧ (∀ A, toks p (.pointer A) = []) ∧ p.isCell = true) :
    ∀ (xs : List PV) (vs : List Value), (o = true → ∀ t ∈ toksL xs vs, t ∈ out) → VRl o w g xs vs → VRl o w' g' (frzL b f q xs) vs ∧ toksL (frzL b f q xs) vs = toksL xs vs
  | [], vs, ho, h => ⟨h, rfl⟩
  | x :: xs, vs, ho, h => by
    obtain ⟨v, vs', rfl, h1, h2⟩ := h
    obtain ⟨i1, i2⟩ := frz_VR hE hf hq x v (fun q t ht => ho q t (by simp only [toksL, List.mem_append]; exact .inl ht)) h1
    obtain ⟨j1, j2⟩ := frzL_VR hE hf hq xs vs' (fun q t ht => ho q t (by simp only [toksL, List.mem_append]; exact .inr ht)) h2
    exact ⟨⟨v, vs', rfl, i1, j1⟩, by simp only [frzL, toksL, i2, j2]⟩
end
theorem rowL_VR {w : World} {g : Ghost} {b sz : Nat} {ag : Bool} {cs : List PV} {c : Array Value} {e : TypeId} {fz : Nat × Nat} (hc : w.heap[b]? = some (.cells c e fz)) (hg : g b = .imm) (hv : VRl false w g cs c.toList) (ha : cs.all PV.isCell = true)
    (l cap : Nat) (p : PV) (h : rowL sz ag cs l cap = some p) : VR true w g p (.slice (some ⟨b, 0, none⟩) l cap) ∧ (∀ A, toks p (.slice A l cap) = []) ∧ p.isCell = true := by
  unfold rowL at h
  obtain ⟨⟨h1, h2, h3, h4⟩, h⟩ := ite_spec h
  cases h
  have hv1 := VRl_lend (o := false) _ _ (VRl_take (l * sz) hv).1
  have hl : (lendL (cs.take (l * sz))).length = l * sz := by rw [lendL_eq_map, List.length_map, List.length_take]; omega
  have hal : (lendL (cs.take (l * sz))).all PV.isCell = true := by
    rw [all_lendL]
    have := all_drop_take ha 0 (l * sz)
    rwa [List.drop_zero] at this
  obtain ⟨k1, k2⟩ := VRe_elems hal hl h4 hv1
  have hcl := VRl_length hv
  refine ⟨⟨some ⟨b, 0, none⟩, cap, by rw [k2], by rw [k2]; exact h1, h2, ?_, fun _ h => by cases h⟩, fun A => by simp [toks], rfl⟩
  right
  refine ⟨b, 0, c.toList.take (l * sz), rfl, ⟨c, e, fz, hc, by rw [List.drop_zero, k2], by rw [k2, List.length_take]; omega, .inl hg⟩, k1⟩
def ptrL (cs : List PV) (off : Nat) : Option PV := some (.ip cs.length [match lendL cs with | [c] => c | l => .agg l] 0 off)
theorem ptrL_VR {w : World} {g : Ghost} {b : Nat} {cs : List PV} {c : Array Value} {e : TypeId} {fz : Nat × Nat} (hc : w.heap[b]? = some (.cells c e fz)) (hg : g b = .imm) (hv : VRl false w g cs c.toList) (ha : cs.all PV.isCell = true)
    (off : Nat) (p : PV) (h : ptrL cs off = some p) : VR true w g p (.pointer (some ⟨b, off, none⟩)) ∧ (∀ A, toks p (.pointer A) = []) ∧ p.isCell = true := by
  cases h
  have hcl := VRl_length hv
  have hv1 := VRl_lend (o := false) _ _ hv
  have hal : (lendL cs).all PV.isCell = true := by rw [all_lendL]; exact ha
  have hll : (lendL cs).length = cs.length := by rw [lendL_eq_map, List.length_map]
  refine ⟨⟨b, 0, c.toList, by simp, by simp, ⟨c, e, fz, hc, ?_, by simpa using hcl, .inl hg⟩, VRe_cons.2 ⟨c.toList, [], by simp, ⟨hcl, ?_⟩, rfl⟩⟩, fun A => by simp [toks], rfl⟩
  · rw [List.drop_zero, List.take_of_length_le (by rw [hcl]; simp)]
  · split
    · rename_i c1 e1
      rw [e1] at hv1 hal
      obtain ⟨v, vs, e2, e3, e4⟩ := hv1
      cases e4
      exact .inr ⟨by simpa using hal, v, e2, e3⟩
    · exact .inl ⟨_, rfl, hal, hv1⟩
theorem hget_frzH (b : Nat) (f : Nat → Nat → Option PV) (q : Nat → Option PV) (L : List Nat) {x : Nat} : ∀ {H : Heap}, hget H x = none → hget (frzH b f q L H) x = none
  | [], h => rfl
  | (c, cs) :: H, h => by
    simp only [hget] at h
    split at h
    · cases h
    · rename_i hne
      unfold frzH
      split
      · exact hget_frzH b f q L h
      · simp only [hget, if_neg hne]
        exact hget_frzH b f q L h
theorem hget_mem : ∀ {H : Heap} {b : Nat} {cs : List PV}, hget H b = some cs → (b, cs) ∈ H
  | (c, ds) :: H, b, cs, h => by
    simp only [hget] at h
    split at h
    · rename_i e
      subst e
      cases h
      exact List.mem_cons_self ..
    · exact List.mem_cons_of_mem _ (hget_mem h)
theorem mem_toksH {w : World} {t : Nat} : ∀ {H : Heap} {b : Nat} {cs : List PV}, (b, cs) ∈ H → t ∈ toksB w b cs → t ∈ toksH w H
  | (c, ds) :: H, b, cs, hm, ht => by
    simp only [toksH, List.mem_append]
    rcases List.mem_cons.1 hm with h | h
    · cases h; exact .inl ht
    · exact .inr (mem_toksH h ht)
theorem frzH_rel {w : World} {g g' : Ghost} {out : List Nat} {b : Nat} {f : Nat → Nat → Option PV} {q : Nat → Option PV} {L : List Nat} (hE : Evol out w g w g') (hm : ∀ c, c ≠ b → g c = .mut → g' c = .mut)
    (hf : ∀ l c p, f l c = some p → VR true w g' p (.slice (some ⟨b, 0, none⟩) l c) ∧ (∀ A, toks p (.slice A l c) = []) ∧ p.isCell = true)
    (hq : ∀ o p, q o = some p → VR true w g' p (.pointer (some ⟨b, o, none⟩)) ∧ (∀ A, toks p (.pointer A) = []) ∧ p.isCell = true) :
    ∀ {H : Heap}, (∀ t ∈ toksH w H, t ∈ out) → HRel w g H → HRel w g' (frzH b f q L H) ∧ ∀ t, (toksH w (frzH b f q L H)).count t ≤ (toksH w H).count t
  | [], ho, h => ⟨trivial, fun t => Nat.le_refl _⟩
  | (c, cs) :: H, ho, h => by
    obtain ⟨h0, h1, h2, ⟨cc, e, hc, hv⟩, hH⟩ := h
    obtain ⟨i1, i2⟩ := frzH_rel (L := L) hE hm hf hq (fun t ht => ho t (by simp only [toksH, List.mem_append]; exact .inr ht)) hH
    unfold frzH
    split
    · exact ⟨i1, fun t => by simp only [toksH, List.count_append]; have := i2 t; omega⟩
    · rename_i hne
      have hov : true = true → ∀ t ∈ toksL cs cc.toList, t ∈ out := fun _ t ht => ho t (by simp only [toksH, List.mem_append, toksB, hc]; exact .inl ht)
      obtain ⟨j1, j2⟩ := frzL_VR hE hf hq cs cc.toList hov hv
      split
      · refine ⟨⟨hget_frzH b f q L h0, hm c hne h1, by rw [frzL_all (fun l c p hp => (hf l c p hp).2.2) (fun o p hp => (hq o p hp).2.2)]; exact h2, ⟨cc, e, hc, j1⟩, i1⟩, fun t => ?_⟩
        have e1 : toksB w c (frzL b f q cs) = toksB w c cs := by simp only [toksB, hc, j2]
        simp only [toksH, List.count_append, e1]
        have := i2 t
        omega
      · refine ⟨⟨hget_frzH b f q L h0, hm c hne h1, h2, ⟨cc, e, hc, VRl_mono hE true _ _ hov hv⟩, i1⟩, fun t => ?_⟩
        simp only [toksH, List.count_append]
        have := i2 t
        omega
/-- A block that nobody will write again. -/
theorem freeze_rel {out : List Nat} {st : List PV} {H : Heap} {a : Act} {w : World} {g : Ghost} (h : Rel out st H a w g) {b : Nat} {cs : List PV} (hb : hget H b = some cs) (sz : Nat) (ag : Bool) (L : List Nat) :
    Rel out (frzL b (rowL sz ag cs) (ptrL cs) st) (frzH b (rowL sz ag cs) (ptrL cs) L H) a w (upd g b .imm) ∧ Evol out w g w (upd g b .imm) := by
  obtain ⟨hmut, hall, c, e, hc, hcv⟩ := h.hp.mut_of_get hb
  have htl : ∀ t, t ∈ out ++ toksL st a.tmps.toList ++ toksH w H → ∃ f, g t = .tail f := fun t ht => by
    simp only [List.mem_append] at ht
    rcases ht with (ht | ht) | ht
    · exact h.wr.outT t ht
    · exact toksL_tail st _ h.tm t ht
    · exact toksH_tail h.hp t ht
  have hne : ∀ t f, g t = .tail f → t ≠ b := fun t f hf e => by subst e; rw [hmut] at hf; cases hf
  have hE : Evol (out ++ toksL st a.tmps.toList ++ toksH w H) w g w (upd g b .imm) := by
    refine ⟨rfl, rfl, rfl, Nat.le_refl _, fun k hk hi => ⟨rfl, ?_⟩, fun k f c2 e2 fz hf h2 => ⟨c2, fz, h2, rfl, .inr ⟨f, Nat.le_refl _, ?_⟩⟩, fun k hk => ⟨rfl, ?_⟩⟩
    · rw [upd_ne _ _ (fun e => by subst e; rw [hmut] at hi; cases hi)]; exact hi
    · rw [upd_ne _ _ (hne k f hf)]; exact hf
    · obtain ⟨f, hf⟩ := htl k hk
      rw [upd_ne _ _ (hne k f hf)]
  have hfal := VRl_weak _ _ (VRl_mono hE true cs _ (fun _ t ht => by
    simp only [List.mem_append]
    exact .inr (mem_toksH (hget_mem hb) (by simp only [toksB, hc]; exact ht))) hcv)
  have hf := rowL_VR (sz := sz) (ag := ag) hc (upd_same g b .imm) hfal hall
  have hq := ptrL_VR hc (upd_same g b .imm) hfal hall
  obtain ⟨i1, i2⟩ := frzH_rel (L := L) hE (fun k hk hm => by rw [upd_ne _ _ hk]; exact hm) hf hq (H := H) (fun t ht => by simp [ht]) h.hp
  obtain ⟨j1, j2⟩ := frzL_VR hE hf hq st a.tmps.toList (fun _ t ht => by simp [ht]) h.tm
  refine ⟨⟨⟨fun k hk => ?_, fun k f hk => ?_, fun k hk => ?_⟩, i1, j1, fun t => ?_, h.df⟩, hE.sub (fun t ht => by simp [ht])⟩
  · by_cases e : k = b
    · subst e; exact upd_same _ _ _
    · rw [upd_ne _ _ e]; exact h.wr.fresh k hk
  · by_cases e : k = b
    · subst e; rw [upd_same] at hk; cases hk
    · rw [upd_ne _ _ e] at hk; exact h.wr.tl k f hk
  · obtain ⟨f, hf⟩ := h.wr.outT k hk
    exact ⟨f, by rw [upd_ne _ _ (hne k f hf)]; exact hf⟩
  · rw [j2]
    have := i2 t
    have := h.un t
    omega
section
variable {P : Program} {Q : PPost} {st : List PV} {H : Heap}
/-- From here on a block is only read. -/
theorem pwp_freeze {pc : PCode} {b : Nat} {cs : List PV} (sz : Nat) (ag : Bool) (L : List Nat) (hb : hget H b = some cs) (h : pwp P pc Q (frzL b (rowL sz ag cs) (ptrL cs) st) (frzH b (rowL sz ag cs) (ptrL cs) L H)) : pwp P pc Q st H := by
  intro hh c hc out a w g hR
  obtain ⟨h1, h2⟩ := freeze_rel hR hb sz ag L
  exact wp_mono (h hh c hc out a w _ h1) fun e a' w' hp => hp.trans h2
theorem SpecH_mono {f : Nat} {args : List PV} {R R' : PV → Heap → Prop} (h : SpecH P f H args R) (hr : ∀ r H', R r H' → R' r H') : SpecH P f H args R' :=
  ⟨h.1, fun out w g vals h1 h2 h3 h4 => (h.2 out w g vals h1 h2 h3 h4).mono fun e w' ⟨v, r, H', g', a1, a2, a3⟩ => ⟨v, r, H', g', a1, hr _ _ a2, a3⟩⟩
/-- .. a contract, behind which a block is only read. -/
theorem SpecH_freeze {f : Nat} {args : List PV} {R R' : PV → Heap → Prop} (h : SpecH P f H args R)
    (hr : ∀ r H', R r H' → ∃ b cs sz ag L, hget H' b = some cs ∧ R' (frz b (rowL sz ag cs) (ptrL cs) r) (frzH b (rowL sz ag cs) (ptrL cs) L H')) : SpecH P f H args R' := by
  refine ⟨h.1, fun out w g vals h1 h2 h3 h4 => (h.2 out w g vals h1 h2 h3 h4).mono ?_⟩
  rintro e w' ⟨v, r, H', g', rfl, a2, a3, a4, a5, a6, a7⟩
  obtain ⟨b, cs, sz, ag, L, hb, hR⟩ := hr _ _ a2
  have hRel : Rel out [r] H' { tmps := #[v], defers := [] } w' g' := ⟨a3, a4, ⟨v, [], rfl, a5, rfl⟩, fun t => by simpa [toksL] using a6 t, rfl⟩
  obtain ⟨k1, k2⟩ := freeze_rel hRel hb sz ag L
  obtain ⟨v1, vs1, e1, e2, _⟩ := k1.tm
  cases e1
  exact ⟨v, _, _, _, rfl, hR, k1.wr, k1.hp, e2, fun t => by simpa [toksL, frzL] using k1.un t, a7.trans k2⟩
end
end Go.Proofs.Ytkjibelcaeanjaa.E
