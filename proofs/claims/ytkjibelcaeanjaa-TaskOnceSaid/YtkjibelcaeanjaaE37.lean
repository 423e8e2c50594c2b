/- A logic of plain values, part 37: cells of blocks said otherwise. -/
import Derived.Test.YtkjibelcaeanjaaE36
namespace Go.Proofs.Ytkjibelcaeanjaa.E
open Go Go.RowKit
set_option linter.unusedVariables false
set_option linter.unusedSimpArgs false
theorem ite_none {α : Type} {c : Prop} [Decidable c] {x : α} {y : Option α} (h : (if c then some x else y) = none) : ¬ c ∧ y = none := by
  split at h
  · cases h
  · exact ⟨by assumption, h⟩
def HUp : Heap → Heap → Prop
  | [], H2 => H2 = []
  | (b, cs) :: H, (c, ds) :: H2 => b = c ∧ UpL true cs ds ∧ HUp H H2
  | _ :: _, [] => False
theorem HUp_refl : ∀ H : Heap, HUp H H
  | [] => rfl
  | (b, cs) :: H => ⟨rfl, UpL_refl _ _, HUp_refl H⟩
theorem HUp_none {b : Nat} : ∀ {H H2 : Heap}, HUp H H2 → hget H b = none → hget H2 b = none
  | [], H2, h, _ => by cases h; rfl
  | (c, cs) :: H, [], h, _ => h.elim
  | (c, cs) :: H, (d, ds) :: H2, h, hb => by
    obtain ⟨rfl, _, h⟩ := h
    obtain ⟨h1, h2⟩ := hget_cons_none.1 hb
    exact hget_cons_none.2 ⟨h1, HUp_none h h2⟩
theorem HUp_rel {w : World} {g : Ghost} : ∀ {H H2 : Heap}, HUp H H2 → HRel w g H → HRel w g H2 ∧ toksH w H2 = toksH w H
  | [], H2, h, _ => by cases h; exact ⟨trivial, rfl⟩
  | (c, cs) :: H, [], h, _ => h.elim
  | (c, cs) :: H, (d, ds) :: H2, h, hr => by
    obtain ⟨rfl, hu, h⟩ := h
    obtain ⟨h0, h1, h2, ⟨cc, e, h3, h4⟩, h5⟩ := hr
    obtain ⟨i1, i2⟩ := HUp_rel h h5
    refine ⟨⟨HUp_none h h0, h1, by rw [UpL_all hu]; exact h2, ⟨cc, e, h3, UpL_VR (fun h => h) cs ds _ hu h4⟩, i1⟩, ?_⟩
    have : toksB w c ds = toksB w c cs := by simp only [toksB, h3, UpL_toks cs ds _ hu]
    simp only [toksH, this, i2]
section
variable {P : Program} {Q : PPost} {st : List PV} {H : Heap}
theorem pwp_upH {pc : PCode} {H2 : Heap} (hu : HUp H H2) (h : pwp P pc Q st H2) : pwp P pc Q st H := by
  intro hh c hc out a w g hR
  obtain ⟨h1, h2⟩ := HUp_rel hu hR.hp
  exact h hh c hc out a w g ⟨hR.wr, h1, hR.tm, fun b => by rw [h2]; exact hR.un b, hR.df⟩
/-- A loop, between whose rounds slots and cells may be said otherwise. -/
theorem pwp_loopV (keep : List Nat) (I : Nat → List PV → Heap → Prop) {x : PCode} {n : Nat} (h0 : ∃ st2 H2 H3, UpL true (keepL keep 0 st) st2 ∧ H2.Sublist H ∧ HUp H2 H3 ∧ I n st2 H3)
    (h : ∀ n st H, I n st H → pwp P x (thenP (fun st' H' => ∃ m, m < n ∧ ∃ st2 H2 H3, UpL true (keepL keep 0 st') st2 ∧ H2.Sublist H' ∧ HUp H2 H3 ∧ I m st2 H3) Q) st H) : pwp P (.loop x) Q st H := by
  refine pwp_loop (fun m s H' => ∃ st2 H2 H3, UpL true (keepL keep 0 s) st2 ∧ H2.Sublist H' ∧ HUp H2 H3 ∧ I m st2 H3) h0 ?_
  rintro m s H' ⟨st2, H2, H3, h1, h2, h3, h4⟩
  exact pwp_drop h2 (pwp_upH h3 (pwp_keep keep (pwp_up h1 (h m _ _ h4))))
/-- Only these slots are kept, and said so. -/
theorem pwp_kept {pc : PCode} {keep : List Nat} {n : Nat} {l l' : List (Nat × PV)} (e : keepA keep l = l') (h : pwp P pc Q (MS n l') H) : pwp P pc Q (MS n l) H :=
  pwp_keep keep (by rw [keepL_MS, e]; exact h)
theorem pwp_difE (hmix : P.follows .mixedOrders = true) {ops : List POp} {late : List (Nat × Nat)} {c : Arg} {x y : PCode} (h : ∀ K : List PV → Heap → Prop, (∀ st' H', IfP P c x y Q st' H' → K st' H') → planM P ops K st H) : pwp P (.seq (.draw ops late) (.cond c x y)) Q st H :=
  pwp_sd hmix fun K hK => h K fun st' H' ⟨b, h1, h2, h3⟩ => hK st' H' (pwp_cond h1 h2 h3)
end
end Go.Proofs.Ytkjibelcaeanjaa.E
