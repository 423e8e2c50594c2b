/- What a row hands over, as a table and an act. -/
import Derived.Test.YtkjibelcaeanjaaEL27
import Derived.Test.YtkjibelcaeanjaaE26
import Derived.Test.YtkjibelcaeanjaaProg
namespace Go.Proofs.Ytkjibelcaeanjaa.E
open Go Go.RowKit Go.Proofs Go.ChangeShapes Go.WideShapes
set_option linter.unusedVariables false
set_option linter.unusedSimpArgs false
theorem rows_of {α : Type} {f : α → PV} {p : α → Prop} {xs : List PV} (h : ∀ x ∈ xs, el true (fun ps => ∃ y, f y = .agg ps ∧ p y) x) : ∃ l : List α, xs = l.map f ∧ ∀ y ∈ l, p y := by
  induction xs with
  | nil => exact ⟨[], rfl, fun c hc => by cases hc⟩
  | cons x xs ih =>
    obtain ⟨l, rfl, hl⟩ := ih fun y hy => h y (List.mem_cons_of_mem _ hy)
    obtain ⟨cs, rfl, y, hy, hp⟩ := h x (List.mem_cons_self ..)
    refine ⟨y :: l, by rw [← hy]; rfl, fun c hc => ?_⟩
    rcases List.mem_cons.1 hc with rfl | hc
    · exact hp
    · exact hl c hc
theorem openTr : OpnV Try.prog 44 3 (fun ps => ∃ x : Tr, trV x = .agg ps ∧ True) :=
  (OpnV.struct Try.underlying44 (by kernel_rfl) (OpnVF.cons rfl (OpnV.int Try.underlying3 (by kernel_rfl)) (OpnVF.cons rfl (OpnV.int Try.underlying3 (by kernel_rfl)) (OpnVF.one rfl (OpnV.bool Try.underlying4 (by kernel_rfl)))))).weaken (by
    rintro _ ⟨_, q1, rfl, ⟨a, rfl, _⟩, _, q2, rfl, ⟨b, rfl, _⟩, o, rfl⟩
    exact ⟨⟨a, b, o⟩, rfl, trivial⟩)
theorem openTrs : OpnV Try.prog 40 1 (fun ps => ∃ l : List Tr, ps = [.lst 3 (l.map trV) false] ∧ l.length ≤ 6000000000000) :=
  (OpnV.slice (B := 24) true Try.underlying40 (by kernel_rfl) (by kernel_rfl) openTr (fun h => by cases h) (by omega)).weaken (by
    rintro _ ⟨xs, rfl, h1, _, h2⟩
    obtain ⟨l, rfl, _⟩ := rows_of h2
    rw [List.length_map] at h1
    exact ⟨l, rfl, by omega⟩)
theorem openTk : OpnV Try.prog 42 3 (fun ps => ∃ k : Tk, tkV k = .agg ps ∧ k.tr.length ≤ 6000000000000) :=
  (OpnV.struct Try.underlying42 (by kernel_rfl) (OpnVF.cons rfl openTrs (OpnVF.cons rfl (OpnV.int Try.underlying3 (by kernel_rfl)) (OpnVF.one rfl (OpnV.int Try.underlying3 (by kernel_rfl)))))).weaken (by
    rintro _ ⟨_, q1, rfl, ⟨l, rfl, hl⟩, _, q2, rfl, ⟨a, rfl, _⟩, b, rfl, _⟩
    exact ⟨⟨l, a, b⟩, rfl, hl⟩)
theorem openTks : OpnV Try.prog 22 1 (fun ps => ∃ l : List Tk, ps = [.lst 3 (l.map tkV) false] ∧ l.length ≤ 4000000000000 ∧ ∀ k ∈ l, k.tr.length ≤ 6000000000000) :=
  (OpnV.slice (B := 40) true Try.underlying22 (by kernel_rfl) (by kernel_rfl) openTk (fun h => by cases h) (by omega)).weaken (by
    rintro _ ⟨xs, rfl, h1, _, h2⟩
    obtain ⟨l, rfl, h3⟩ := rows_of h2
    rw [List.length_map] at h1
    exact ⟨l, rfl, by omega, h3⟩)
/-- A table. -/
theorem openTb : OpnV Try.prog 24 3 (fun ps => ∃ t : Tb, tbV t = .agg ps ∧ Fits t) :=
  (OpnV.struct Try.underlying24 (by kernel_rfl) (OpnVF.cons rfl (OpnV.int Try.underlying3 (by kernel_rfl)) (OpnVF.cons rfl (OpnV.int Try.underlying3 (by kernel_rfl)) (OpnVF.one rfl openTks)))).weaken (by
    rintro _ ⟨_, q1, rfl, ⟨a, rfl, _⟩, _, q2, rfl, ⟨b, rfl, _⟩, l, rfl, h1, h2⟩
    exact ⟨⟨a, b, l⟩, rfl, ⟨h1, h2⟩⟩)
/-- An act. -/
theorem openAct : OpnV Try.prog 26 5 (fun ps => ∃ a b c d e : Int, ps = [.int .i64 a, .int .i64 b, .int .i64 c, .int .i64 d, .int .i64 e]) :=
  (OpnV.struct Try.underlying26 (by kernel_rfl) (OpnVF.cons rfl (OpnV.int Try.underlying3 (by kernel_rfl)) (OpnVF.cons rfl (OpnV.int Try.underlying3 (by kernel_rfl)) (OpnVF.cons rfl (OpnV.int Try.underlying3 (by kernel_rfl))
    (OpnVF.cons rfl (OpnV.int Try.underlying3 (by kernel_rfl)) (OpnVF.one rfl (OpnV.int Try.underlying3 (by kernel_rfl)))))))).weaken (by
    rintro _ ⟨_, q1, rfl, ⟨a, rfl, _⟩, _, q2, rfl, ⟨b, rfl, _⟩, _, q3, rfl, ⟨c, rfl, _⟩, _, q4, rfl, ⟨d, rfl, _⟩, e, rfl, _⟩
    exact ⟨a, b, c, d, e, rfl⟩)
end Go.Proofs.Ytkjibelcaeanjaa.E
