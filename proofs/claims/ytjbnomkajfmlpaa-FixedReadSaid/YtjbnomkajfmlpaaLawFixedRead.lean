-- written for this claim by a program of this session, over the kit's print
import Derived.Test.YtjbnomkajfmlpaaRows
import Derived.Test.YtjbnomkajfmlpaaPAx5
import Derived.Test.YtjbnomkajfmlpaaPAx5
import Derived.Test.YtjbnomkajfmlpaaPureFixedRead
import Derived.Test.YtjbnomkajfmlpaaXOpen
import Derived.WalkKit
import Derived.ProofKit
import Derived.OpenShut
import Derived.ShutString
import Derived.ChangeOld
import Derived.Below
import Derived.SizedLaws
namespace Go.Proofs.Ytjbnomkajfmlpaa.fixedRead
open Go.ChangeShapes Go.WideShapes Go.ChangeAt Go.RowKit Go.Proofs.Ytjbnomkajfmlpaa.PA Go.Proofs.YtjbnomkajfmlpaaW.PrintWords
open Go.ChangeMaps (open_string shut_string)
set_option linter.unusedVariables false
set_option linter.unusedSimpArgs false
theorem own : ownKnob Try.prog.godebug = none := by kernel_rfl
theorem laidOut : laidOutB Try.prog = true := by kernel_rfl
set_option maxRecDepth 100000 in
theorem lifted (os : Os) (started : os.Started) (H : Type) (enc : TypeId × Value → H) :
    ReturnsInHanded {} Try.checked os 6 .any (Rows.fixedReadSpec.pre6 enc Try.prog Try.f6 Rows.fixedReadRow.domain false) (Rows.fixedReadSpec.post enc Try.prog Try.f6 false true false false) := by
  refine returnsInHanded_of_change_sized (C := Try.checked) own started (by kernel_rfl) Try.func6
    (ChangeSpec.witness6 (enc := enc) (C := Try.checked) false ⟨#[], #[.slice none 0 0, .agg #[.int .i64 0, .int .i64 0, .int .i64 0]], []⟩ 8 (by kernel_rfl) (by kernel_rfl) (by kernel_rfl) (by kernel_rfl)) ?_
  intro W base args ds gs before hval0 hW hcnd hsz0 _
  have hsz : (DataW.weightsEach Try.prog (Try.f6.params.toList ++ Rows.fixedReadSpec.plain.varTypes Try.prog) (ds ++ gs)).all (· ≤ reachBytes) = true := hsz0
  have hval : ∀ (j : Nat) t v, Try.f6.params[j]? = some t → args[j]? = some v → Value.okWide Try.prog W .any base t v := hval0
  have hW' := hW
  obtain ⟨p, q, hA0, hV, rfl, hfz, hnd⟩ := hW
  have hA : DataW.TrodAll enc Try.prog W 0 (fun _ => true) true Try.f6.params.toList args.toList ds p := hA0
  rw [Try.params6] at hA hval hsz
  obtain ⟨v0, vs0, d0, ds0, p0, q0, hargs, rfl, rfl, h0, r0⟩ := trodAll_cons hA
  obtain ⟨v1, vs1, d1, ds1, p1, q1, rfl, rfl, rfl, h1, r1⟩ := trodAll_cons r0
  obtain ⟨rfl, rfl, rfl⟩ := trodAll_nil r1
  obtain rfl : args = #[v0, v1] := by cases args; simp_all
  obtain ⟨rfl, rfl⟩ := trodVars_none hV
  obtain ⟨a0, len0, cap0, rfl⟩ := okWide_slice Try.underlying25 (hval 0 25 v0 rfl rfl)
  have k0 := h0
  have lt0 : ∀ x ∈ p0, x.block < W.heap.size := by obtain ⟨m, hm⟩ := k0; exact DataW.trod_lt m _ _ _ hm
  obtain ⟨l0, ⟨A0, c0, e0, hc0, hr0⟩, hm0, hz0, hw0⟩ := ((Opn.slice (B := 1) Try.underlying25 (by kernel_rfl) (by kernel_rfl) (Opn.int Try.underlying5 (by kernel_rfl))) : Opn Try.prog 25 (Kd.slice 5 (Kd.int .u8)) _).arg h0 hsz (j := 0) (t := 25) rfl rfl
  simp only [Value.cells, List.cons.injEq, Value.slice.injEq, and_true] at e0
  obtain ⟨rfl, rfl, rfl⟩ := e0
  obtain ⟨cs1, rfl, _⟩ := okWide_struct Try.underlying39 (hval 1 39 v1 rfl rfl)
  have k1 := h1
  have lt1 : ∀ x ∈ p1, x.block < W.heap.size := by obtain ⟨m, hm⟩ := k1; exact DataW.trod_lt m _ _ _ hm
  obtain ⟨x1, K1, w1⟩ := ((Opn.struct Try.underlying39 (by kernel_rfl) (OpnF.cons rfl (Opn.int Try.underlying3 (by kernel_rfl)) (OpnF.cons rfl (Opn.int Try.underlying3 (by kernel_rfl)) (OpnF.one rfl (Opn.int Try.underlying3 (by kernel_rfl)))))) : Opn Try.prog 39 (Kd.pair (Kd.int .i64) (Kd.pair (Kd.int .i64) (Kd.int .i64))) _).arg h1 hsz (j := 1) (t := 39) rfl rfl
  obtain ⟨w1_0, w1_1, w1_2⟩ := w1
  have E1 : ∃ (u0 u1 u2 : Option Addr × Nat), (Value.agg cs1).cells.toList = [.int .i64 x1.1, .int .i64 x1.2.1, .int .i64 x1.2.2] := by
    obtain ⟨c0_, c1_, e_, rfl, ⟨_, _, rfl, rfl, rfl⟩⟩ := K1
    refine ⟨(none, 0), (none, 0), (none, 0), ?_⟩
    refine e_
  obtain ⟨u1_0, u1_1, u1_2, E1⟩ := E1
  clear hA0 hval0 hsz0 hsz
  have hcall : Calls Try.prog 6 #[.slice a0 l0.length cap0, .agg cs1] W (fun e w' => e = .returned (.bool true) ∧ Below W.heap.size W w') := by
    rw [agg_cells E1]
    obtain ⟨k_, h_⟩ := Pure.FixedRead l0 x1.1 x1.2.1 x1.2.2 hm0 hz0 hw0 w1_0 w1_1 w1_2
    refine (PA.threshinglaw09_FixedRead.calls k_ _ _ l0 x1.1 x1.2.1 x1.2.2 true W hr0 hc0 h_).mono ?_
    rintro e w' ⟨rfl, hd⟩
    first | exact ⟨rfl, hd⟩ | exact ⟨rfl, hd.below⟩
  refine hcall.mono fun e W' ⟨he, bel⟩ => ?_
  subst he
  exact ⟨_, rfl, _, _, _, [], _, [], hW', trodAll_mk1 (shut_bool Try.underlying4 _), (trodAll_cons_mk (Below.trod laidOut (by kernel_rfl) (of_decide_eq_true (by kernel_rfl)) k0 bel lt0) (trodAll_cons_mk (Below.trod laidOut (by kernel_rfl) (of_decide_eq_true (by kernel_rfl)) k1 bel lt1) trodAll_mk0)), rfl, bel.frame _, fun h => by cases h⟩
theorem over : Rows.fixedReadRow.holds Try.pinned (OpenSpec.ofChange Rows.fixedReadSpec) :=
  OpenClaim.holds_of_wide 6 Try.f6 rfl rfl rfl rfl rfl rfl rfl ⟨rfl, rfl, rfl, rfl, rfl⟩ rfl rfl rfl rfl rfl (by kernel_rfl) Try.func6 (by kernel_rfl)
    (of_decide_eq_true (by kernel_rfl)) (by unfold Func.isWrapper; first | (rw [if_pos (by decide +kernel)]; kernel_rfl) | (rw [if_neg (by decide +kernel)]; exact ⟨rfl, rfl⟩))
    (fun os started H enc _ => lifted os started H enc)
theorem proved : Rows.FixedReadSaid := over
#print axioms proved
end Go.Proofs.Ytjbnomkajfmlpaa.fixedRead
namespace Go.Proofs.Ytjbnomkajfmlpaa
/-- The row, under a short name, for the claim. -/
theorem fixedRead_holds : Rows.FixedReadSaid := fixedRead.proved
end Go.Proofs.Ytjbnomkajfmlpaa
