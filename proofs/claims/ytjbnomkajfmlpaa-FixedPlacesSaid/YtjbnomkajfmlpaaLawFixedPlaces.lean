/- The row of FixedPlaces. -/
import Derived.Test.YtjbnomkajfmlpaaRows
import Derived.Test.YtjbnomkajfmlpaaEL9
import Derived.WalkKit
import Derived.ProofKit
import Derived.OpenShut
import Derived.ShutString
import Derived.ChangeOld
import Derived.Below
import Derived.SizedLaws
namespace Go.Proofs.Ytjbnomkajfmlpaa.fixedPlaces
open Go.ChangeShapes Go.WideShapes Go.ChangeAt Go.RowKit Go.Proofs.Ytjbnomkajfmlpaa.E
set_option linter.unusedVariables false
set_option linter.unusedSimpArgs false
theorem own : ownKnob Try.prog.godebug = none := by kernel_rfl
theorem laidOut : laidOutB Try.prog = true := by kernel_rfl
theorem bytes_of {xs : List PV} (h : ∀ x ∈ xs, el false (fun ps => ∃ n, ps = [.int .u8 n] ∧ (Lit.int .u8 n).wf = true) x) : ∃ bs : List Int, xs = bs.map (.int .u8) ∧ Wf8 bs := by
  induction xs with
  | nil => exact ⟨[], rfl, fun c hc => by cases hc⟩
  | cons x xs ih =>
    obtain ⟨bs, rfl, hw⟩ := ih fun y hy => h y (List.mem_cons_of_mem _ hy)
    obtain ⟨n, hn, hwf⟩ := h x (List.mem_cons_self ..)
    cases hn
    refine ⟨n :: bs, rfl, fun c hc => ?_⟩
    rcases List.mem_cons.1 hc with rfl | hc
    · have h1 : (decide (IntKind.u8.min ≤ c) && decide (c ≤ IntKind.u8.max)) = true := hwf
      have e1 : IntKind.u8.min = 0 := by decide
      have e2 : IntKind.u8.max = 255 := by decide
      rw [e1, e2] at h1
      simp only [Bool.and_eq_true, decide_eq_true_eq] at h1
      omega
    · exact hw c hc
set_option maxRecDepth 100000 in
theorem lifted (os : Os) (started : os.Started) (H : Type) (enc : TypeId × Value → H) :
    ReturnsInHanded {} Try.checked os 8 .any (Rows.fixedPlacesSpec.pre6 enc Try.prog Try.f8 Rows.fixedPlacesRow.domain false) (Rows.fixedPlacesSpec.post enc Try.prog Try.f8 false true false false) := by
  refine returnsInHanded_of_change_sized (C := Try.checked) own started (by kernel_rfl) Try.func8
    (ChangeSpec.witness6 (enc := enc) (C := Try.checked) false ⟨#[], #[.slice none 0 0, .agg #[.int .i64 0, .int .i64 0, .int .i64 0]], []⟩ 8 (by kernel_rfl) (by kernel_rfl) (by kernel_rfl) (by kernel_rfl)) ?_
  intro W base args ds gs before hval0 hW hcnd hsz0 _
  have hsz : (DataW.weightsEach Try.prog (Try.f8.params.toList ++ Rows.fixedPlacesSpec.plain.varTypes Try.prog) (ds ++ gs)).all (· ≤ reachBytes) = true := hsz0
  have hval : ∀ (j : Nat) t v, Try.f8.params[j]? = some t → args[j]? = some v → Value.okWide Try.prog W .any base t v := hval0
  have hW' := hW
  obtain ⟨p, q, hA0, hV, rfl, hfz, hnd⟩ := hW
  have hA : DataW.TrodAll enc Try.prog W 0 (fun _ => true) true Try.f8.params.toList args.toList ds p := hA0
  rw [Try.params8] at hA hval hsz
  obtain ⟨v0, vs0, d0, ds0, p0, q0, hargs, rfl, rfl, h0, r0⟩ := trodAll_cons hA
  obtain ⟨v1, vs1, d1, ds1, p1, q1, rfl, rfl, rfl, h1, r1⟩ := trodAll_cons r0
  obtain ⟨rfl, rfl, rfl⟩ := trodAll_nil r1
  obtain rfl : args = #[v0, v1] := by cases args; simp_all
  obtain ⟨rfl, rfl⟩ := trodVars_none hV
  obtain ⟨a0, len0, cap0, rfl⟩ := okWide_slice Try.underlying25 (hval 0 25 v0 rfl rfl)
  have k0 := h0
  have lt0 : ∀ x ∈ p0, x.block < W.heap.size := by obtain ⟨m, hm⟩ := k0; exact DataW.trod_lt m _ _ _ hm
  obtain ⟨P0, V0, T0, xs0, e0, _, _, ok0⟩ := (OpnV.slice (B := 1) false Try.underlying25 (by kernel_rfl) (by kernel_rfl) (OpnV.int Try.underlying5 (by kernel_rfl)) (fun _ => rfl) (by omega)).arg h0 hsz (j := 0) (t := 25) rfl rfl rfl
  cases e0
  obtain ⟨bs, rfl, hwf⟩ := bytes_of ok0
  obtain ⟨cs1, rfl, _⟩ := okWide_struct Try.underlying39 (hval 1 39 v1 rfl rfl)
  have k1 := h1
  have lt1 : ∀ x ∈ p1, x.block < W.heap.size := by obtain ⟨m, hm⟩ := k1; exact DataW.trod_lt m _ _ _ hm
  obtain ⟨P1, V1, T1, qs1, e1, _, q1', rfl, ⟨f, rfl, _⟩, _, q2', rfl, ⟨t, rfl, _⟩, w, rfl, _⟩ := (OpnV.struct Try.underlying39 (by kernel_rfl) (OpnVF.cons rfl (OpnV.int Try.underlying3 (by kernel_rfl)) (OpnVF.cons rfl (OpnV.int Try.underlying3 (by kernel_rfl)) (OpnVF.one rfl (OpnV.int Try.underlying3 (by kernel_rfl)))))).argS h1 hsz (j := 1) (t := 39) rfl rfl
  subst e1
  clear hA0 hval0 hsz0 hsz
  have hcall : Calls Try.prog 8 #[.slice a0 len0 cap0, .agg cs1] W (fun e w' => e = .returned (.bool true) ∧ Below W.heap.size W w') :=
    row_of (places bs f t w hwf) ⟨_, _, rfl, V0, _, _, rfl, V1, rfl⟩ (by
      have T2 : toks (.agg [.int .i64 f, .int .i64 t, .int .i64 w]) (Value.agg cs1) = [] := T1
      simp only [toksL, bytesV]
      rw [T0, T2]
      rfl)
  refine hcall.mono fun e W' ⟨he, bel⟩ => ?_
  subst he
  exact ⟨_, rfl, _, _, _, [], _, [], hW', trodAll_mk1 (shut_bool Try.underlying4 _), (trodAll_cons_mk (Below.trod laidOut (by kernel_rfl) (of_decide_eq_true (by kernel_rfl)) k0 bel lt0) (trodAll_cons_mk (Below.trod laidOut (by kernel_rfl) (of_decide_eq_true (by kernel_rfl)) k1 bel lt1) trodAll_mk0)), rfl, bel.frame _, fun h => by cases h⟩
theorem over : Rows.fixedPlacesRow.holds Try.pinned (OpenSpec.ofChange Rows.fixedPlacesSpec) :=
  OpenClaim.holds_of_wide 8 Try.f8 rfl rfl rfl rfl rfl rfl rfl ⟨rfl, rfl, rfl, rfl, rfl⟩ rfl rfl rfl rfl rfl (by kernel_rfl) Try.func8 (by kernel_rfl)
    (of_decide_eq_true (by kernel_rfl)) (by unfold Func.isWrapper; first | (rw [if_pos (by decide +kernel)]; kernel_rfl) | (rw [if_neg (by decide +kernel)]; exact ⟨rfl, rfl⟩))
    (fun os started H enc _ => lifted os started H enc)
theorem proved : Rows.FixedPlacesSaid := over
#print axioms proved
end Go.Proofs.Ytjbnomkajfmlpaa.fixedPlaces
namespace Go.Proofs.Ytjbnomkajfmlpaa
/-- The row, under a short name, for the claim. -/
theorem fixedPlaces_holds : Rows.FixedPlacesSaid := fixedPlaces.proved
end Go.Proofs.Ytjbnomkajfmlpaa
