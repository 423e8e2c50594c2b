-- written for this claim by a program of this session, over the kit's print
import Derived.Test.YtcdhambknkfhjaaPAx0
import Derived.Test.YtcdhambknkfhjaaPAx1
import Derived.Test.YtcdhambknkfhjaaPAx2
import Derived.Test.YtcdhambknkfhjaaPAx5
import Derived.Test.YtcdhambknkfhjaaPAx6
namespace Go.Proofs.Ytcdhambknkfhjaa.PA
open Go.RowKit Go.Proofs.YtcdhambknkfhjaaW.PrintWords Go.Proofs.YtcdhambknkfhjaaW.PrintLast Go.Proofs.YtcdhambknkfhjaaW.PrintMore
attribute [local go_sem] max2_int min2_int max_two min_two max_three min_three max_four min_four   -- for this text's walks alone
set_option linter.unusedVariables false
set_option linter.unusedSimpArgs false

attribute [local go_sem high] eqA31
/-! ### threshinglaw01_VarintTakes: function 6 -/
mutual
def threshinglaw01_VarintTakes.j0 : Nat → List Int → List Int → List Int → Bool → Option (Bool)
  | 0, _, _, _, _ => none
  | k + 1, x0, x5, x7, x24 => threshinglaw01_VarintTakes.l0 k x0 x5 x7 x24 0
def threshinglaw01_VarintTakes.l0 : Nat → List Int → List Int → List Int → Bool → Int → Option (Bool)
  | 0, _, _, _, _, _ => none
  | k + 1, x0, x5, x7, x24, x25 => if x25 < (x7.length : Int) then (if 0 ≤ x25 then (threshinglaw01_VarintTakes.l0 k x0 x5 (x7.set (x25 : Int).toNat 1) x24 (wrap64 (x25 + 1))) else (none)) else ((threshinglaw01_alive.f k).bind fun t357 => (if t357 = true then (if x24 = true then (some ((strOfNums x5).toList == (strOfNums x0).toList)) else (some false)) else (some false)))
end
def threshinglaw01_VarintTakes.f (k : Nat) (l0 : List Int) (a1 : Int) : Option (Bool) := if (l0.length : Int) > 3000 then ((threshinglaw01_alive.f k).bind fun t315 => (some t315)) else ((some (([] : List Int) : List Int)).bind fun y316 => (if y316.length + l0.length < 140737488355328 then ((some (y316 ++ l0 : List Int)).bind fun y319 => ((varint_Take.f k y319).bind fun bt322 => ((threshingref01_Take.f k l0).bind fun bt327 => ((varint_TakeFrame.f k y319 a1).bind fun bt332 => ((threshingref01_TakeFrame.f k l0 a1).bind fun bt337 => ((varint_TakePair.f k y319 a1).bind fun bt342 => ((threshingref01_TakePair.f k l0 a1).bind fun bt349 => (if bt322.1 = bt327.1 then (if (strOfNums bt322.2.1).toList = (strOfNums bt327.2.1).toList then (if bt322.2.2 = bt327.2.2 then (if bt332.1.toList = bt337.1.toList then (if (strOfNums bt332.2.1).toList = (strOfNums bt337.2.1).toList then (if bt332.2.2 = bt337.2.2 then (if (bt342.1.toList == bt349.1.toList && (bt342.2.1.toList == bt349.2.1.toList)) = true then (if (strOfNums bt342.2.2.1).toList = (strOfNums bt349.2.2.1).toList then (threshinglaw01_VarintTakes.j0 k l0 y319 bt322.2.1 (bt342.2.2.2 == bt349.2.2.2)) else (threshinglaw01_VarintTakes.j0 k l0 y319 bt322.2.1 false)) else (threshinglaw01_VarintTakes.j0 k l0 y319 bt322.2.1 false)) else (threshinglaw01_VarintTakes.j0 k l0 y319 bt322.2.1 false)) else (threshinglaw01_VarintTakes.j0 k l0 y319 bt322.2.1 false)) else (threshinglaw01_VarintTakes.j0 k l0 y319 bt322.2.1 false)) else (threshinglaw01_VarintTakes.j0 k l0 y319 bt322.2.1 false)) else (threshinglaw01_VarintTakes.j0 k l0 y319 bt322.2.1 false)) else (threshinglaw01_VarintTakes.j0 k l0 y319 bt322.2.1 false))))))))) else (none)))
theorem threshinglaw01_VarintTakes.mono_l : ∀ k, (∀ y0 y1 y2 y3, LeO (threshinglaw01_VarintTakes.j0 k y0 y1 y2 y3) (threshinglaw01_VarintTakes.j0 (k + 1) y0 y1 y2 y3)) ∧ (∀ y0 y1 y2 y3 y4, LeO (threshinglaw01_VarintTakes.l0 k y0 y1 y2 y3 y4) (threshinglaw01_VarintTakes.l0 (k + 1) y0 y1 y2 y3 y4))
  | 0 => ⟨fun _ _ _ _ r h => by simp [threshinglaw01_VarintTakes.j0] at h, fun _ _ _ _ _ r h => by simp [threshinglaw01_VarintTakes.l0] at h⟩
  | k + 1 => by
    obtain ⟨ih0, ih1⟩ := threshinglaw01_VarintTakes.mono_l k
    refine ⟨?_, ?_⟩
    · intro y0 y1 y2 y3
      unfold threshinglaw01_VarintTakes.j0
      repeat' first
      | (with_reducible exact ih0 _ _ _ _)
      | (with_reducible exact ih1 _ _ _ _ _)
      | (with_reducible exact threshinglaw01_alive.mono _)
      | (with_reducible exact threshingref01_Take.mono _ _)
      | (with_reducible exact threshingref01_TakeFrame.mono _ _ _)
      | (with_reducible exact threshingref01_TakePair.mono _ _ _)
      | (with_reducible exact varint_Take.mono _ _)
      | (with_reducible exact varint_TakeFrame.mono _ _ _)
      | (with_reducible exact varint_TakePair.mono _ _ _)
      | (with_reducible exact LeO.refl _)
      | (with_reducible exact LeO.none _)
      | (with_reducible refine LeO.ite ?_ ?_)
      | (with_reducible refine LeO.bind ?_ (fun _ => ?_))
      | exact ih0 _ _ _ _
      | exact ih1 _ _ _ _ _
      | exact threshinglaw01_alive.mono _
      | exact threshingref01_Take.mono _ _
      | exact threshingref01_TakeFrame.mono _ _ _
      | exact threshingref01_TakePair.mono _ _ _
      | exact varint_Take.mono _ _
      | exact varint_TakeFrame.mono _ _ _
      | exact varint_TakePair.mono _ _ _
      | exact LeO.none _
      | refine LeO.ite ?_ ?_
      | refine LeO.bind ?_ (fun _ => ?_)
    · intro y0 y1 y2 y3 y4
      unfold threshinglaw01_VarintTakes.l0
      repeat' first
      | (with_reducible exact ih0 _ _ _ _)
      | (with_reducible exact ih1 _ _ _ _ _)
      | (with_reducible exact threshinglaw01_alive.mono _)
      | (with_reducible exact threshingref01_Take.mono _ _)
      | (with_reducible exact threshingref01_TakeFrame.mono _ _ _)
      | (with_reducible exact threshingref01_TakePair.mono _ _ _)
      | (with_reducible exact varint_Take.mono _ _)
      | (with_reducible exact varint_TakeFrame.mono _ _ _)
      | (with_reducible exact varint_TakePair.mono _ _ _)
      | (with_reducible exact LeO.refl _)
      | (with_reducible exact LeO.none _)
      | (with_reducible refine LeO.ite ?_ ?_)
      | (with_reducible refine LeO.bind ?_ (fun _ => ?_))
      | exact ih0 _ _ _ _
      | exact ih1 _ _ _ _ _
      | exact threshinglaw01_alive.mono _
      | exact threshingref01_Take.mono _ _
      | exact threshingref01_TakeFrame.mono _ _ _
      | exact threshingref01_TakePair.mono _ _ _
      | exact varint_Take.mono _ _
      | exact varint_TakeFrame.mono _ _ _
      | exact varint_TakePair.mono _ _ _
      | exact LeO.none _
      | refine LeO.ite ?_ ?_
      | refine LeO.bind ?_ (fun _ => ?_)
theorem threshinglaw01_VarintTakes.mono : ∀ a0 a1 k, LeO (threshinglaw01_VarintTakes.f k a0 a1) (threshinglaw01_VarintTakes.f (k + 1) a0 a1) := by
  intro a0 a1 k
  obtain ⟨ih0, ih1⟩ := threshinglaw01_VarintTakes.mono_l k
  unfold threshinglaw01_VarintTakes.f
  repeat' first
      | (with_reducible exact ih0 _ _ _ _)
      | (with_reducible exact ih1 _ _ _ _ _)
      | (with_reducible exact threshinglaw01_alive.mono _)
      | (with_reducible exact threshingref01_Take.mono _ _)
      | (with_reducible exact threshingref01_TakeFrame.mono _ _ _)
      | (with_reducible exact threshingref01_TakePair.mono _ _ _)
      | (with_reducible exact varint_Take.mono _ _)
      | (with_reducible exact varint_TakeFrame.mono _ _ _)
      | (with_reducible exact varint_TakePair.mono _ _ _)
      | (with_reducible exact LeO.refl _)
      | (with_reducible exact LeO.none _)
      | (with_reducible refine LeO.ite ?_ ?_)
      | (with_reducible refine LeO.bind ?_ (fun _ => ?_))
      | exact ih0 _ _ _ _
      | exact ih1 _ _ _ _ _
      | exact threshinglaw01_alive.mono _
      | exact threshingref01_Take.mono _ _
      | exact threshingref01_TakeFrame.mono _ _ _
      | exact threshingref01_TakePair.mono _ _ _
      | exact varint_Take.mono _ _
      | exact varint_TakeFrame.mono _ _ _
      | exact varint_TakePair.mono _ _ _
      | exact LeO.none _
      | refine LeO.ite ?_ ?_
      | refine LeO.bind ?_ (fun _ => ?_)
set_option maxHeartbeats 8000000 in
set_option maxRecDepth 100000 in
theorem threshinglaw01_VarintTakes.calls (k : Nat) (A0 : Option Addr) (c0 : Nat) (l0 : List Int) (a1 : Int) (r : Bool) (w : World) (hr0 : Kd.C (Kd.int .u8) w A0 l0.length l0) (hc0 : l0.length ≤ c0) (h : threshinglaw01_VarintTakes.f k l0 a1 = some r) :
    Calls Try.prog 6 #[.slice A0 l0.length c0, .int .i64 a1] w fun e w' => e = .returned (.bool r) ∧ Below w.heap.size w w' := by
  have hu31 := Try.underlying31
  have HR0 := Aside0.mk hr0
  have HC0 := Aside0.mk hc0
  clear hr0 hc0
  have HB := Aside0.mk (Below.refl w.heap.size w)
  have H : (if (l0.length : Int) > 3000 then ((threshinglaw01_alive.f k).bind fun t315 => (some t315)) else ((some (([] : List Int) : List Int)).bind fun y316 => (if y316.length + l0.length < 140737488355328 then ((some (y316 ++ l0 : List Int)).bind fun y319 => ((varint_Take.f k y319).bind fun bt322 => ((threshingref01_Take.f k l0).bind fun bt327 => ((varint_TakeFrame.f k y319 a1).bind fun bt332 => ((threshingref01_TakeFrame.f k l0 a1).bind fun bt337 => ((varint_TakePair.f k y319 a1).bind fun bt342 => ((threshingref01_TakePair.f k l0 a1).bind fun bt349 => (if bt322.1 = bt327.1 then (if (strOfNums bt322.2.1).toList = (strOfNums bt327.2.1).toList then (if bt322.2.2 = bt327.2.2 then (if bt332.1.toList = bt337.1.toList then (if (strOfNums bt332.2.1).toList = (strOfNums bt337.2.1).toList then (if bt332.2.2 = bt337.2.2 then (if (bt342.1.toList == bt349.1.toList && (bt342.2.1.toList == bt349.2.1.toList)) = true then (if (strOfNums bt342.2.2.1).toList = (strOfNums bt349.2.2.1).toList then (threshinglaw01_VarintTakes.j0 k l0 y319 bt322.2.1 (bt342.2.2.2 == bt349.2.2.2)) else (threshinglaw01_VarintTakes.j0 k l0 y319 bt322.2.1 false)) else (threshinglaw01_VarintTakes.j0 k l0 y319 bt322.2.1 false)) else (threshinglaw01_VarintTakes.j0 k l0 y319 bt322.2.1 false)) else (threshinglaw01_VarintTakes.j0 k l0 y319 bt322.2.1 false)) else (threshinglaw01_VarintTakes.j0 k l0 y319 bt322.2.1 false)) else (threshinglaw01_VarintTakes.j0 k l0 y319 bt322.2.1 false)) else (threshinglaw01_VarintTakes.j0 k l0 y319 bt322.2.1 false)) else (threshinglaw01_VarintTakes.j0 k l0 y319 bt322.2.1 false))))))))) else (none)))) = some r := h
  clear h
  by_cases c3 : (l0.length : Int) > 3000
  · rw [if_pos c3] at H
    have c3b0 : decide (3000 < (l0.length : Int)) = true := decide_eq_true c3
    have c3b1 : decide (3000 < l0.length) = true := decide_eq_true (by omega)
    clear c3
    replace H := Option.bind_eq_some_iff.mp H
    obtain ⟨t315, A40, H⟩ := H
    replace H : (some t315) = some r := H
    have A4 := Aside0.mk A40
    clear A40
    obtain rfl := Option.some.inj H
    go_enter Try.func6, Try.ntmps6
    go_wp2_with (first | ((with_reducible refine gate_callee (f := 11) rfl ?_); refine goesL_ (some 29) rfl rfl Try.func11 (by kernel_rfl) rfl #[] rfl (by (try simp only [List.map_toArray, List.map_cons, List.map_nil]); first | done | rfl | (simp only [List.length_drop, List.length_take]; rfl)) ?_; (with_reducible refine (threshinglaw01_alive.calls k  t315 _ A4.out).mono ?_); rintro e w5 ⟨rfl, hb⟩; refine ⟨_, rfl, ?_⟩; have n0_ := Aside0.mk (below_step (by repeat (first | (with_reducible first | exact HB.out | apply below_alloc | apply pw_below_drewN | apply below_drew1) | exact HB.out)) hb); clear HB; have HB := n0_; clear n0_; (try clear hb); (try clear hb2); (try clear hk); (try clear hi)))
    first | go_ret | ((try simp only [Exit.inBlock, Exit.then]); refine bodyPost_ret (v := ?vv_) ?rr_ ?dd_ ?pp_; (case rr_ => exact results_tmp rfl _ _ _); (case dd_ => rfl))
    exact ⟨by first | rfl | (simp [errW_none, errW_some] <;> rfl) | (simp [*, errW_none, errW_some] <;> rfl), by repeat (first | (with_reducible first | exact HB.out | apply below_alloc | apply pw_below_drewN | apply below_drew1) | exact HB.out)⟩
  · rw [if_neg c3] at H
    have c3b0 : decide (3000 < (l0.length : Int)) = false := decide_eq_false c3
    have c3b1 : decide (3000 < l0.length) = false := decide_eq_false (by omega)
    clear c3
    obtain ⟨y316, hy316⟩ : ∃ y_ : List Int, y_ = (([] : List Int)) := ⟨_, rfl⟩
    replace H : (if y316.length + l0.length < 140737488355328 then ((some (y316 ++ l0 : List Int)).bind fun y319 => ((varint_Take.f k y319).bind fun bt322 => ((threshingref01_Take.f k l0).bind fun bt327 => ((varint_TakeFrame.f k y319 a1).bind fun bt332 => ((threshingref01_TakeFrame.f k l0 a1).bind fun bt337 => ((varint_TakePair.f k y319 a1).bind fun bt342 => ((threshingref01_TakePair.f k l0 a1).bind fun bt349 => (if bt322.1 = bt327.1 then (if (strOfNums bt322.2.1).toList = (strOfNums bt327.2.1).toList then (if bt322.2.2 = bt327.2.2 then (if bt332.1.toList = bt337.1.toList then (if (strOfNums bt332.2.1).toList = (strOfNums bt337.2.1).toList then (if bt332.2.2 = bt337.2.2 then (if (bt342.1.toList == bt349.1.toList && (bt342.2.1.toList == bt349.2.1.toList)) = true then (if (strOfNums bt342.2.2.1).toList = (strOfNums bt349.2.2.1).toList then (threshinglaw01_VarintTakes.j0 k l0 y319 bt322.2.1 (bt342.2.2.2 == bt349.2.2.2)) else (threshinglaw01_VarintTakes.j0 k l0 y319 bt322.2.1 false)) else (threshinglaw01_VarintTakes.j0 k l0 y319 bt322.2.1 false)) else (threshinglaw01_VarintTakes.j0 k l0 y319 bt322.2.1 false)) else (threshinglaw01_VarintTakes.j0 k l0 y319 bt322.2.1 false)) else (threshinglaw01_VarintTakes.j0 k l0 y319 bt322.2.1 false)) else (threshinglaw01_VarintTakes.j0 k l0 y319 bt322.2.1 false)) else (threshinglaw01_VarintTakes.j0 k l0 y319 bt322.2.1 false)) else (threshinglaw01_VarintTakes.j0 k l0 y319 bt322.2.1 false))))))))) else (none)) = some r := by first | (rw [hy316]; with_reducible exact H) | (have H2_ := (Option.bind_some _ _).symm.trans H; rw [hy316]; with_reducible exact H2_) | (have H2_ := (Option.bind_some _ _).symm.trans H; with_reducible exact H2_) | with_reducible exact H | (rw [hy316]; exact H) | exact H
    have Ny316 := Aside0.mk hy316
    clear hy316
    by_cases c6 : y316.length + l0.length < 140737488355328
    · rw [if_pos c6] at H
      have LMc6 := Aside0.mk c6
      clear c6
      obtain ⟨y319, hy319⟩ : ∃ y_ : List Int, y_ = (y316 ++ l0) := ⟨_, rfl⟩
      replace H : ((varint_Take.f k y319).bind fun bt322 => ((threshingref01_Take.f k l0).bind fun bt327 => ((varint_TakeFrame.f k y319 a1).bind fun bt332 => ((threshingref01_TakeFrame.f k l0 a1).bind fun bt337 => ((varint_TakePair.f k y319 a1).bind fun bt342 => ((threshingref01_TakePair.f k l0 a1).bind fun bt349 => (if bt322.1 = bt327.1 then (if (strOfNums bt322.2.1).toList = (strOfNums bt327.2.1).toList then (if bt322.2.2 = bt327.2.2 then (if bt332.1.toList = bt337.1.toList then (if (strOfNums bt332.2.1).toList = (strOfNums bt337.2.1).toList then (if bt332.2.2 = bt337.2.2 then (if (bt342.1.toList == bt349.1.toList && (bt342.2.1.toList == bt349.2.1.toList)) = true then (if (strOfNums bt342.2.2.1).toList = (strOfNums bt349.2.2.1).toList then (threshinglaw01_VarintTakes.j0 k l0 y319 bt322.2.1 (bt342.2.2.2 == bt349.2.2.2)) else (threshinglaw01_VarintTakes.j0 k l0 y319 bt322.2.1 false)) else (threshinglaw01_VarintTakes.j0 k l0 y319 bt322.2.1 false)) else (threshinglaw01_VarintTakes.j0 k l0 y319 bt322.2.1 false)) else (threshinglaw01_VarintTakes.j0 k l0 y319 bt322.2.1 false)) else (threshinglaw01_VarintTakes.j0 k l0 y319 bt322.2.1 false)) else (threshinglaw01_VarintTakes.j0 k l0 y319 bt322.2.1 false)) else (threshinglaw01_VarintTakes.j0 k l0 y319 bt322.2.1 false)) else (threshinglaw01_VarintTakes.j0 k l0 y319 bt322.2.1 false)))))))) = some r := by first | (rw [hy319]; with_reducible exact H) | (have H2_ := (Option.bind_some _ _).symm.trans H; rw [hy319]; with_reducible exact H2_) | (have H2_ := (Option.bind_some _ _).symm.trans H; with_reducible exact H2_) | with_reducible exact H | (rw [hy319]; exact H) | exact H
      have Ny319 := Aside0.mk hy319
      clear hy319
      replace H := Option.bind_eq_some_iff.mp H
      obtain ⟨⟨t322, t323, t324⟩, A70, H⟩ := H
      replace H : ((threshingref01_Take.f k l0).bind fun bt327 => ((varint_TakeFrame.f k y319 a1).bind fun bt332 => ((threshingref01_TakeFrame.f k l0 a1).bind fun bt337 => ((varint_TakePair.f k y319 a1).bind fun bt342 => ((threshingref01_TakePair.f k l0 a1).bind fun bt349 => (if t322 = bt327.1 then (if (strOfNums t323).toList = (strOfNums bt327.2.1).toList then (if t324 = bt327.2.2 then (if bt332.1.toList = bt337.1.toList then (if (strOfNums bt332.2.1).toList = (strOfNums bt337.2.1).toList then (if bt332.2.2 = bt337.2.2 then (if (bt342.1.toList == bt349.1.toList && (bt342.2.1.toList == bt349.2.1.toList)) = true then (if (strOfNums bt342.2.2.1).toList = (strOfNums bt349.2.2.1).toList then (threshinglaw01_VarintTakes.j0 k l0 y319 t323 (bt342.2.2.2 == bt349.2.2.2)) else (threshinglaw01_VarintTakes.j0 k l0 y319 t323 false)) else (threshinglaw01_VarintTakes.j0 k l0 y319 t323 false)) else (threshinglaw01_VarintTakes.j0 k l0 y319 t323 false)) else (threshinglaw01_VarintTakes.j0 k l0 y319 t323 false)) else (threshinglaw01_VarintTakes.j0 k l0 y319 t323 false)) else (threshinglaw01_VarintTakes.j0 k l0 y319 t323 false)) else (threshinglaw01_VarintTakes.j0 k l0 y319 t323 false)) else (threshinglaw01_VarintTakes.j0 k l0 y319 t323 false))))))) = some r := H
      have A7 := Aside0.mk A70
      clear A70
      replace H := Option.bind_eq_some_iff.mp H
      obtain ⟨⟨t327, t328, t329⟩, A80, H⟩ := H
      replace H : ((varint_TakeFrame.f k y319 a1).bind fun bt332 => ((threshingref01_TakeFrame.f k l0 a1).bind fun bt337 => ((varint_TakePair.f k y319 a1).bind fun bt342 => ((threshingref01_TakePair.f k l0 a1).bind fun bt349 => (if t322 = t327 then (if (strOfNums t323).toList = (strOfNums t328).toList then (if t324 = t329 then (if bt332.1.toList = bt337.1.toList then (if (strOfNums bt332.2.1).toList = (strOfNums bt337.2.1).toList then (if bt332.2.2 = bt337.2.2 then (if (bt342.1.toList == bt349.1.toList && (bt342.2.1.toList == bt349.2.1.toList)) = true then (if (strOfNums bt342.2.2.1).toList = (strOfNums bt349.2.2.1).toList then (threshinglaw01_VarintTakes.j0 k l0 y319 t323 (bt342.2.2.2 == bt349.2.2.2)) else (threshinglaw01_VarintTakes.j0 k l0 y319 t323 false)) else (threshinglaw01_VarintTakes.j0 k l0 y319 t323 false)) else (threshinglaw01_VarintTakes.j0 k l0 y319 t323 false)) else (threshinglaw01_VarintTakes.j0 k l0 y319 t323 false)) else (threshinglaw01_VarintTakes.j0 k l0 y319 t323 false)) else (threshinglaw01_VarintTakes.j0 k l0 y319 t323 false)) else (threshinglaw01_VarintTakes.j0 k l0 y319 t323 false)) else (threshinglaw01_VarintTakes.j0 k l0 y319 t323 false)))))) = some r := H
      have A8 := Aside0.mk A80
      clear A80
      replace H := Option.bind_eq_some_iff.mp H
      obtain ⟨⟨t332, t333, t334⟩, A90, H⟩ := H
      replace H : ((threshingref01_TakeFrame.f k l0 a1).bind fun bt337 => ((varint_TakePair.f k y319 a1).bind fun bt342 => ((threshingref01_TakePair.f k l0 a1).bind fun bt349 => (if t322 = t327 then (if (strOfNums t323).toList = (strOfNums t328).toList then (if t324 = t329 then (if t332.toList = bt337.1.toList then (if (strOfNums t333).toList = (strOfNums bt337.2.1).toList then (if t334 = bt337.2.2 then (if (bt342.1.toList == bt349.1.toList && (bt342.2.1.toList == bt349.2.1.toList)) = true then (if (strOfNums bt342.2.2.1).toList = (strOfNums bt349.2.2.1).toList then (threshinglaw01_VarintTakes.j0 k l0 y319 t323 (bt342.2.2.2 == bt349.2.2.2)) else (threshinglaw01_VarintTakes.j0 k l0 y319 t323 false)) else (threshinglaw01_VarintTakes.j0 k l0 y319 t323 false)) else (threshinglaw01_VarintTakes.j0 k l0 y319 t323 false)) else (threshinglaw01_VarintTakes.j0 k l0 y319 t323 false)) else (threshinglaw01_VarintTakes.j0 k l0 y319 t323 false)) else (threshinglaw01_VarintTakes.j0 k l0 y319 t323 false)) else (threshinglaw01_VarintTakes.j0 k l0 y319 t323 false)) else (threshinglaw01_VarintTakes.j0 k l0 y319 t323 false))))) = some r := H
      have A9 := Aside0.mk A90
      clear A90
      replace H := Option.bind_eq_some_iff.mp H
      obtain ⟨⟨t337, t338, t339⟩, A100, H⟩ := H
      replace H : ((varint_TakePair.f k y319 a1).bind fun bt342 => ((threshingref01_TakePair.f k l0 a1).bind fun bt349 => (if t322 = t327 then (if (strOfNums t323).toList = (strOfNums t328).toList then (if t324 = t329 then (if t332.toList = t337.toList then (if (strOfNums t333).toList = (strOfNums t338).toList then (if t334 = t339 then (if (bt342.1.toList == bt349.1.toList && (bt342.2.1.toList == bt349.2.1.toList)) = true then (if (strOfNums bt342.2.2.1).toList = (strOfNums bt349.2.2.1).toList then (threshinglaw01_VarintTakes.j0 k l0 y319 t323 (bt342.2.2.2 == bt349.2.2.2)) else (threshinglaw01_VarintTakes.j0 k l0 y319 t323 false)) else (threshinglaw01_VarintTakes.j0 k l0 y319 t323 false)) else (threshinglaw01_VarintTakes.j0 k l0 y319 t323 false)) else (threshinglaw01_VarintTakes.j0 k l0 y319 t323 false)) else (threshinglaw01_VarintTakes.j0 k l0 y319 t323 false)) else (threshinglaw01_VarintTakes.j0 k l0 y319 t323 false)) else (threshinglaw01_VarintTakes.j0 k l0 y319 t323 false)) else (threshinglaw01_VarintTakes.j0 k l0 y319 t323 false)))) = some r := H
      have A10 := Aside0.mk A100
      clear A100
      replace H := Option.bind_eq_some_iff.mp H
      obtain ⟨⟨t342, t343, t344, t347⟩, A110, H⟩ := H
      replace H : ((threshingref01_TakePair.f k l0 a1).bind fun bt349 => (if t322 = t327 then (if (strOfNums t323).toList = (strOfNums t328).toList then (if t324 = t329 then (if t332.toList = t337.toList then (if (strOfNums t333).toList = (strOfNums t338).toList then (if t334 = t339 then (if (t342.toList == bt349.1.toList && (t343.toList == bt349.2.1.toList)) = true then (if (strOfNums t344).toList = (strOfNums bt349.2.2.1).toList then (threshinglaw01_VarintTakes.j0 k l0 y319 t323 (t347 == bt349.2.2.2)) else (threshinglaw01_VarintTakes.j0 k l0 y319 t323 false)) else (threshinglaw01_VarintTakes.j0 k l0 y319 t323 false)) else (threshinglaw01_VarintTakes.j0 k l0 y319 t323 false)) else (threshinglaw01_VarintTakes.j0 k l0 y319 t323 false)) else (threshinglaw01_VarintTakes.j0 k l0 y319 t323 false)) else (threshinglaw01_VarintTakes.j0 k l0 y319 t323 false)) else (threshinglaw01_VarintTakes.j0 k l0 y319 t323 false)) else (threshinglaw01_VarintTakes.j0 k l0 y319 t323 false))) = some r := H
      have A11 := Aside0.mk A110
      clear A110
      replace H := Option.bind_eq_some_iff.mp H
      obtain ⟨⟨t349, t350, t351, t354⟩, A120, H⟩ := H
      replace H : (if t322 = t327 then (if (strOfNums t323).toList = (strOfNums t328).toList then (if t324 = t329 then (if t332.toList = t337.toList then (if (strOfNums t333).toList = (strOfNums t338).toList then (if t334 = t339 then (if (t342.toList == t349.toList && (t343.toList == t350.toList)) = true then (if (strOfNums t344).toList = (strOfNums t351).toList then (threshinglaw01_VarintTakes.j0 k l0 y319 t323 (t347 == t354)) else (threshinglaw01_VarintTakes.j0 k l0 y319 t323 false)) else (threshinglaw01_VarintTakes.j0 k l0 y319 t323 false)) else (threshinglaw01_VarintTakes.j0 k l0 y319 t323 false)) else (threshinglaw01_VarintTakes.j0 k l0 y319 t323 false)) else (threshinglaw01_VarintTakes.j0 k l0 y319 t323 false)) else (threshinglaw01_VarintTakes.j0 k l0 y319 t323 false)) else (threshinglaw01_VarintTakes.j0 k l0 y319 t323 false)) else (threshinglaw01_VarintTakes.j0 k l0 y319 t323 false)) = some r := H
      have A12 := Aside0.mk A120
      clear A120
      have HC13 := Aside0.mk H
      clear H
      go_enter Try.func6, Try.ntmps6
      go_upto_region 10 with (first | ((with_reducible refine gate_dst (N := 30) rfl ?_); refine Kd.R_lit (Kd.int .u8) _ 5 ?hg (N := 30) ?hd (xs := ([] : List Int)) (inner := []) (ok := fun _ => True) (okp := fun _ => True) ?hr ?hp (fun _ hk => hk) trivial (Below.refl _ _) (Nat.le_refl _) (by simp) ?_; (case hd => rfl); (case hg => rfl); (case hr => first | (go_simp; done) | (go_simp; rfl)); (case hp => exact (Reps.none _ _)); intro v317 w14 ho15 hb hg_ hnew_; clear hg_ hnew_; (first | rw [← Ny316.out] at ho15 | (simp only [Int.reduceToNat] at ho15; rw [← Ny316.out] at ho15)); have n0_ := Aside0.mk (Kd.R_lower ho15 (below_size (by repeat (first | (with_reducible first | exact HB.out | apply below_alloc | apply pw_below_drewN | apply below_drew1) | exact HB.out)))); have n1_ := Aside0.mk (below_step (by repeat (first | (with_reducible first | exact HB.out | apply below_alloc | apply pw_below_drewN | apply below_drew1) | exact HB.out)) hb); clear HB; have HO318 := n0_; have HB := n1_; clear n0_ n1_; clear hb ho15) | ((with_reducible refine gate_builtin (b := .append) (xs := #[.tmp 30, .tmp 31]) rfl ?_); at_builtin; refine Kd.R_append_rows (Kd.int .u8) (w0 := w) w.heap.size rfl (.tmp 30) (.tmp 31) 24 5 (.int .u8 0) 1 rfl Try.underlying24 info5 rfl (by decide) (by omega) v317 y316 l0 _ _ _ (fun _ => True) (fun _ => False) rfl rfl ?aO ?aR (fun _ _ h => h) (fun _ h => h.elim) ?aF ?aB ?aS ?aL ?_; (case aR => repeat (first | exact (Kd.C_below HR0.out HB.out) | (with_reducible refine Kd.C_alloc ?_ _) | (with_reducible refine Kd.C_drewN ?_ _) | (with_reducible refine Kd.C_drew ?_))); (case aB => exact (by repeat (first | (with_reducible first | exact HB.out | apply below_alloc | apply pw_below_drewN | apply below_drew1) | exact HB.out))); (case aF => exact (fun _ _ => trivial)); (case aO => exact (by (with_reducible repeat (first | apply Kd.R_alloc | apply Kd.R_drewN | apply Kd.R_drew)); exact HO318.out)); (case aS => exact (below_size (by repeat (first | (with_reducible first | exact HB.out | apply below_alloc | apply pw_below_drewN | apply below_drew1) | exact HB.out)))); (case aL => have := LMc6.out; omega); intro v320 w16 ho hb hg hat; rw [← Ny319.out] at ho; have n0_ := Aside0.mk (hb); have n1_ := Aside0.mk (ho); clear HB; clear HO318; have HB := n0_; have HO321 := n1_; clear n0_ n1_; clear ho hb hg hat; obtain ⟨Ao17, co17, eo17⟩ := Kd.R_slice HO321.out; subst eo17) | ((with_reducible refine gate_callee (f := 21) rfl ?_); refine goesL_ (some 35) rfl rfl Try.func21 (by kernel_rfl) rfl #[.slice Ao17 y319.length co17] rfl (by (try simp only [List.map_toArray, List.map_cons, List.map_nil]); first | done | rfl | (simp only [List.length_drop, List.length_take]; rfl)) ?_; (with_reducible refine (varint_Take.calls k _ _ y319 t322 t323 t324 _ ?side1 ?side2 A7.out).mono ?_); (case side1 => repeat (first | exact (Kd.R_reads' HO321.out).2.2 | (with_reducible refine Kd.C_alloc ?_ _) | (with_reducible refine Kd.C_drewN ?_ _) | (with_reducible refine Kd.C_drew ?_))); (case side2 => exact (Kd.R_reads' HO321.out).2.1); rintro e w18 ⟨v325, rfl, ho0, hb⟩; refine ⟨_, rfl, ?_⟩; have n0_ := Aside0.mk (Kd.R_elder' (by (with_reducible repeat (first | apply Kd.R_alloc | apply Kd.R_drewN | apply Kd.R_drew)); exact HO321.out) (Kd.R_base ho0) hb); have n1_ := Aside0.mk (Kd.R_lower (Kd.R_new' ho0 (Kd.R_lt (by (with_reducible repeat (first | apply Kd.R_alloc | apply Kd.R_drewN | apply Kd.R_drew)); exact HO321.out))) (below_size (by repeat (first | (with_reducible first | exact HB.out | apply below_alloc | apply pw_below_drewN | apply below_drew1) | exact HB.out)))); have n2_ := Aside0.mk (below_step (by repeat (first | (with_reducible first | exact HB.out | apply below_alloc | apply pw_below_drewN | apply below_drew1) | exact HB.out)) hb); clear HO321; clear HB; have HO321 := n0_; have HO326 := n1_; have HB := n2_; clear n0_ n1_ n2_; (try clear hb); (try clear hb2); (try clear hk); (try clear hi); (try clear ho0)) | ((with_reducible refine gate_callee (f := 22) rfl ?_); refine goesL_ (some 41) rfl rfl Try.func22 (by kernel_rfl) rfl #[.slice A0 l0.length c0] rfl (by (try simp only [List.map_toArray, List.map_cons, List.map_nil]); first | done | rfl | (simp only [List.length_drop, List.length_take]; rfl)) ?_; (with_reducible refine (threshingref01_Take.calls k _ _ l0 t327 t328 t329 _ ?side1 ?side2 A8.out).mono ?_); (case side1 => repeat (first | exact (Kd.C_below HR0.out HB.out) | (with_reducible refine Kd.C_alloc ?_ _) | (with_reducible refine Kd.C_drewN ?_ _) | (with_reducible refine Kd.C_drew ?_))); (case side2 => exact HC0.out); rintro e w19 ⟨v330, rfl, ho0, hb⟩; refine ⟨_, rfl, ?_⟩; have n0_ := Aside0.mk (Kd.R_elder' (by (with_reducible repeat (first | apply Kd.R_alloc | apply Kd.R_drewN | apply Kd.R_drew)); exact HO321.out) (Kd.R_base ho0) hb); have n1_ := Aside0.mk (Kd.R_elder' (by (with_reducible repeat (first | apply Kd.R_alloc | apply Kd.R_drewN | apply Kd.R_drew)); exact HO326.out) (Kd.R_base ho0) hb); have n2_ := Aside0.mk (Kd.R_lower (Kd.R_new' (Kd.R_new' ho0 (Kd.R_lt (by (with_reducible repeat (first | apply Kd.R_alloc | apply Kd.R_drewN | apply Kd.R_drew)); exact HO321.out))) (Kd.R_lt (by (with_reducible repeat (first | apply Kd.R_alloc | apply Kd.R_drewN | apply Kd.R_drew)); exact HO326.out))) (below_size (by repeat (first | (with_reducible first | exact HB.out | apply below_alloc | apply pw_below_drewN | apply below_drew1) | exact HB.out)))); have n3_ := Aside0.mk (below_step (by repeat (first | (with_reducible first | exact HB.out | apply below_alloc | apply pw_below_drewN | apply below_drew1) | exact HB.out)) hb); clear HO321; clear HO326; clear HB; have HO321 := n0_; have HO326 := n1_; have HO331 := n2_; have HB := n3_; clear n0_ n1_ n2_ n3_; (try clear hb); (try clear hb2); (try clear hk); (try clear hi); (try clear ho0)) | ((with_reducible refine gate_callee (f := 23) rfl ?_); refine goesL_ (some 48) rfl rfl Try.func23 (by kernel_rfl) rfl #[.slice Ao17 y319.length co17, .int .i64 a1] rfl (by (try simp only [List.map_toArray, List.map_cons, List.map_nil]); first | done | rfl | (simp only [List.length_drop, List.length_take]; rfl)) ?_; (with_reducible refine (varint_TakeFrame.calls k _ _ y319 a1 t332 t333 t334 _ ?side1 ?side2 A9.out).mono ?_); (case side1 => repeat (first | exact (Kd.R_reads' HO321.out).2.2 | (with_reducible refine Kd.C_alloc ?_ _) | (with_reducible refine Kd.C_drewN ?_ _) | (with_reducible refine Kd.C_drew ?_))); (case side2 => exact (Kd.R_reads' HO321.out).2.1); rintro e w20 ⟨v335, rfl, ho0, hb⟩; refine ⟨_, rfl, ?_⟩; have n0_ := Aside0.mk (Kd.R_elder' (by (with_reducible repeat (first | apply Kd.R_alloc | apply Kd.R_drewN | apply Kd.R_drew)); exact HO321.out) (Kd.Q_base ho0) hb); have n1_ := Aside0.mk (Kd.R_elder' (by (with_reducible repeat (first | apply Kd.R_alloc | apply Kd.R_drewN | apply Kd.R_drew)); exact HO326.out) (Kd.Q_base ho0) hb); have n2_ := Aside0.mk (Kd.R_elder' (by (with_reducible repeat (first | apply Kd.R_alloc | apply Kd.R_drewN | apply Kd.R_drew)); exact HO331.out) (Kd.Q_base ho0) hb); have n3_ := Aside0.mk (Kd.Q_lower (Kd.Q_new' (Kd.Q_new' (Kd.Q_new' ho0 (Kd.R_lt (by (with_reducible repeat (first | apply Kd.R_alloc | apply Kd.R_drewN | apply Kd.R_drew)); exact HO321.out))) (Kd.R_lt (by (with_reducible repeat (first | apply Kd.R_alloc | apply Kd.R_drewN | apply Kd.R_drew)); exact HO326.out))) (Kd.R_lt (by (with_reducible repeat (first | apply Kd.R_alloc | apply Kd.R_drewN | apply Kd.R_drew)); exact HO331.out))) (below_size (by repeat (first | (with_reducible first | exact HB.out | apply below_alloc | apply pw_below_drewN | apply below_drew1) | exact HB.out)))); have n4_ := Aside0.mk (below_step (by repeat (first | (with_reducible first | exact HB.out | apply below_alloc | apply pw_below_drewN | apply below_drew1) | exact HB.out)) hb); clear HO321; clear HO326; clear HO331; clear HB; have HO321 := n0_; have HO326 := n1_; have HO331 := n2_; have HO336 := n3_; have HB := n4_; clear n0_ n1_ n2_ n3_ n4_; (try clear hb); (try clear hb2); (try clear hk); (try clear hi); (try clear ho0)) | ((with_reducible refine gate_callee (f := 24) rfl ?_); refine goesL_ (some 55) rfl rfl Try.func24 (by kernel_rfl) rfl #[.slice A0 l0.length c0, .int .i64 a1] rfl (by (try simp only [List.map_toArray, List.map_cons, List.map_nil]); first | done | rfl | (simp only [List.length_drop, List.length_take]; rfl)) ?_; (with_reducible refine (threshingref01_TakeFrame.calls k _ _ l0 a1 t337 t338 t339 _ ?side1 ?side2 A10.out).mono ?_); (case side1 => repeat (first | exact (Kd.C_below HR0.out HB.out) | (with_reducible refine Kd.C_alloc ?_ _) | (with_reducible refine Kd.C_drewN ?_ _) | (with_reducible refine Kd.C_drew ?_))); (case side2 => exact HC0.out); rintro e w21 ⟨v340, rfl, ho0, hb⟩; refine ⟨_, rfl, ?_⟩; have n0_ := Aside0.mk (Kd.R_elder' (by (with_reducible repeat (first | apply Kd.R_alloc | apply Kd.R_drewN | apply Kd.R_drew)); exact HO321.out) (Kd.R_base ho0) hb); have n1_ := Aside0.mk (Kd.R_elder' (by (with_reducible repeat (first | apply Kd.R_alloc | apply Kd.R_drewN | apply Kd.R_drew)); exact HO326.out) (Kd.R_base ho0) hb); have n2_ := Aside0.mk (Kd.R_elder' (by (with_reducible repeat (first | apply Kd.R_alloc | apply Kd.R_drewN | apply Kd.R_drew)); exact HO331.out) (Kd.R_base ho0) hb); have n3_ := Aside0.mk (Kd.Q_elder' (by (with_reducible repeat (first | apply Kd.Q_alloc | apply Kd.Q_drewN | apply Kd.Q_drew)); exact HO336.out) (Kd.R_base ho0) hb); have n4_ := Aside0.mk (Kd.R_lower (Kd.R_new' (Kd.R_new' (Kd.R_new' (Kd.R_new' ho0 (Kd.R_lt (by (with_reducible repeat (first | apply Kd.R_alloc | apply Kd.R_drewN | apply Kd.R_drew)); exact HO321.out))) (Kd.R_lt (by (with_reducible repeat (first | apply Kd.R_alloc | apply Kd.R_drewN | apply Kd.R_drew)); exact HO326.out))) (Kd.R_lt (by (with_reducible repeat (first | apply Kd.R_alloc | apply Kd.R_drewN | apply Kd.R_drew)); exact HO331.out))) (Kd.Q_lt (by (with_reducible repeat (first | apply Kd.Q_alloc | apply Kd.Q_drewN | apply Kd.Q_drew)); exact HO336.out))) (below_size (by repeat (first | (with_reducible first | exact HB.out | apply below_alloc | apply pw_below_drewN | apply below_drew1) | exact HB.out)))); have n5_ := Aside0.mk (below_step (by repeat (first | (with_reducible first | exact HB.out | apply below_alloc | apply pw_below_drewN | apply below_drew1) | exact HB.out)) hb); clear HO321; clear HO326; clear HO331; clear HO336; clear HB; have HO321 := n0_; have HO326 := n1_; have HO331 := n2_; have HO336 := n3_; have HO341 := n4_; have HB := n5_; clear n0_ n1_ n2_ n3_ n4_ n5_; (try clear hb); (try clear hb2); (try clear hk); (try clear hi); (try clear ho0)) | ((with_reducible refine gate_callee (f := 25) rfl ?_); refine goesL_ (some 62) rfl rfl Try.func25 (by kernel_rfl) rfl #[.slice Ao17 y319.length co17, .int .i64 a1] rfl (by (try simp only [List.map_toArray, List.map_cons, List.map_nil]); first | done | rfl | (simp only [List.length_drop, List.length_take]; rfl)) ?_; (with_reducible refine (varint_TakePair.calls k _ _ y319 a1 t342 t343 t344 t347 _ ?side1 ?side2 A11.out).mono ?_); (case side1 => repeat (first | exact (Kd.R_reads' HO321.out).2.2 | (with_reducible refine Kd.C_alloc ?_ _) | (with_reducible refine Kd.C_drewN ?_ _) | (with_reducible refine Kd.C_drew ?_))); (case side2 => exact (Kd.R_reads' HO321.out).2.1); rintro e w22 ⟨v345, rfl, ho0, hb⟩; refine ⟨_, rfl, ?_⟩; have n0_ := Aside0.mk (Kd.R_elder' (by (with_reducible repeat (first | apply Kd.R_alloc | apply Kd.R_drewN | apply Kd.R_drew)); exact HO321.out) (Kd.Q_base ho0) hb); have n1_ := Aside0.mk (Kd.R_elder' (by (with_reducible repeat (first | apply Kd.R_alloc | apply Kd.R_drewN | apply Kd.R_drew)); exact HO326.out) (Kd.Q_base ho0) hb); have n2_ := Aside0.mk (Kd.R_elder' (by (with_reducible repeat (first | apply Kd.R_alloc | apply Kd.R_drewN | apply Kd.R_drew)); exact HO331.out) (Kd.Q_base ho0) hb); have n3_ := Aside0.mk (Kd.Q_elder' (by (with_reducible repeat (first | apply Kd.Q_alloc | apply Kd.Q_drewN | apply Kd.Q_drew)); exact HO336.out) (Kd.Q_base ho0) hb); have n4_ := Aside0.mk (Kd.R_elder' (by (with_reducible repeat (first | apply Kd.R_alloc | apply Kd.R_drewN | apply Kd.R_drew)); exact HO341.out) (Kd.Q_base ho0) hb); have n5_ := Aside0.mk (Kd.Q_lower (Kd.Q_new' (Kd.Q_new' (Kd.Q_new' (Kd.Q_new' (Kd.Q_new' ho0 (Kd.R_lt (by (with_reducible repeat (first | apply Kd.R_alloc | apply Kd.R_drewN | apply Kd.R_drew)); exact HO321.out))) (Kd.R_lt (by (with_reducible repeat (first | apply Kd.R_alloc | apply Kd.R_drewN | apply Kd.R_drew)); exact HO326.out))) (Kd.R_lt (by (with_reducible repeat (first | apply Kd.R_alloc | apply Kd.R_drewN | apply Kd.R_drew)); exact HO331.out))) (Kd.Q_lt (by (with_reducible repeat (first | apply Kd.Q_alloc | apply Kd.Q_drewN | apply Kd.Q_drew)); exact HO336.out))) (Kd.R_lt (by (with_reducible repeat (first | apply Kd.R_alloc | apply Kd.R_drewN | apply Kd.R_drew)); exact HO341.out))) (below_size (by repeat (first | (with_reducible first | exact HB.out | apply below_alloc | apply pw_below_drewN | apply below_drew1) | exact HB.out)))); have n6_ := Aside0.mk (below_step (by repeat (first | (with_reducible first | exact HB.out | apply below_alloc | apply pw_below_drewN | apply below_drew1) | exact HB.out)) hb); clear HO321; clear HO326; clear HO331; clear HO336; clear HO341; clear HB; have HO321 := n0_; have HO326 := n1_; have HO331 := n2_; have HO336 := n3_; have HO341 := n4_; have HO346 := n5_; have HB := n6_; clear n0_ n1_ n2_ n3_ n4_ n5_ n6_; (try clear hb); (try clear hb2); (try clear hk); (try clear hi); (try clear ho0)) | ((with_reducible refine gate_dst (N := 18) rfl ?_); refine box_event ?hg (N := 18) ?hd (cs := #[.string (⟨#[]⟩ : ByteArray), .string (⟨#[]⟩ : ByteArray)]) (t := 31) ?hr ?_; (case hd => rfl); (case hg => rfl); (case hr => first | (go_simp; done) | (go_simp; rfl)); intro gb348 hg w23 hbox hb; have n0_ := Aside0.mk (Kd.R_below (by (with_reducible repeat (first | apply Kd.R_alloc | apply Kd.R_drewN | apply Kd.R_drew)); exact HO321.out) hb); have n1_ := Aside0.mk (Kd.R_below (by (with_reducible repeat (first | apply Kd.R_alloc | apply Kd.R_drewN | apply Kd.R_drew)); exact HO326.out) hb); have n2_ := Aside0.mk (Kd.R_below (by (with_reducible repeat (first | apply Kd.R_alloc | apply Kd.R_drewN | apply Kd.R_drew)); exact HO331.out) hb); have n3_ := Aside0.mk (Kd.Q_below (by (with_reducible repeat (first | apply Kd.Q_alloc | apply Kd.Q_drewN | apply Kd.Q_drew)); exact HO336.out) hb); have n4_ := Aside0.mk (Kd.R_below (by (with_reducible repeat (first | apply Kd.R_alloc | apply Kd.R_drewN | apply Kd.R_drew)); exact HO341.out) hb); have n5_ := Aside0.mk (Kd.Q_below (by (with_reducible repeat (first | apply Kd.Q_alloc | apply Kd.Q_drewN | apply Kd.Q_drew)); exact HO346.out) hb); have n6_ := Aside0.mk (below_step (by repeat (first | (with_reducible first | exact HB.out | apply below_alloc | apply pw_below_drewN | apply below_drew1) | exact HB.out)) hb); have n7_ := Aside0.mk (hbox); have n8_ := Aside0.mk ((by rw [hg]; exact (below_size (by repeat (first | (with_reducible first | exact HB.out | apply below_alloc | apply pw_below_drewN | apply below_drew1) | exact HB.out))) : w.heap.size ≤ gb348)); have n9_ := Aside0.mk ((by rw [hg]; exact (below_size (by repeat (first | (with_reducible first | exact HB.out | apply below_alloc | apply pw_below_drewN | apply below_drew1) | exact HB.out))) : w.heap.size ≤ gb348)); clear HO321; clear HO326; clear HO331; clear HO336; clear HO341; clear HO346; clear HB; have HO321 := n0_; have HO326 := n1_; have HO331 := n2_; have HO336 := n3_; have HO341 := n4_; have HO346 := n5_; have HB := n6_; have BK348 := n7_; have GW348 := n8_; have GE348 := n9_; clear n0_ n1_ n2_ n3_ n4_ n5_ n6_ n7_ n8_ n9_; clear hb hbox hg; have hcz24_0 : w23.cell? ⟨gb348, 0, none⟩ = some (.string (⟨#[]⟩ : ByteArray)) := (blk_cell BK348.out 0).trans rfl; have hcz24_1 : w23.cell? ⟨gb348, 1, none⟩ = some (.string (⟨#[]⟩ : ByteArray)) := (blk_cell BK348.out 1).trans rfl; have hfz24_0 := blk_frozen BK348.out 0; have hfz24_1 := blk_frozen BK348.out 1) | ((with_reducible refine gate_callee (f := 26) rfl ?_); refine goesL_ (some 69) rfl rfl Try.func26 (by kernel_rfl) rfl #[.slice A0 l0.length c0, .int .i64 a1] rfl (by (try simp only [List.map_toArray, List.map_cons, List.map_nil]); first | done | rfl | (simp only [List.length_drop, List.length_take]; rfl)) ?_; (with_reducible refine (threshingref01_TakePair.calls k _ _ l0 a1 t349 t350 t351 t354 _ ?side1 ?side2 A12.out).mono ?_); (case side1 => exact Kd.C_below HR0.out (by repeat (first | (with_reducible first | exact HB.out | apply below_alloc | apply pw_below_drewN | apply below_drew1 | refine below_set ?_ GE348.out) | exact HB.out))); (case side2 => exact HC0.out); rintro e w25 ⟨v352, rfl, ho0, hb⟩; refine ⟨_, rfl, ?_⟩; have n0_ := Aside0.mk (Kd.R_elder' (by (with_reducible repeat (first | apply Kd.R_alloc | apply Kd.R_drewN | apply Kd.R_drew)); exact (Kd.R_mono (Kd.R_far (p := ⟨gb348, 1, none⟩) (Kd.R_far (p := ⟨gb348, 0, none⟩) (Kd.R_types HO321.out BK348.out (by decide)) (fun _ hk => hk.2) (.string t342)) (fun _ hk => hk.2) (.string t343)) (fun _ h_ => h_.1))) (Kd.R_base ho0) hb); have n1_ := Aside0.mk (Kd.R_elder' (by (with_reducible repeat (first | apply Kd.R_alloc | apply Kd.R_drewN | apply Kd.R_drew)); exact (Kd.R_mono (Kd.R_far (p := ⟨gb348, 1, none⟩) (Kd.R_far (p := ⟨gb348, 0, none⟩) (Kd.R_types HO326.out BK348.out (by decide)) (fun _ hk => hk.2) (.string t342)) (fun _ hk => hk.2) (.string t343)) (fun _ h_ => h_.1))) (Kd.R_base ho0) hb); have n2_ := Aside0.mk (Kd.R_elder' (by (with_reducible repeat (first | apply Kd.R_alloc | apply Kd.R_drewN | apply Kd.R_drew)); exact (Kd.R_mono (Kd.R_far (p := ⟨gb348, 1, none⟩) (Kd.R_far (p := ⟨gb348, 0, none⟩) (Kd.R_types HO331.out BK348.out (by decide)) (fun _ hk => hk.2) (.string t342)) (fun _ hk => hk.2) (.string t343)) (fun _ h_ => h_.1))) (Kd.R_base ho0) hb); have n3_ := Aside0.mk (Kd.Q_elder' (by (with_reducible repeat (first | apply Kd.Q_alloc | apply Kd.Q_drewN | apply Kd.Q_drew)); exact (Kd.Q_mono (Kd.Q_far (p := ⟨gb348, 1, none⟩) (Kd.Q_far (p := ⟨gb348, 0, none⟩) (Kd.Q_types HO336.out BK348.out (by decide)) (fun _ hk => hk.2) (.string t342)) (fun _ hk => hk.2) (.string t343)) (fun _ h_ => h_.1))) (Kd.R_base ho0) hb); have n4_ := Aside0.mk (Kd.R_elder' (by (with_reducible repeat (first | apply Kd.R_alloc | apply Kd.R_drewN | apply Kd.R_drew)); exact (Kd.R_mono (Kd.R_far (p := ⟨gb348, 1, none⟩) (Kd.R_far (p := ⟨gb348, 0, none⟩) (Kd.R_types HO341.out BK348.out (by decide)) (fun _ hk => hk.2) (.string t342)) (fun _ hk => hk.2) (.string t343)) (fun _ h_ => h_.1))) (Kd.R_base ho0) hb); have n5_ := Aside0.mk (Kd.Q_elder' (by (with_reducible repeat (first | apply Kd.Q_alloc | apply Kd.Q_drewN | apply Kd.Q_drew)); exact (Kd.Q_mono (Kd.Q_far (p := ⟨gb348, 1, none⟩) (Kd.Q_far (p := ⟨gb348, 0, none⟩) (Kd.Q_types HO346.out BK348.out (by decide)) (fun _ hk => hk.2) (.string t342)) (fun _ hk => hk.2) (.string t343)) (fun _ h_ => h_.1))) (Kd.R_base ho0) hb); have n6_ := Aside0.mk (Kd.R_lower (Kd.R_new' (Kd.R_new' (Kd.R_new' (Kd.R_new' (Kd.R_new' (Kd.R_new' ho0 (Kd.R_lt (by (with_reducible repeat (first | apply Kd.R_alloc | apply Kd.R_drewN | apply Kd.R_drew)); exact (Kd.R_mono (Kd.R_far (p := ⟨gb348, 1, none⟩) (Kd.R_far (p := ⟨gb348, 0, none⟩) (Kd.R_types HO321.out BK348.out (by decide)) (fun _ hk => hk.2) (.string t342)) (fun _ hk => hk.2) (.string t343)) (fun _ h_ => h_.1))))) (Kd.R_lt (by (with_reducible repeat (first | apply Kd.R_alloc | apply Kd.R_drewN | apply Kd.R_drew)); exact (Kd.R_mono (Kd.R_far (p := ⟨gb348, 1, none⟩) (Kd.R_far (p := ⟨gb348, 0, none⟩) (Kd.R_types HO326.out BK348.out (by decide)) (fun _ hk => hk.2) (.string t342)) (fun _ hk => hk.2) (.string t343)) (fun _ h_ => h_.1))))) (Kd.R_lt (by (with_reducible repeat (first | apply Kd.R_alloc | apply Kd.R_drewN | apply Kd.R_drew)); exact (Kd.R_mono (Kd.R_far (p := ⟨gb348, 1, none⟩) (Kd.R_far (p := ⟨gb348, 0, none⟩) (Kd.R_types HO331.out BK348.out (by decide)) (fun _ hk => hk.2) (.string t342)) (fun _ hk => hk.2) (.string t343)) (fun _ h_ => h_.1))))) (Kd.Q_lt (by (with_reducible repeat (first | apply Kd.Q_alloc | apply Kd.Q_drewN | apply Kd.Q_drew)); exact (Kd.Q_mono (Kd.Q_far (p := ⟨gb348, 1, none⟩) (Kd.Q_far (p := ⟨gb348, 0, none⟩) (Kd.Q_types HO336.out BK348.out (by decide)) (fun _ hk => hk.2) (.string t342)) (fun _ hk => hk.2) (.string t343)) (fun _ h_ => h_.1))))) (Kd.R_lt (by (with_reducible repeat (first | apply Kd.R_alloc | apply Kd.R_drewN | apply Kd.R_drew)); exact (Kd.R_mono (Kd.R_far (p := ⟨gb348, 1, none⟩) (Kd.R_far (p := ⟨gb348, 0, none⟩) (Kd.R_types HO341.out BK348.out (by decide)) (fun _ hk => hk.2) (.string t342)) (fun _ hk => hk.2) (.string t343)) (fun _ h_ => h_.1))))) (Kd.Q_lt (by (with_reducible repeat (first | apply Kd.Q_alloc | apply Kd.Q_drewN | apply Kd.Q_drew)); exact (Kd.Q_mono (Kd.Q_far (p := ⟨gb348, 1, none⟩) (Kd.Q_far (p := ⟨gb348, 0, none⟩) (Kd.Q_types HO346.out BK348.out (by decide)) (fun _ hk => hk.2) (.string t342)) (fun _ hk => hk.2) (.string t343)) (fun _ h_ => h_.1))))) (below_size (by repeat (first | (with_reducible first | exact HB.out | apply below_alloc | apply pw_below_drewN | apply below_drew1 | refine below_set ?_ GE348.out) | exact HB.out)))); have n7_ := Aside0.mk (blk_below (g := gb348) (o := .cells #[.string t342, .string t343] 31 (0, 0)) (by (with_reducible repeat (first | refine blk_drewN ?_ _ | refine blk_drew ?_ | refine blk_alloc ?_ _)); refine blk_put (cs := #[.string t342, .string (⟨#[]⟩ : ByteArray)]) ?_ 1 _ rfl; (with_reducible repeat (first | refine blk_drewN ?_ _ | refine blk_drew ?_ | refine blk_alloc ?_ _)); refine blk_put (cs := #[.string (⟨#[]⟩ : ByteArray), .string (⟨#[]⟩ : ByteArray)]) ?_ 0 _ rfl; (with_reducible repeat (first | refine blk_drewN ?_ _ | refine blk_drew ?_ | refine blk_alloc ?_ _)); exact BK348.out) hb); have n8_ := Aside0.mk (below_step (by repeat (first | (with_reducible first | exact HB.out | apply below_alloc | apply pw_below_drewN | apply below_drew1 | refine below_set ?_ GE348.out) | exact HB.out)) hb); clear HO321; clear HO326; clear HO331; clear HO336; clear HO341; clear HO346; clear BK348; clear HB; have HO321 := n0_; have HO326 := n1_; have HO331 := n2_; have HO336 := n3_; have HO341 := n4_; have HO346 := n5_; have HO353 := n6_; have BK348 := n7_; have HB := n8_; clear n0_ n1_ n2_ n3_ n4_ n5_ n6_ n7_ n8_; (try clear hb); (try clear hb2); (try clear hk); (try clear hi); (try clear ho0)) | ((with_reducible refine gate_dst (N := 21) rfl ?_); refine box_event ?hg (N := 21) ?hd (cs := #[.string (⟨#[]⟩ : ByteArray), .string (⟨#[]⟩ : ByteArray)]) (t := 31) ?hr ?_; (case hd => rfl); (case hg => rfl); (case hr => first | (go_simp; done) | (go_simp; rfl)); intro gb355 hg w26 hbox hb; have n0_ := Aside0.mk (Kd.R_below (by (with_reducible repeat (first | apply Kd.R_alloc | apply Kd.R_drewN | apply Kd.R_drew)); exact HO321.out) hb); have n1_ := Aside0.mk (Kd.R_below (by (with_reducible repeat (first | apply Kd.R_alloc | apply Kd.R_drewN | apply Kd.R_drew)); exact HO326.out) hb); have n2_ := Aside0.mk (Kd.R_below (by (with_reducible repeat (first | apply Kd.R_alloc | apply Kd.R_drewN | apply Kd.R_drew)); exact HO331.out) hb); have n3_ := Aside0.mk (Kd.Q_below (by (with_reducible repeat (first | apply Kd.Q_alloc | apply Kd.Q_drewN | apply Kd.Q_drew)); exact HO336.out) hb); have n4_ := Aside0.mk (Kd.R_below (by (with_reducible repeat (first | apply Kd.R_alloc | apply Kd.R_drewN | apply Kd.R_drew)); exact HO341.out) hb); have n5_ := Aside0.mk (Kd.Q_below (by (with_reducible repeat (first | apply Kd.Q_alloc | apply Kd.Q_drewN | apply Kd.Q_drew)); exact HO346.out) hb); have n6_ := Aside0.mk (Kd.R_below (by (with_reducible repeat (first | apply Kd.R_alloc | apply Kd.R_drewN | apply Kd.R_drew)); exact HO353.out) hb); have n7_ := Aside0.mk (blk_below (g := gb348) (o := .cells #[.string t342, .string t343] 31 (0, 0)) (by (with_reducible repeat (first | refine blk_drewN ?_ _ | refine blk_drew ?_ | refine blk_alloc ?_ _)); exact BK348.out) hb); have n8_ := Aside0.mk (below_step (by repeat (first | (with_reducible first | exact HB.out | apply below_alloc | apply pw_below_drewN | apply below_drew1 | refine below_set ?_ GE348.out) | exact HB.out)) hb); have n9_ := Aside0.mk (hbox); have n10_ := Aside0.mk ((by rw [hg]; exact (below_size (by repeat (first | (with_reducible first | exact HB.out | apply below_alloc | apply pw_below_drewN | apply below_drew1 | refine below_set ?_ GE348.out) | exact HB.out))) : w.heap.size ≤ gb355)); have n11_ := Aside0.mk ((by rw [hg]; exact (below_size (by repeat (first | (with_reducible first | exact HB.out | apply below_alloc | apply pw_below_drewN | apply below_drew1 | refine below_set ?_ GE348.out) | exact HB.out))) : w.heap.size ≤ gb355)); have n12_ := Aside0.mk ((by rw [hg]; exact Nat.ne_of_lt (blk_lt (g := gb348) (o := .cells #[.string t342, .string t343] 31 (0, 0)) (by (with_reducible repeat (first | refine blk_drewN ?_ _ | refine blk_drew ?_ | refine blk_alloc ?_ _)); exact BK348.out)) : gb348 ≠ gb355)); have n13_ := Aside0.mk ((by rw [hg]; exact Nat.ne_of_gt (blk_lt (g := gb348) (o := .cells #[.string t342, .string t343] 31 (0, 0)) (by (with_reducible repeat (first | refine blk_drewN ?_ _ | refine blk_drew ?_ | refine blk_alloc ?_ _)); exact BK348.out)) : gb355 ≠ gb348)); clear HO321; clear HO326; clear HO331; clear HO336; clear HO341; clear HO346; clear HO353; clear BK348; clear HB; have HO321 := n0_; have HO326 := n1_; have HO331 := n2_; have HO336 := n3_; have HO341 := n4_; have HO346 := n5_; have HO353 := n6_; have BK348 := n7_; have HB := n8_; have BK355 := n9_; have GW355 := n10_; have GE355 := n11_; have NB348_355 := n12_; have NB355_348 := n13_; clear n0_ n1_ n2_ n3_ n4_ n5_ n6_ n7_ n8_ n9_ n10_ n11_ n12_ n13_; clear hb hbox hg; have hnb27 := NB355_348.out; have hnc27 := NB348_355.out; have hcz28_0 : w26.cell? ⟨gb355, 0, none⟩ = some (.string (⟨#[]⟩ : ByteArray)) := (blk_cell BK355.out 0).trans rfl; have hcz28_1 : w26.cell? ⟨gb355, 1, none⟩ = some (.string (⟨#[]⟩ : ByteArray)) := (blk_cell BK355.out 1).trans rfl; have hfz28_0 := blk_frozen BK355.out 0; have hfz28_1 := blk_frozen BK355.out 1) | ((with_reducible refine gate_store (t := 31) (p := 21) rfl ?_); refine store_event (t := 31) (p := 21) (v := ?vo_w29) (w1 := ((w26.setCell ⟨gb355, 0, none⟩ (.string t349)).setCell ⟨gb355, 1, none⟩ (.string t350))) ?hg ?ho ?hn ?hr ?_; (case ho => rfl); (case hg => rfl); (case hn => rfl); (case hr => first | (go_simp; done) | (go_simp; rfl)); intro w29 hw; have n0_ : Aside0 (Kd.R (Kd.int .u8) 5 w29 w.heap.size (fun k_ => some k_ ≠ (v325 : Value).ownBlock ∧ some k_ ≠ (v330 : Value).ownBlock ∧ some k_ ≠ (v335 : Value).ownBlock ∧ some k_ ≠ (v340 : Value).ownBlock ∧ some k_ ≠ (v345 : Value).ownBlock ∧ some k_ ≠ (v352 : Value).ownBlock) (.slice Ao17 y319.length co17) y319) := ⟨(by rw [hw]; exact (by (with_reducible repeat (first | apply Kd.R_alloc | apply Kd.R_drewN | apply Kd.R_drew)); exact Kd.R_mono (Kd.R_far (p := ⟨gb355, 1, none⟩) (Kd.R_far (p := ⟨gb355, 0, none⟩) (Kd.R_types HO321.out BK355.out (by decide)) (fun _ hk => hk.2) (.string t349)) (fun _ hk => hk.2) (.string t350)) (fun _ hk => ⟨hk.1.1.1.1.1.1.2, ⟨hk.1.1.1.1.1.2, ⟨hk.1.1.1.1.2, ⟨hk.1.1.1.2, ⟨hk.1.1.2, hk.1.2⟩⟩⟩⟩⟩)))⟩; have n1_ : Aside0 (Kd.R (Kd.int .u8) 5 w29 w.heap.size (fun k_ => some k_ ≠ (.slice Ao17 y319.length co17 : Value).ownBlock ∧ some k_ ≠ (v330 : Value).ownBlock ∧ some k_ ≠ (v335 : Value).ownBlock ∧ some k_ ≠ (v340 : Value).ownBlock ∧ some k_ ≠ (v345 : Value).ownBlock ∧ some k_ ≠ (v352 : Value).ownBlock) v325 t323) := ⟨(by rw [hw]; exact (by (with_reducible repeat (first | apply Kd.R_alloc | apply Kd.R_drewN | apply Kd.R_drew)); exact Kd.R_mono (Kd.R_far (p := ⟨gb355, 1, none⟩) (Kd.R_far (p := ⟨gb355, 0, none⟩) (Kd.R_types HO326.out BK355.out (by decide)) (fun _ hk => hk.2) (.string t349)) (fun _ hk => hk.2) (.string t350)) (fun _ hk => ⟨hk.1.1.1.1.1.1.2, ⟨hk.1.1.1.1.1.2, ⟨hk.1.1.1.1.2, ⟨hk.1.1.1.2, ⟨hk.1.1.2, hk.1.2⟩⟩⟩⟩⟩)))⟩; have n2_ : Aside0 (Kd.R (Kd.int .u8) 5 w29 w.heap.size (fun k_ => some k_ ≠ (.slice Ao17 y319.length co17 : Value).ownBlock ∧ some k_ ≠ (v325 : Value).ownBlock ∧ some k_ ≠ (v335 : Value).ownBlock ∧ some k_ ≠ (v340 : Value).ownBlock ∧ some k_ ≠ (v345 : Value).ownBlock ∧ some k_ ≠ (v352 : Value).ownBlock) v330 t328) := ⟨(by rw [hw]; exact (by (with_reducible repeat (first | apply Kd.R_alloc | apply Kd.R_drewN | apply Kd.R_drew)); exact Kd.R_mono (Kd.R_far (p := ⟨gb355, 1, none⟩) (Kd.R_far (p := ⟨gb355, 0, none⟩) (Kd.R_types HO331.out BK355.out (by decide)) (fun _ hk => hk.2) (.string t349)) (fun _ hk => hk.2) (.string t350)) (fun _ hk => ⟨hk.1.1.1.1.1.1.2, ⟨hk.1.1.1.1.1.2, ⟨hk.1.1.1.1.2, ⟨hk.1.1.1.2, ⟨hk.1.1.2, hk.1.2⟩⟩⟩⟩⟩)))⟩; have n3_ : Aside0 (Kd.Q (Kd.int .u8) 5 w29 w.heap.size (fun k_ => some k_ ≠ (.slice Ao17 y319.length co17 : Value).ownBlock ∧ some k_ ≠ (v325 : Value).ownBlock ∧ some k_ ≠ (v330 : Value).ownBlock ∧ some k_ ≠ (v340 : Value).ownBlock ∧ some k_ ≠ (v345 : Value).ownBlock ∧ some k_ ≠ (v352 : Value).ownBlock) v335 t333) := ⟨(by rw [hw]; exact (by (with_reducible repeat (first | apply Kd.Q_alloc | apply Kd.Q_drewN | apply Kd.Q_drew)); exact Kd.Q_mono (Kd.Q_far (p := ⟨gb355, 1, none⟩) (Kd.Q_far (p := ⟨gb355, 0, none⟩) (Kd.Q_types HO336.out BK355.out (by decide)) (fun _ hk => hk.2) (.string t349)) (fun _ hk => hk.2) (.string t350)) (fun _ hk => ⟨hk.1.1.1.1.1.1.2, ⟨hk.1.1.1.1.1.2, ⟨hk.1.1.1.1.2, ⟨hk.1.1.1.2, ⟨hk.1.1.2, hk.1.2⟩⟩⟩⟩⟩)))⟩; have n4_ : Aside0 (Kd.R (Kd.int .u8) 5 w29 w.heap.size (fun k_ => some k_ ≠ (.slice Ao17 y319.length co17 : Value).ownBlock ∧ some k_ ≠ (v325 : Value).ownBlock ∧ some k_ ≠ (v330 : Value).ownBlock ∧ some k_ ≠ (v335 : Value).ownBlock ∧ some k_ ≠ (v345 : Value).ownBlock ∧ some k_ ≠ (v352 : Value).ownBlock) v340 t338) := ⟨(by rw [hw]; exact (by (with_reducible repeat (first | apply Kd.R_alloc | apply Kd.R_drewN | apply Kd.R_drew)); exact Kd.R_mono (Kd.R_far (p := ⟨gb355, 1, none⟩) (Kd.R_far (p := ⟨gb355, 0, none⟩) (Kd.R_types HO341.out BK355.out (by decide)) (fun _ hk => hk.2) (.string t349)) (fun _ hk => hk.2) (.string t350)) (fun _ hk => ⟨hk.1.1.1.1.1.1.2, ⟨hk.1.1.1.1.1.2, ⟨hk.1.1.1.1.2, ⟨hk.1.1.1.2, ⟨hk.1.1.2, hk.1.2⟩⟩⟩⟩⟩)))⟩; have n5_ : Aside0 (Kd.Q (Kd.int .u8) 5 w29 w.heap.size (fun k_ => some k_ ≠ (.slice Ao17 y319.length co17 : Value).ownBlock ∧ some k_ ≠ (v325 : Value).ownBlock ∧ some k_ ≠ (v330 : Value).ownBlock ∧ some k_ ≠ (v335 : Value).ownBlock ∧ some k_ ≠ (v340 : Value).ownBlock ∧ some k_ ≠ (v352 : Value).ownBlock) v345 t344) := ⟨(by rw [hw]; exact (by (with_reducible repeat (first | apply Kd.Q_alloc | apply Kd.Q_drewN | apply Kd.Q_drew)); exact Kd.Q_mono (Kd.Q_far (p := ⟨gb355, 1, none⟩) (Kd.Q_far (p := ⟨gb355, 0, none⟩) (Kd.Q_types HO346.out BK355.out (by decide)) (fun _ hk => hk.2) (.string t349)) (fun _ hk => hk.2) (.string t350)) (fun _ hk => ⟨hk.1.1.1.1.1.1.2, ⟨hk.1.1.1.1.1.2, ⟨hk.1.1.1.1.2, ⟨hk.1.1.1.2, ⟨hk.1.1.2, hk.1.2⟩⟩⟩⟩⟩)))⟩; have n6_ : Aside0 (Kd.R (Kd.int .u8) 5 w29 w.heap.size (fun k_ => some k_ ≠ (.slice Ao17 y319.length co17 : Value).ownBlock ∧ some k_ ≠ (v325 : Value).ownBlock ∧ some k_ ≠ (v330 : Value).ownBlock ∧ some k_ ≠ (v335 : Value).ownBlock ∧ some k_ ≠ (v340 : Value).ownBlock ∧ some k_ ≠ (v345 : Value).ownBlock) v352 t351) := ⟨(by rw [hw]; exact (by (with_reducible repeat (first | apply Kd.R_alloc | apply Kd.R_drewN | apply Kd.R_drew)); exact Kd.R_mono (Kd.R_far (p := ⟨gb355, 1, none⟩) (Kd.R_far (p := ⟨gb355, 0, none⟩) (Kd.R_types HO353.out BK355.out (by decide)) (fun _ hk => hk.2) (.string t349)) (fun _ hk => hk.2) (.string t350)) (fun _ hk => ⟨hk.1.1.1.1.1.1.2, ⟨hk.1.1.1.1.1.2, ⟨hk.1.1.1.1.2, ⟨hk.1.1.1.2, ⟨hk.1.1.2, hk.1.2⟩⟩⟩⟩⟩)))⟩; have n7_ : Aside0 (w29.heap[gb348]? = some (.cells #[.string t342, .string t343] 31 (0, 0))) := ⟨(by rw [hw]; exact (by (with_reducible repeat (first | refine blk_drewN ?_ _ | refine blk_drew ?_ | refine blk_alloc ?_ _)); refine blk_far ?_ NB348_355.out _; (with_reducible repeat (first | refine blk_drewN ?_ _ | refine blk_drew ?_ | refine blk_alloc ?_ _)); refine blk_far ?_ NB348_355.out _; (with_reducible repeat (first | refine blk_drewN ?_ _ | refine blk_drew ?_ | refine blk_alloc ?_ _)); exact BK348.out))⟩; have n8_ : Aside0 (w29.heap[gb355]? = some (.cells #[.string t349, .string t350] 31 (0, 0))) := ⟨(by rw [hw]; exact (by (with_reducible repeat (first | refine blk_drewN ?_ _ | refine blk_drew ?_ | refine blk_alloc ?_ _)); refine blk_put (cs := #[.string t349, .string (⟨#[]⟩ : ByteArray)]) ?_ 1 _ rfl; (with_reducible repeat (first | refine blk_drewN ?_ _ | refine blk_drew ?_ | refine blk_alloc ?_ _)); refine blk_put (cs := #[.string (⟨#[]⟩ : ByteArray), .string (⟨#[]⟩ : ByteArray)]) ?_ 0 _ rfl; (with_reducible repeat (first | refine blk_drewN ?_ _ | refine blk_drew ?_ | refine blk_alloc ?_ _)); exact BK355.out))⟩; have n9_ : Aside0 (Below w.heap.size w w29) := ⟨(by rw [hw]; exact (by repeat (first | (with_reducible first | exact HB.out | apply below_alloc | apply pw_below_drewN | apply below_drew1 | refine below_set ?_ GE348.out | refine below_set ?_ GE355.out) | exact HB.out)))⟩; clear hw; clear HO321; clear HO326; clear HO331; clear HO336; clear HO341; clear HO346; clear HO353; clear BK348; clear BK355; clear HB; have HO321 := n0_; have HO326 := n1_; have HO331 := n2_; have HO336 := n3_; have HO341 := n4_; have HO346 := n5_; have HO353 := n6_; have BK348 := n7_; have BK355 := n8_; have HB := n9_; clear n0_ n1_ n2_ n3_ n4_ n5_ n6_ n7_ n8_ n9_))
      (try simp only [Act.put, List.setIfInBounds_toArray, List.set_cons_zero, List.set_cons_succ])
      go_cut [24] (fun v24 wc => ∃ (kq : Nat) (x24_12 : Bool), v24 = .bool x24_12 ∧ Aside0 (threshinglaw01_VarintTakes.j0 kq l0 y319 t323 x24_12 = some r) ∧ Aside0 (kq ≤ k) ∧ Aside0 (Kd.R (Kd.int .u8) 5 wc w.heap.size (fun k_ => some k_ ≠ (v325 : Value).ownBlock) (.slice Ao17 y319.length co17) y319) ∧ Aside0 (Kd.R (Kd.int .u8) 5 wc w.heap.size (fun k_ => some k_ ≠ ((.slice Ao17 y319.length co17) : Value).ownBlock) v325 t323) ∧ Aside0 (wc.heap[gb348]? = some (.cells #[.string t342, .string t343] 31 (0, 0))) ∧ Aside0 (wc.heap[gb355]? = some (.cells #[.string t349, .string t350] 31 (0, 0))) ∧ Aside0 (Below w.heap.size w wc))
      case first =>
        have H := HC13.out
        clear HC13
        by_cases c30 : t322 = t327
        · rw [if_pos c30] at H
          have c30b0 : (t322 == t327) = true := beq_iff_eq.mpr c30
          have c30b1 : (t322 != t327) = false := bne_eq_false_iff_eq.mpr c30
          clear c30
          (first | rw [c30b0] | (simp only [i64_w, i32_w]; rw [c30b0]) | skip)
          by_cases c31 : (strOfNums t323).toList = (strOfNums t328).toList
          · rw [if_pos c31] at H
            have c31b0 : ((strOfNums t323).toList == (strOfNums t328).toList) = true := beq_iff_eq.mpr c31
            have c31b1 : ((strOfNums t323).toList != (strOfNums t328).toList) = false := bne_eq_false_iff_eq.mpr c31
            clear c31
            by_cases c32 : t324 = t329
            · rw [if_pos c32] at H
              have c32b0 : (t324 == t329) = true := beq_iff_eq.mpr c32
              have c32b1 : (t324 != t329) = false := bne_eq_false_iff_eq.mpr c32
              clear c32
              by_cases c33 : t332.toList = t337.toList
              · rw [if_pos c33] at H
                have c33b0 : (t332.toList == t337.toList) = true := beq_iff_eq.mpr c33
                have c33b1 : (t332.toList != t337.toList) = false := bne_eq_false_iff_eq.mpr c33
                clear c33
                by_cases c34 : (strOfNums t333).toList = (strOfNums t338).toList
                · rw [if_pos c34] at H
                  have c34b0 : ((strOfNums t333).toList == (strOfNums t338).toList) = true := beq_iff_eq.mpr c34
                  have c34b1 : ((strOfNums t333).toList != (strOfNums t338).toList) = false := bne_eq_false_iff_eq.mpr c34
                  clear c34
                  by_cases c35 : t334 = t339
                  · rw [if_pos c35] at H
                    have c35b0 : (t334 == t339) = true := beq_iff_eq.mpr c35
                    have c35b1 : (t334 != t339) = false := bne_eq_false_iff_eq.mpr c35
                    clear c35
                    by_cases c36 : (t342.toList == t349.toList && (t343.toList == t350.toList)) = true
                    · rw [if_pos c36] at H
                      have c36b0 : (t342.toList == t349.toList && (t343.toList == t350.toList)) = true := c36
                      (try (have c36b1 : decide (t342.toList = t349.toList && (t343.toList == t350.toList)) = true := by simpa using c36))
                      (try (have c36b2 : (t342.toList == t349.toList && (t343.toList == t350.toList)) = true := by simpa using c36))
                      clear c36
                      by_cases c37 : (strOfNums t344).toList = (strOfNums t351).toList
                      · rw [if_pos c37] at H
                        have c37b0 : ((strOfNums t344).toList == (strOfNums t351).toList) = true := beq_iff_eq.mpr c37
                        have c37b1 : ((strOfNums t344).toList != (strOfNums t351).toList) = false := bne_eq_false_iff_eq.mpr c37
                        clear c37
                        have H' := Aside0.mk H
                        clear H
                        have hcv38 := own_string (P := Try.prog) Try.underlying24 Try.underlying5 Try.underlying9 (Kd.own_of_R HO326.out)
                        have hcv39 := own_string (P := Try.prog) Try.underlying24 Try.underlying5 Try.underlying9 (Kd.own_of_R HO331.out)
                        obtain ⟨Ao40, co40, eo40, _⟩ := Kd.Q_slice HO336.out
                        subst eo40
                        have hcv41 := Kd.C_string (P := Try.prog) (A := Ao40) (c := co40) Try.underlying24 Try.underlying5 Try.underlying9 ((Kd.Q_reads' HO336.out).2.2)
                        have hcv42 := own_string (P := Try.prog) Try.underlying24 Try.underlying5 Try.underlying9 (Kd.own_of_R HO341.out)
                        have hnb43 := NB348_355.out
                        have hnc43 := NB355_348.out
                        have hcz44_0 : w29.cell? ⟨gb348, 0, none⟩ = some (.string t342) := (blk_cell BK348.out 0).trans rfl
                        have hcz44_1 : w29.cell? ⟨gb348, 1, none⟩ = some (.string t343) := (blk_cell BK348.out 1).trans rfl
                        have hfz44_0 := blk_frozen BK348.out 0
                        have hfz44_1 := blk_frozen BK348.out 1
                        have hcz45_0 : w29.cell? ⟨gb355, 0, none⟩ = some (.string t349) := (blk_cell BK355.out 0).trans rfl
                        have hcz45_1 : w29.cell? ⟨gb355, 1, none⟩ = some (.string t350) := (blk_cell BK355.out 1).trans rfl
                        have hfz45_0 := blk_frozen BK355.out 0
                        have hfz45_1 := blk_frozen BK355.out 1
                        obtain ⟨Ao46, co46, eo46, _⟩ := Kd.Q_slice HO346.out
                        subst eo46
                        have hcv47 := Kd.C_string (P := Try.prog) (A := Ao46) (c := co46) Try.underlying24 Try.underlying5 Try.underlying9 ((Kd.Q_reads' HO346.out).2.2)
                        have hcv48 := own_string (P := Try.prog) Try.underlying24 Try.underlying5 Try.underlying9 (Kd.own_of_R HO353.out)
                        go_wp2
                        go_meet
                        case rel => exact ⟨_, ((t347 == t354)), (by first | rfl | (simp; done) | (simp [*]; done)), H', ⟨by first | omega | exact Nat.le_refl _⟩, ⟨by (with_reducible repeat (first | apply Kd.R_alloc | apply Kd.R_drewN | apply Kd.R_drew)); exact Kd.R_mono HO321.out (fun _ hk => hk.1)⟩, ⟨by (with_reducible repeat (first | apply Kd.R_alloc | apply Kd.R_drewN | apply Kd.R_drew)); exact Kd.R_mono HO326.out (fun _ hk => hk.1)⟩, ⟨by (with_reducible repeat (first | refine blk_drewN ?_ _ | refine blk_drew ?_ | refine blk_alloc ?_ _)); exact BK348.out⟩, ⟨by (with_reducible repeat (first | refine blk_drewN ?_ _ | refine blk_drew ?_ | refine blk_alloc ?_ _)); exact BK355.out⟩, ⟨by repeat (first | (with_reducible first | exact HB.out | apply below_alloc | apply pw_below_drewN | apply below_drew1 | refine below_set ?_ GE348.out | refine below_set ?_ GE355.out) | exact HB.out)⟩⟩
                      · rw [if_neg c37] at H
                        have c37b0 : ((strOfNums t344).toList == (strOfNums t351).toList) = false := beq_eq_false_iff_ne.mpr c37
                        have c37b1 : ((strOfNums t344).toList != (strOfNums t351).toList) = true := bne_iff_ne.mpr c37
                        have H' := Aside0.mk H
                        clear H
                        have hcv49 := own_string (P := Try.prog) Try.underlying24 Try.underlying5 Try.underlying9 (Kd.own_of_R HO326.out)
                        have hcv50 := own_string (P := Try.prog) Try.underlying24 Try.underlying5 Try.underlying9 (Kd.own_of_R HO331.out)
                        obtain ⟨Ao51, co51, eo51, _⟩ := Kd.Q_slice HO336.out
                        subst eo51
                        have hcv52 := Kd.C_string (P := Try.prog) (A := Ao51) (c := co51) Try.underlying24 Try.underlying5 Try.underlying9 ((Kd.Q_reads' HO336.out).2.2)
                        have hcv53 := own_string (P := Try.prog) Try.underlying24 Try.underlying5 Try.underlying9 (Kd.own_of_R HO341.out)
                        have hnb54 := NB348_355.out
                        have hnc54 := NB355_348.out
                        have hcz55_0 : w29.cell? ⟨gb348, 0, none⟩ = some (.string t342) := (blk_cell BK348.out 0).trans rfl
                        have hcz55_1 : w29.cell? ⟨gb348, 1, none⟩ = some (.string t343) := (blk_cell BK348.out 1).trans rfl
                        have hfz55_0 := blk_frozen BK348.out 0
                        have hfz55_1 := blk_frozen BK348.out 1
                        have hcz56_0 : w29.cell? ⟨gb355, 0, none⟩ = some (.string t349) := (blk_cell BK355.out 0).trans rfl
                        have hcz56_1 : w29.cell? ⟨gb355, 1, none⟩ = some (.string t350) := (blk_cell BK355.out 1).trans rfl
                        have hfz56_0 := blk_frozen BK355.out 0
                        have hfz56_1 := blk_frozen BK355.out 1
                        obtain ⟨Ao57, co57, eo57, _⟩ := Kd.Q_slice HO346.out
                        subst eo57
                        have hcv58 := Kd.C_string (P := Try.prog) (A := Ao57) (c := co57) Try.underlying24 Try.underlying5 Try.underlying9 ((Kd.Q_reads' HO346.out).2.2)
                        have hcv59 := own_string (P := Try.prog) Try.underlying24 Try.underlying5 Try.underlying9 (Kd.own_of_R HO353.out)
                        go_wp2
                        go_meet
                        case rel => exact ⟨_, (false), (by first | rfl | (simp; done) | (simp [*]; done)), H', ⟨by first | omega | exact Nat.le_refl _⟩, ⟨by (with_reducible repeat (first | apply Kd.R_alloc | apply Kd.R_drewN | apply Kd.R_drew)); exact Kd.R_mono HO321.out (fun _ hk => hk.1)⟩, ⟨by (with_reducible repeat (first | apply Kd.R_alloc | apply Kd.R_drewN | apply Kd.R_drew)); exact Kd.R_mono HO326.out (fun _ hk => hk.1)⟩, ⟨by (with_reducible repeat (first | refine blk_drewN ?_ _ | refine blk_drew ?_ | refine blk_alloc ?_ _)); exact BK348.out⟩, ⟨by (with_reducible repeat (first | refine blk_drewN ?_ _ | refine blk_drew ?_ | refine blk_alloc ?_ _)); exact BK355.out⟩, ⟨by repeat (first | (with_reducible first | exact HB.out | apply below_alloc | apply pw_below_drewN | apply below_drew1 | refine below_set ?_ GE348.out | refine below_set ?_ GE355.out) | exact HB.out)⟩⟩
                    · rw [if_neg c36] at H
                      have c36b0 : (t342.toList == t349.toList && (t343.toList == t350.toList)) = false := by simpa using c36
                      (try (have c36b1 : decide (t342.toList = t349.toList && (t343.toList == t350.toList)) = false := by simpa using c36))
                      (try (have c36b2 : (t342.toList == t349.toList && (t343.toList == t350.toList)) = false := by simpa using c36))
                      (try (have c36b3 : ¬ (t342.toList = t349.toList && (t343.toList == t350.toList)) := by simpa using c36))
                      clear c36
                      have H' := Aside0.mk H
                      clear H
                      have hcv60 := own_string (P := Try.prog) Try.underlying24 Try.underlying5 Try.underlying9 (Kd.own_of_R HO326.out)
                      have hcv61 := own_string (P := Try.prog) Try.underlying24 Try.underlying5 Try.underlying9 (Kd.own_of_R HO331.out)
                      obtain ⟨Ao62, co62, eo62, _⟩ := Kd.Q_slice HO336.out
                      subst eo62
                      have hcv63 := Kd.C_string (P := Try.prog) (A := Ao62) (c := co62) Try.underlying24 Try.underlying5 Try.underlying9 ((Kd.Q_reads' HO336.out).2.2)
                      have hcv64 := own_string (P := Try.prog) Try.underlying24 Try.underlying5 Try.underlying9 (Kd.own_of_R HO341.out)
                      have hnb65 := NB348_355.out
                      have hnc65 := NB355_348.out
                      have hcz66_0 : w29.cell? ⟨gb348, 0, none⟩ = some (.string t342) := (blk_cell BK348.out 0).trans rfl
                      have hcz66_1 : w29.cell? ⟨gb348, 1, none⟩ = some (.string t343) := (blk_cell BK348.out 1).trans rfl
                      have hfz66_0 := blk_frozen BK348.out 0
                      have hfz66_1 := blk_frozen BK348.out 1
                      have hcz67_0 : w29.cell? ⟨gb355, 0, none⟩ = some (.string t349) := (blk_cell BK355.out 0).trans rfl
                      have hcz67_1 : w29.cell? ⟨gb355, 1, none⟩ = some (.string t350) := (blk_cell BK355.out 1).trans rfl
                      have hfz67_0 := blk_frozen BK355.out 0
                      have hfz67_1 := blk_frozen BK355.out 1
                      go_wp2
                      go_meet
                      case rel => exact ⟨_, (false), (by first | rfl | (simp; done) | (simp [*]; done)), H', ⟨by first | omega | exact Nat.le_refl _⟩, ⟨by (with_reducible repeat (first | apply Kd.R_alloc | apply Kd.R_drewN | apply Kd.R_drew)); exact Kd.R_mono HO321.out (fun _ hk => hk.1)⟩, ⟨by (with_reducible repeat (first | apply Kd.R_alloc | apply Kd.R_drewN | apply Kd.R_drew)); exact Kd.R_mono HO326.out (fun _ hk => hk.1)⟩, ⟨by (with_reducible repeat (first | refine blk_drewN ?_ _ | refine blk_drew ?_ | refine blk_alloc ?_ _)); exact BK348.out⟩, ⟨by (with_reducible repeat (first | refine blk_drewN ?_ _ | refine blk_drew ?_ | refine blk_alloc ?_ _)); exact BK355.out⟩, ⟨by repeat (first | (with_reducible first | exact HB.out | apply below_alloc | apply pw_below_drewN | apply below_drew1 | refine below_set ?_ GE348.out | refine below_set ?_ GE355.out) | exact HB.out)⟩⟩
                  · rw [if_neg c35] at H
                    have c35b0 : (t334 == t339) = false := beq_eq_false_iff_ne.mpr c35
                    have c35b1 : (t334 != t339) = true := bne_iff_ne.mpr c35
                    have H' := Aside0.mk H
                    clear H
                    have hcv68 := own_string (P := Try.prog) Try.underlying24 Try.underlying5 Try.underlying9 (Kd.own_of_R HO326.out)
                    have hcv69 := own_string (P := Try.prog) Try.underlying24 Try.underlying5 Try.underlying9 (Kd.own_of_R HO331.out)
                    obtain ⟨Ao70, co70, eo70, _⟩ := Kd.Q_slice HO336.out
                    subst eo70
                    have hcv71 := Kd.C_string (P := Try.prog) (A := Ao70) (c := co70) Try.underlying24 Try.underlying5 Try.underlying9 ((Kd.Q_reads' HO336.out).2.2)
                    have hcv72 := own_string (P := Try.prog) Try.underlying24 Try.underlying5 Try.underlying9 (Kd.own_of_R HO341.out)
                    go_wp2
                    go_meet
                    case rel => exact ⟨_, (false), (by first | rfl | (simp; done) | (simp [*]; done)), H', ⟨by first | omega | exact Nat.le_refl _⟩, ⟨by (with_reducible repeat (first | apply Kd.R_alloc | apply Kd.R_drewN | apply Kd.R_drew)); exact Kd.R_mono HO321.out (fun _ hk => hk.1)⟩, ⟨by (with_reducible repeat (first | apply Kd.R_alloc | apply Kd.R_drewN | apply Kd.R_drew)); exact Kd.R_mono HO326.out (fun _ hk => hk.1)⟩, ⟨by (with_reducible repeat (first | refine blk_drewN ?_ _ | refine blk_drew ?_ | refine blk_alloc ?_ _)); exact BK348.out⟩, ⟨by (with_reducible repeat (first | refine blk_drewN ?_ _ | refine blk_drew ?_ | refine blk_alloc ?_ _)); exact BK355.out⟩, ⟨by repeat (first | (with_reducible first | exact HB.out | apply below_alloc | apply pw_below_drewN | apply below_drew1 | refine below_set ?_ GE348.out | refine below_set ?_ GE355.out) | exact HB.out)⟩⟩
                · rw [if_neg c34] at H
                  have c34b0 : ((strOfNums t333).toList == (strOfNums t338).toList) = false := beq_eq_false_iff_ne.mpr c34
                  have c34b1 : ((strOfNums t333).toList != (strOfNums t338).toList) = true := bne_iff_ne.mpr c34
                  have H' := Aside0.mk H
                  clear H
                  have hcv73 := own_string (P := Try.prog) Try.underlying24 Try.underlying5 Try.underlying9 (Kd.own_of_R HO326.out)
                  have hcv74 := own_string (P := Try.prog) Try.underlying24 Try.underlying5 Try.underlying9 (Kd.own_of_R HO331.out)
                  obtain ⟨Ao75, co75, eo75, _⟩ := Kd.Q_slice HO336.out
                  subst eo75
                  have hcv76 := Kd.C_string (P := Try.prog) (A := Ao75) (c := co75) Try.underlying24 Try.underlying5 Try.underlying9 ((Kd.Q_reads' HO336.out).2.2)
                  have hcv77 := own_string (P := Try.prog) Try.underlying24 Try.underlying5 Try.underlying9 (Kd.own_of_R HO341.out)
                  go_wp2
                  go_meet
                  case rel => exact ⟨_, (false), (by first | rfl | (simp; done) | (simp [*]; done)), H', ⟨by first | omega | exact Nat.le_refl _⟩, ⟨by (with_reducible repeat (first | apply Kd.R_alloc | apply Kd.R_drewN | apply Kd.R_drew)); exact Kd.R_mono HO321.out (fun _ hk => hk.1)⟩, ⟨by (with_reducible repeat (first | apply Kd.R_alloc | apply Kd.R_drewN | apply Kd.R_drew)); exact Kd.R_mono HO326.out (fun _ hk => hk.1)⟩, ⟨by (with_reducible repeat (first | refine blk_drewN ?_ _ | refine blk_drew ?_ | refine blk_alloc ?_ _)); exact BK348.out⟩, ⟨by (with_reducible repeat (first | refine blk_drewN ?_ _ | refine blk_drew ?_ | refine blk_alloc ?_ _)); exact BK355.out⟩, ⟨by repeat (first | (with_reducible first | exact HB.out | apply below_alloc | apply pw_below_drewN | apply below_drew1 | refine below_set ?_ GE348.out | refine below_set ?_ GE355.out) | exact HB.out)⟩⟩
              · rw [if_neg c33] at H
                have c33b0 : (t332.toList == t337.toList) = false := beq_eq_false_iff_ne.mpr c33
                have c33b1 : (t332.toList != t337.toList) = true := bne_iff_ne.mpr c33
                have H' := Aside0.mk H
                clear H
                have hcv78 := own_string (P := Try.prog) Try.underlying24 Try.underlying5 Try.underlying9 (Kd.own_of_R HO326.out)
                have hcv79 := own_string (P := Try.prog) Try.underlying24 Try.underlying5 Try.underlying9 (Kd.own_of_R HO331.out)
                go_wp2
                go_meet
                case rel => exact ⟨_, (false), (by first | rfl | (simp; done) | (simp [*]; done)), H', ⟨by first | omega | exact Nat.le_refl _⟩, ⟨by (with_reducible repeat (first | apply Kd.R_alloc | apply Kd.R_drewN | apply Kd.R_drew)); exact Kd.R_mono HO321.out (fun _ hk => hk.1)⟩, ⟨by (with_reducible repeat (first | apply Kd.R_alloc | apply Kd.R_drewN | apply Kd.R_drew)); exact Kd.R_mono HO326.out (fun _ hk => hk.1)⟩, ⟨by (with_reducible repeat (first | refine blk_drewN ?_ _ | refine blk_drew ?_ | refine blk_alloc ?_ _)); exact BK348.out⟩, ⟨by (with_reducible repeat (first | refine blk_drewN ?_ _ | refine blk_drew ?_ | refine blk_alloc ?_ _)); exact BK355.out⟩, ⟨by repeat (first | (with_reducible first | exact HB.out | apply below_alloc | apply pw_below_drewN | apply below_drew1 | refine below_set ?_ GE348.out | refine below_set ?_ GE355.out) | exact HB.out)⟩⟩
            · rw [if_neg c32] at H
              have c32b0 : (t324 == t329) = false := beq_eq_false_iff_ne.mpr c32
              have c32b1 : (t324 != t329) = true := bne_iff_ne.mpr c32
              have H' := Aside0.mk H
              clear H
              have hcv80 := own_string (P := Try.prog) Try.underlying24 Try.underlying5 Try.underlying9 (Kd.own_of_R HO326.out)
              have hcv81 := own_string (P := Try.prog) Try.underlying24 Try.underlying5 Try.underlying9 (Kd.own_of_R HO331.out)
              go_wp2
              go_meet
              case rel => exact ⟨_, (false), (by first | rfl | (simp; done) | (simp [*]; done)), H', ⟨by first | omega | exact Nat.le_refl _⟩, ⟨by (with_reducible repeat (first | apply Kd.R_alloc | apply Kd.R_drewN | apply Kd.R_drew)); exact Kd.R_mono HO321.out (fun _ hk => hk.1)⟩, ⟨by (with_reducible repeat (first | apply Kd.R_alloc | apply Kd.R_drewN | apply Kd.R_drew)); exact Kd.R_mono HO326.out (fun _ hk => hk.1)⟩, ⟨by (with_reducible repeat (first | refine blk_drewN ?_ _ | refine blk_drew ?_ | refine blk_alloc ?_ _)); exact BK348.out⟩, ⟨by (with_reducible repeat (first | refine blk_drewN ?_ _ | refine blk_drew ?_ | refine blk_alloc ?_ _)); exact BK355.out⟩, ⟨by repeat (first | (with_reducible first | exact HB.out | apply below_alloc | apply pw_below_drewN | apply below_drew1 | refine below_set ?_ GE348.out | refine below_set ?_ GE355.out) | exact HB.out)⟩⟩
          · rw [if_neg c31] at H
            have c31b0 : ((strOfNums t323).toList == (strOfNums t328).toList) = false := beq_eq_false_iff_ne.mpr c31
            have c31b1 : ((strOfNums t323).toList != (strOfNums t328).toList) = true := bne_iff_ne.mpr c31
            have H' := Aside0.mk H
            clear H
            have hcv82 := own_string (P := Try.prog) Try.underlying24 Try.underlying5 Try.underlying9 (Kd.own_of_R HO326.out)
            have hcv83 := own_string (P := Try.prog) Try.underlying24 Try.underlying5 Try.underlying9 (Kd.own_of_R HO331.out)
            go_wp2
            go_meet
            case rel => exact ⟨_, (false), (by first | rfl | (simp; done) | (simp [*]; done)), H', ⟨by first | omega | exact Nat.le_refl _⟩, ⟨by (with_reducible repeat (first | apply Kd.R_alloc | apply Kd.R_drewN | apply Kd.R_drew)); exact Kd.R_mono HO321.out (fun _ hk => hk.1)⟩, ⟨by (with_reducible repeat (first | apply Kd.R_alloc | apply Kd.R_drewN | apply Kd.R_drew)); exact Kd.R_mono HO326.out (fun _ hk => hk.1)⟩, ⟨by (with_reducible repeat (first | refine blk_drewN ?_ _ | refine blk_drew ?_ | refine blk_alloc ?_ _)); exact BK348.out⟩, ⟨by (with_reducible repeat (first | refine blk_drewN ?_ _ | refine blk_drew ?_ | refine blk_alloc ?_ _)); exact BK355.out⟩, ⟨by repeat (first | (with_reducible first | exact HB.out | apply below_alloc | apply pw_below_drewN | apply below_drew1 | refine below_set ?_ GE348.out | refine below_set ?_ GE355.out) | exact HB.out)⟩⟩
        · rw [if_neg c30] at H
          have c30b0 : (t322 == t327) = false := beq_eq_false_iff_ne.mpr c30
          have c30b1 : (t322 != t327) = true := bne_iff_ne.mpr c30
          (first | rw [c30b0] | (simp only [i64_w, i32_w]; rw [c30b0]) | skip)
          have H' := Aside0.mk H
          clear H
          go_wp2
          go_meet
          case rel => exact ⟨_, (false), (by first | rfl | (simp; done) | (simp [*]; done)), H', ⟨by first | omega | exact Nat.le_refl _⟩, ⟨by (with_reducible repeat (first | apply Kd.R_alloc | apply Kd.R_drewN | apply Kd.R_drew)); exact Kd.R_mono HO321.out (fun _ hk => hk.1)⟩, ⟨by (with_reducible repeat (first | apply Kd.R_alloc | apply Kd.R_drewN | apply Kd.R_drew)); exact Kd.R_mono HO326.out (fun _ hk => hk.1)⟩, ⟨by (with_reducible repeat (first | refine blk_drewN ?_ _ | refine blk_drew ?_ | refine blk_alloc ?_ _)); exact BK348.out⟩, ⟨by (with_reducible repeat (first | refine blk_drewN ?_ _ | refine blk_drew ?_ | refine blk_alloc ?_ _)); exact BK355.out⟩, ⟨by repeat (first | (with_reducible first | exact HB.out | apply below_alloc | apply pw_below_drewN | apply below_drew1 | refine below_set ?_ GE348.out | refine below_set ?_ GE355.out) | exact HB.out)⟩⟩
      case rest =>
        clear HC13
        try clear c1
        try clear c2
        try clear p2
        try clear c3
        try clear c3b0
        try clear c3b1
        try clear hcv3
        try clear c4
        try clear hcv4
        try clear c5
        try clear hcv5
        try clear c6
        try clear hcv6
        try clear hcv7
        try clear hcv8
        try clear c11
        try clear c21
        try clear c22
        try clear c23
        try clear c24
        try clear c25
        try clear c26
        try clear c27
        try clear c30
        try clear c30b0
        try clear c30b1
        try clear c31
        try clear c31b0
        try clear c31b1
        try clear c32
        try clear c32b0
        try clear c32b1
        try clear c33
        try clear c33b0
        try clear c33b1
        try clear c34
        try clear c34b0
        try clear c34b1
        try clear c35
        try clear c35b0
        try clear c35b1
        try clear c36
        try clear c36b0
        try clear c36b1
        try clear c36b2
        try clear c37
        try clear c37b0
        try clear c37b1
        try clear hcv38
        try clear hcv39
        try clear hcv41
        try clear hcv42
        try clear c43
        try clear hcv47
        try clear hcv48
        try clear hcv49
        try clear hcv50
        try clear hcv52
        try clear hcv53
        try clear c54
        try clear hcv58
        try clear hcv59
        try clear hcv60
        try clear hcv61
        try clear hcv63
        try clear hcv64
        try clear c65
        try clear hcv68
        try clear hcv69
        try clear hcv71
        try clear hcv72
        try clear hcv73
        try clear hcv74
        try clear hcv76
        try clear hcv77
        try clear hcv78
        try clear hcv79
        try clear hcv80
        try clear hcv81
        try clear hcv82
        try clear hcv83
        try clear hcz24_0
        try clear hcz24_1
        try clear hcz28_0
        try clear hcz28_1
        try clear hcz44_0
        try clear hcz44_1
        try clear hcz45_0
        try clear hcz45_1
        try clear hcz55_0
        try clear hcz55_1
        try clear hcz56_0
        try clear hcz56_1
        try clear hcz66_0
        try clear hcz66_1
        try clear hcz67_0
        try clear hcz67_1
        try clear hfz24_0
        try clear hfz24_1
        try clear hfz28_0
        try clear hfz28_1
        try clear hfz44_0
        try clear hfz44_1
        try clear hfz45_0
        try clear hfz45_1
        try clear hfz55_0
        try clear hfz55_1
        try clear hfz56_0
        try clear hfz56_1
        try clear hfz66_0
        try clear hfz66_1
        try clear hfz67_0
        try clear hfz67_1
        obtain ⟨kq, x24_12, rfl, HA, HJ12, HO_5, HO_7, BK348, BK355, HB⟩ := hcut
        cases kq with
        | zero => exact absurd HA.out (by simp [threshinglaw01_VarintTakes.j0])
        | succ kj12 =>
          have H := HA.out
          clear HA
          simp only [threshinglaw01_VarintTakes.j0] at H
          have H' := Aside0.mk H
          clear H
          go_wp2
          go_loopg [25] kj12 (fun kq v25 w' => ∃ (x7_2 : List Int) (x25_2 : Int), v25 = .int .i64 x25_2 ∧ Aside0 (threshinglaw01_VarintTakes.l0 kq l0 y319 x7_2 x24_12 x25_2 = some r) ∧ Aside0 (kq ≤ kj12) ∧ Aside0 (Kd.R (Kd.int .u8) 5 w' w.heap.size (fun k_ => some k_ ≠ (v325 : Value).ownBlock) (.slice Ao17 y319.length co17) y319) ∧ Aside0 (Kd.R (Kd.int .u8) 5 w' w.heap.size (fun k_ => some k_ ≠ ((.slice Ao17 y319.length co17) : Value).ownBlock) v325 x7_2) ∧ Aside0 (w'.heap[gb348]? = some (.cells #[.string t342, .string t343] 31 (0, 0))) ∧ Aside0 (w'.heap[gb355]? = some (.cells #[.string t349, .string t350] 31 (0, 0))) ∧ Aside0 (Below w.heap.size w w'))
          case atStart => exact ⟨(t323), (0), (by first | rfl | (simp; done) | (simp [*]; done)), H', ⟨Nat.le_refl _⟩, ⟨by (with_reducible repeat (first | apply Kd.R_alloc | apply Kd.R_drewN | apply Kd.R_drew)); exact HO_5.out⟩, ⟨by (with_reducible repeat (first | apply Kd.R_alloc | apply Kd.R_drewN | apply Kd.R_drew)); exact HO_7.out⟩, ⟨by (with_reducible repeat (first | refine blk_drewN ?_ _ | refine blk_drew ?_ | refine blk_alloc ?_ _)); exact BK348.out⟩, ⟨by (with_reducible repeat (first | refine blk_drewN ?_ _ | refine blk_drew ?_ | refine blk_alloc ?_ _)); exact BK355.out⟩, ⟨by repeat (first | (with_reducible first | exact HB.out | apply below_alloc | apply pw_below_drewN | apply below_drew1 | refine below_set ?_ GE348.out | refine below_set ?_ GE355.out) | exact HB.out)⟩⟩
          case round =>
            clear H'
            try clear c1
            try clear c2
            try clear p2
            try clear c3
            try clear c3b0
            try clear c3b1
            try clear hcv3
            try clear c4
            try clear hcv4
            try clear c5
            try clear hcv5
            try clear c6
            try clear hcv6
            try clear hcv7
            try clear hcv8
            try clear c11
            try clear c21
            try clear c22
            try clear c23
            try clear c24
            try clear c25
            try clear c26
            try clear c27
            try clear c30
            try clear c30b0
            try clear c30b1
            try clear c31
            try clear c31b0
            try clear c31b1
            try clear c32
            try clear c32b0
            try clear c32b1
            try clear c33
            try clear c33b0
            try clear c33b1
            try clear c34
            try clear c34b0
            try clear c34b1
            try clear c35
            try clear c35b0
            try clear c35b1
            try clear c36
            try clear c36b0
            try clear c36b1
            try clear c36b2
            try clear c37
            try clear c37b0
            try clear c37b1
            try clear hcv38
            try clear hcv39
            try clear hcv41
            try clear hcv42
            try clear c43
            try clear hcv47
            try clear hcv48
            try clear hcv49
            try clear hcv50
            try clear hcv52
            try clear hcv53
            try clear c54
            try clear hcv58
            try clear hcv59
            try clear hcv60
            try clear hcv61
            try clear hcv63
            try clear hcv64
            try clear c65
            try clear hcv68
            try clear hcv69
            try clear hcv71
            try clear hcv72
            try clear hcv73
            try clear hcv74
            try clear hcv76
            try clear hcv77
            try clear hcv78
            try clear hcv79
            try clear hcv80
            try clear hcv81
            try clear hcv82
            try clear hcv83
            try clear hcz24_0
            try clear hcz24_1
            try clear hcz28_0
            try clear hcz28_1
            try clear hcz44_0
            try clear hcz44_1
            try clear hcz45_0
            try clear hcz45_1
            try clear hcz55_0
            try clear hcz55_1
            try clear hcz56_0
            try clear hcz56_1
            try clear hcz66_0
            try clear hcz66_1
            try clear hcz67_0
            try clear hcz67_1
            try clear hfz24_0
            try clear hfz24_1
            try clear hfz28_0
            try clear hfz28_1
            try clear hfz44_0
            try clear hfz44_1
            try clear hfz45_0
            try clear hfz45_1
            try clear hfz55_0
            try clear hfz55_1
            try clear hfz56_0
            try clear hfz56_1
            try clear hfz66_0
            try clear hfz66_1
            try clear hfz67_0
            try clear hfz67_1
            try clear p2
            obtain ⟨x7_2, x25_2, rfl, HA, HK2, HO_5, HO_7, BK348, BK355, HB⟩ := hrel
            cases gk with
            | zero => exact absurd HA.out (by simp [threshinglaw01_VarintTakes.l0])
            | succ k2 =>
              have H := HA.out
              clear HA
              simp only [threshinglaw01_VarintTakes.l0] at H
              by_cases c84 : x25_2 < (x7_2.length : Int)
              · rw [if_pos c84] at H
                have c84b0 : decide (x25_2 < (x7_2.length : Int)) = true := decide_eq_true c84
                clear c84
                by_cases c85 : 0 ≤ x25_2
                · rw [if_pos c85] at H
                  have c85b0 : decide (0 ≤ x25_2) = true := decide_eq_true c85
                  clear c85
                  obtain ⟨y356, hy356⟩ : ∃ y_ : List Int, y_ = (x7_2.set (x25_2 : Int).toNat 1) := ⟨_, rfl⟩
                  replace H : (threshinglaw01_VarintTakes.l0 k2 l0 y319 y356 x24_12 (wrap64 (x25_2 + 1))) = some r := by first | (rw [hy356]; with_reducible exact H) | (have H2_ := (Option.bind_some _ _).symm.trans H; rw [hy356]; with_reducible exact H2_) | (have H2_ := (Option.bind_some _ _).symm.trans H; with_reducible exact H2_) | with_reducible exact H | (rw [hy356]; exact H) | exact H
                  have Ny356 := Aside0.mk hy356
                  clear hy356
                  have H' := Aside0.mk H
                  clear H
                  obtain ⟨Ao87, co87, eo87⟩ := Kd.R_slice HO_7.out
                  subst eo87
                  have p86 : 0 ≤ (x25_2 : Int) := of_decide_eq_true (by first | (with_reducible assumption) | assumption)
                  have q86 : (x25_2 : Int) < ((x7_2.length : Int) : Int) := of_decide_eq_true (by first | (with_reducible assumption) | assumption)
                  obtain ⟨go86, co86, eo86, gb86, gl86, cl86, HG86⟩ := Kd.R_form HO_7.out (by omega)
                  (first | cases eo86 | (injection eo86 with ea_ en_ ec_; (first | subst ea_ | (injection ea_ with ea_; subst ea_)); subst ec_; clear en_))
                  have GB86 := Aside0.mk gb86
                  have GG86 := Aside0.mk HG86
                  clear gb86 gl86 HG86
                  obtain ⟨hx86_0, hf86_0⟩ := Kd.R_celln 0 HO_7.out (x25_2 : Int) p86 q86
                  replace p86 := eq_true p86
                  replace q86 := eq_true q86
                  have HP88 := Kd.R_putg HO_7.out (x25_2 : Int) 1
                  go_wp2_with (first | ((with_reducible refine gate_store (t := 5) (p := 130) rfl ?_); refine store_event (t := 5) (p := 130) (v := ?vo_w89) (w1 := (wr.setCell ⟨go86, (x25_2 : Int).toNat, none⟩ (.int .u8 1))) ?hg ?ho ?hn ?hr ?_; (case ho => rfl); (case hg => rfl); (case hn => rfl); (case hr => first | (go_simp; done) | (go_simp; rfl)); intro w89 hw; have hg : wr.grownBy w89 (some go86) := (by rw [hw]; exact HP88.2); have hp_ : Kd.R (Kd.int .u8) 5 w89 w.heap.size (fun k_ => some k_ ≠ (.slice Ao17 y319.length co17 : Value).ownBlock) (.slice (some ⟨go86, 0, none⟩) x7_2.length co87) y356 := (by rw [hw, Ny356.out]; exact HP88.1); clear HP88; have n0_ := Aside0.mk (Kd.R_after (v := (.slice (some ⟨go86, 0, none⟩) x7_2.length co87)) (v1 := (.slice (some ⟨go86, 0, none⟩) x7_2.length co87)) (ok := (fun _ => True)) (by (with_reducible repeat (first | apply Kd.R_alloc | apply Kd.R_drewN | apply Kd.R_drew)); exact Kd.R_mono HO_5.out (fun _ hk => ⟨trivial, hk⟩)) hg (.inl rfl)); have n1_ := Aside0.mk (hp_); have n2_ := Aside0.mk (blk_grown (g := gb348) (o := .cells #[.string t342, .string t343] 31 (0, 0)) (by (with_reducible repeat (first | refine blk_drewN ?_ _ | refine blk_drew ?_ | refine blk_alloc ?_ _)); exact BK348.out) hg (Kd.R_ne HO_7.out BK348.out (by decide))); have n3_ := Aside0.mk (blk_grown (g := gb355) (o := .cells #[.string t349, .string t350] 31 (0, 0)) (by (with_reducible repeat (first | refine blk_drewN ?_ _ | refine blk_drew ?_ | refine blk_alloc ?_ _)); exact BK355.out) hg (Kd.R_ne HO_7.out BK355.out (by decide))); have n4_ := Aside0.mk ((by rw [hw]; exact below_set (HB.out) GB86.out : Below w.heap.size w w89)); clear HO_5; clear HO_7; clear BK348; clear BK355; clear HB; have HO_5 := n0_; have HO_7 := n1_; have BK348 := n2_; have BK355 := n3_; have HB := n4_; clear n0_ n1_ n2_ n3_ n4_; clear hg hw hp_))
                  go_roundg k2
                  case measure => have := HJ12.out; have := HK2.out; omega
                  case rel => exact ⟨(y356), (wrap64 (x25_2 + 1)), (by first | rfl | (simp; done) | (simp [*]; done)), H', ⟨by have := HJ12.out; have := HK2.out; omega⟩, ⟨by (with_reducible repeat (first | apply Kd.R_alloc | apply Kd.R_drewN | apply Kd.R_drew)); exact Kd.R_mono HO_5.out (fun _ hk => hk.2)⟩, ⟨by (with_reducible repeat (first | apply Kd.R_alloc | apply Kd.R_drewN | apply Kd.R_drew)); exact HO_7.out⟩, ⟨by (with_reducible repeat (first | refine blk_drewN ?_ _ | refine blk_drew ?_ | refine blk_alloc ?_ _)); exact BK348.out⟩, ⟨by (with_reducible repeat (first | refine blk_drewN ?_ _ | refine blk_drew ?_ | refine blk_alloc ?_ _)); exact BK355.out⟩, ⟨by repeat (first | (with_reducible first | exact HB.out | apply below_alloc | apply pw_below_drewN | apply below_drew1 | refine below_set ?_ GE348.out | refine below_set ?_ GE355.out) | exact HB.out)⟩⟩
                · rw [if_neg c85] at H
                  exact absurd H (by simp)
              · rw [if_neg c84] at H
                have c84b0 : decide (x25_2 < (x7_2.length : Int)) = false := decide_eq_false c84
                clear c84
                replace H := Option.bind_eq_some_iff.mp H
                obtain ⟨t357, A900, H⟩ := H
                replace H : (if t357 = true then (if x24_12 = true then (some ((strOfNums y319).toList == (strOfNums l0).toList)) else (some false)) else (some false)) = some r := H
                have A90 := Aside0.mk A900
                clear A900
                by_cases c91 : t357 = true
                · subst c91
                  have H1 : (if x24_12 = true then (some ((strOfNums y319).toList == (strOfNums l0).toList)) else (some false)) = some r := by rw [if_pos rfl] at H; exact H
                  clear H
                  have H := H1
                  clear H1
                  by_cases c92 : x24_12 = true
                  · subst c92
                    have H1 : (some ((strOfNums y319).toList == (strOfNums l0).toList)) = some r := by rw [if_pos rfl] at H; exact H
                    clear H
                    have H := H1
                    clear H1
                    obtain rfl := Option.some.inj H
                    obtain ⟨Ao93, co93, eo93⟩ := Kd.R_slice HO_7.out
                    subst eo93
                    go_wp2_with (first | ((with_reducible refine gate_callee (f := 11) rfl ?_); refine goesL_ (some 131) rfl rfl Try.func11 (by kernel_rfl) rfl #[] rfl (by (try simp only [List.map_toArray, List.map_cons, List.map_nil]); first | done | rfl | (simp only [List.length_drop, List.length_take]; rfl)) ?_; (with_reducible refine (threshinglaw01_alive.calls k2  true _ A90.out).mono ?_); rintro e w94 ⟨rfl, hb⟩; refine ⟨_, rfl, ?_⟩; have n0_ := Aside0.mk (Kd.R_below (by (with_reducible repeat (first | apply Kd.R_alloc | apply Kd.R_drewN | apply Kd.R_drew)); exact HO_5.out) hb); have n1_ := Aside0.mk (Kd.R_below (by (with_reducible repeat (first | apply Kd.R_alloc | apply Kd.R_drewN | apply Kd.R_drew)); exact HO_7.out) hb); have n2_ := Aside0.mk (blk_below (g := gb348) (o := .cells #[.string t342, .string t343] 31 (0, 0)) (by (with_reducible repeat (first | refine blk_drewN ?_ _ | refine blk_drew ?_ | refine blk_alloc ?_ _)); exact BK348.out) hb); have n3_ := Aside0.mk (blk_below (g := gb355) (o := .cells #[.string t349, .string t350] 31 (0, 0)) (by (with_reducible repeat (first | refine blk_drewN ?_ _ | refine blk_drew ?_ | refine blk_alloc ?_ _)); exact BK355.out) hb); have n4_ := Aside0.mk (below_step (by repeat (first | (with_reducible first | exact HB.out | apply below_alloc | apply pw_below_drewN | apply below_drew1 | refine below_set ?_ GE348.out | refine below_set ?_ GE355.out) | exact HB.out)) hb); clear HO_5; clear HO_7; clear BK348; clear BK355; clear HB; have HO_5 := n0_; have HO_7 := n1_; have BK348 := n2_; have BK355 := n3_; have HB := n4_; clear n0_ n1_ n2_ n3_ n4_; (try clear hb); (try clear hb2); (try clear hk); (try clear hi); have hcv95 := own_string (P := Try.prog) Try.underlying24 Try.underlying5 Try.underlying9 (Kd.own_of_R HO_5.out); have hcv96 := Kd.C_string (P := Try.prog) (A := A0) (c := c0) Try.underlying24 Try.underlying5 Try.underlying9 (Kd.C_below HR0.out HB.out)))
                    first | go_ret | ((try simp only [Exit.inBlock, Exit.then]); refine bodyPost_ret (v := ?vv_) ?rr_ ?dd_ ?pp_; (case rr_ => exact results_tmp rfl _ _ _); (case dd_ => rfl))
                    exact ⟨by first | rfl | (simp [errW_none, errW_some] <;> rfl) | (simp [*, errW_none, errW_some] <;> rfl), by repeat (first | (with_reducible first | exact HB.out | apply below_alloc | apply pw_below_drewN | apply below_drew1 | refine below_set ?_ GE348.out | refine below_set ?_ GE355.out) | exact HB.out)⟩
                  · replace c92 := Bool.eq_false_iff.mpr c92
                    subst c92
                    have H1 : (some false) = some r := by rw [if_neg (show ¬ (false = true) by decide)] at H; exact H
                    clear H
                    have H := H1
                    clear H1
                    obtain rfl := Option.some.inj H
                    obtain ⟨Ao97, co97, eo97⟩ := Kd.R_slice HO_7.out
                    subst eo97
                    go_wp2_with (first | ((with_reducible refine gate_callee (f := 11) rfl ?_); refine goesL_ (some 131) rfl rfl Try.func11 (by kernel_rfl) rfl #[] rfl (by (try simp only [List.map_toArray, List.map_cons, List.map_nil]); first | done | rfl | (simp only [List.length_drop, List.length_take]; rfl)) ?_; (with_reducible refine (threshinglaw01_alive.calls k2  true _ A90.out).mono ?_); rintro e w98 ⟨rfl, hb⟩; refine ⟨_, rfl, ?_⟩; have n0_ := Aside0.mk (Kd.R_below (by (with_reducible repeat (first | apply Kd.R_alloc | apply Kd.R_drewN | apply Kd.R_drew)); exact HO_5.out) hb); have n1_ := Aside0.mk (Kd.R_below (by (with_reducible repeat (first | apply Kd.R_alloc | apply Kd.R_drewN | apply Kd.R_drew)); exact HO_7.out) hb); have n2_ := Aside0.mk (blk_below (g := gb348) (o := .cells #[.string t342, .string t343] 31 (0, 0)) (by (with_reducible repeat (first | refine blk_drewN ?_ _ | refine blk_drew ?_ | refine blk_alloc ?_ _)); exact BK348.out) hb); have n3_ := Aside0.mk (blk_below (g := gb355) (o := .cells #[.string t349, .string t350] 31 (0, 0)) (by (with_reducible repeat (first | refine blk_drewN ?_ _ | refine blk_drew ?_ | refine blk_alloc ?_ _)); exact BK355.out) hb); have n4_ := Aside0.mk (below_step (by repeat (first | (with_reducible first | exact HB.out | apply below_alloc | apply pw_below_drewN | apply below_drew1 | refine below_set ?_ GE348.out | refine below_set ?_ GE355.out) | exact HB.out)) hb); clear HO_5; clear HO_7; clear BK348; clear BK355; clear HB; have HO_5 := n0_; have HO_7 := n1_; have BK348 := n2_; have BK355 := n3_; have HB := n4_; clear n0_ n1_ n2_ n3_ n4_; (try clear hb); (try clear hb2); (try clear hk); (try clear hi)))
                    first | go_ret | ((try simp only [Exit.inBlock, Exit.then]); refine bodyPost_ret (v := ?vv_) ?rr_ ?dd_ ?pp_; (case rr_ => exact results_tmp rfl _ _ _); (case dd_ => rfl))
                    exact ⟨by first | rfl | (simp [errW_none, errW_some] <;> rfl) | (simp [*, errW_none, errW_some] <;> rfl), by repeat (first | (with_reducible first | exact HB.out | apply below_alloc | apply pw_below_drewN | apply below_drew1 | refine below_set ?_ GE348.out | refine below_set ?_ GE355.out) | exact HB.out)⟩
                · replace c91 := Bool.eq_false_iff.mpr c91
                  subst c91
                  have H1 : (some false) = some r := by rw [if_neg (show ¬ (false = true) by decide)] at H; exact H
                  clear H
                  have H := H1
                  clear H1
                  obtain rfl := Option.some.inj H
                  obtain ⟨Ao99, co99, eo99⟩ := Kd.R_slice HO_7.out
                  subst eo99
                  go_wp2_with (first | ((with_reducible refine gate_callee (f := 11) rfl ?_); refine goesL_ (some 131) rfl rfl Try.func11 (by kernel_rfl) rfl #[] rfl (by (try simp only [List.map_toArray, List.map_cons, List.map_nil]); first | done | rfl | (simp only [List.length_drop, List.length_take]; rfl)) ?_; (with_reducible refine (threshinglaw01_alive.calls k2  false _ A90.out).mono ?_); rintro e w100 ⟨rfl, hb⟩; refine ⟨_, rfl, ?_⟩; have n0_ := Aside0.mk (Kd.R_below (by (with_reducible repeat (first | apply Kd.R_alloc | apply Kd.R_drewN | apply Kd.R_drew)); exact HO_5.out) hb); have n1_ := Aside0.mk (Kd.R_below (by (with_reducible repeat (first | apply Kd.R_alloc | apply Kd.R_drewN | apply Kd.R_drew)); exact HO_7.out) hb); have n2_ := Aside0.mk (blk_below (g := gb348) (o := .cells #[.string t342, .string t343] 31 (0, 0)) (by (with_reducible repeat (first | refine blk_drewN ?_ _ | refine blk_drew ?_ | refine blk_alloc ?_ _)); exact BK348.out) hb); have n3_ := Aside0.mk (blk_below (g := gb355) (o := .cells #[.string t349, .string t350] 31 (0, 0)) (by (with_reducible repeat (first | refine blk_drewN ?_ _ | refine blk_drew ?_ | refine blk_alloc ?_ _)); exact BK355.out) hb); have n4_ := Aside0.mk (below_step (by repeat (first | (with_reducible first | exact HB.out | apply below_alloc | apply pw_below_drewN | apply below_drew1 | refine below_set ?_ GE348.out | refine below_set ?_ GE355.out) | exact HB.out)) hb); clear HO_5; clear HO_7; clear BK348; clear BK355; clear HB; have HO_5 := n0_; have HO_7 := n1_; have BK348 := n2_; have BK355 := n3_; have HB := n4_; clear n0_ n1_ n2_ n3_ n4_; (try clear hb); (try clear hb2); (try clear hk); (try clear hi)))
                  first | go_ret | ((try simp only [Exit.inBlock, Exit.then]); refine bodyPost_ret (v := ?vv_) ?rr_ ?dd_ ?pp_; (case rr_ => exact results_tmp rfl _ _ _); (case dd_ => rfl))
                  exact ⟨by first | rfl | (simp [errW_none, errW_some] <;> rfl) | (simp [*, errW_none, errW_some] <;> rfl), by repeat (first | (with_reducible first | exact HB.out | apply below_alloc | apply pw_below_drewN | apply below_drew1 | refine below_set ?_ GE348.out | refine below_set ?_ GE355.out) | exact HB.out)⟩
    · rw [if_neg c6] at H
      exact absurd H (by simp)

/-- THE ONE PURE STATEMENT of threshinglaw01_VarintTakes: yours. -/
def threshinglaw01_VarintTakes.Pure : Prop := ∀ (l0 : List Int) (a1 : Int), l0.length ≤ maxLen → l0.length * 1 ≤ 140737488351232 → (∀ x ∈ l0, (Lit.int .u8 x).wf = true) → (Lit.int .i64 a1).wf = true → ∃ k, threshinglaw01_VarintTakes.f k l0 a1 = some true
theorem threshinglaw01_VarintTakes.walk (P : threshinglaw01_VarintTakes.Pure) (a0 : Option Addr) (len0 cap0 : Nat) (z0 : List Int) (a1 : Int) (w : World) (w0 : (a0 = none ∧ len0 = 0 ∧ cap0 = 0 ∧ z0 = []) ∨ ∃ x, a0 = some x ∧ len0 ≤ cap0 ∧ cap0 ≤ maxLen ∧ z0.length = cap0 ∧ (∀ i, i < z0.length → w.cell? (x.add i) = some (.int .u8 (z0.getD i 0))) ∧ ∀ n ∈ z0, (Lit.int .u8 n).wf = true) (y0 : len0 * 1 ≤ 140737488351232) (w1 : (Lit.int .i64 a1).wf = true) :
    Calls Try.prog 6 #[.slice a0 len0 cap0, .int .i64 a1] w fun e w' => e = .returned (.bool true) ∧ Below w.heap.size w w' := by
  obtain ⟨l0, rfl, hr0, hm0, hw0, hc0⟩ := ReadsInt.ofRowC w0
  obtain ⟨k, h⟩ := P l0 a1 hm0 y0 hw0 w1
  refine (threshinglaw01_VarintTakes.calls k _ _ l0 a1 true w (Kd.C_of_reads (d := (0 : Int)) (h1 := fun _ => rfl) hr0) hc0 h).mono ?_
  rintro e w' ⟨rfl, hd⟩
  exact ⟨rfl, hd⟩

end Go.Proofs.Ytcdhambknkfhjaa.PA
