/- Part 3 of the proof of TaskPlays: what the program's functions come to. -/
import Derived.Test.YtkjibelcaeanjaaJTaskPlays2
import Derived.Test.YtkjibelcaeanjaaL2
import Derived.Test.YtkjibelcaeanjaaL3
import Derived.Test.YtkjibelcaeanjaaProg
/- One act, on both tables. -/
namespace Go.Proofs.Ytkjibelcaeanjaa.E
open Go Go.RowKit Go.Proofs
set_option linter.unusedVariables false
set_option linter.unusedSimpArgs false
def actT (t : Tb) (kd i n w now : Int) : Tb :=
  if kd = 1 then (startT t i w now).1 else if kd = 7 then (startT t (nextT t w now).1 w now).1 else if kd = 2 then beatT t i n now else if kd = 3 then finishT t i n else if kd = 4 then failT t i n
  else if kd = 5 then expT t now else if kd = 6 then loseT t i n else t
theorem timed_at {t : Tb} (h : timedT t = true) : ∀ k ∈ t.l, ∀ x ∈ k.tr, 0 ≤ x.b ∧ x.b ≤ 1000000000 := fun k hk x hx => by
  have h1 := List.all_eq_true.1 (List.all_eq_true.1 h k hk) x hx
  simpa [okB] using h1
/-- What each act keeps. -/
theorem act_keeps {t : Tb} (hma : mayT t = true) (ht : timedT t = true) (kd i n w now : Int) (hn : 0 ≤ now ∧ now ≤ 1000000000) {b : Int} (hfl : failsT t b) (hb : b ≤ 1000) :
    mayT (actT t kd i n w now) = true ∧ timedT (actT t kd i n w now) = true ∧ failsT (actT t kd i n w now) (b + 1) := by
  have up : ∀ {u : Tb}, mayT u = true ∧ timedT u = true → failsT u b → mayT u = true ∧ timedT u = true ∧ failsT u (b + 1) := fun h1 h2 => ⟨h1.1, h1.2, fun k hk => by have := h2 k hk; omega⟩
  unfold actT
  split
  · exact up (start_keeps hma ht i w now hn) (start_fails hfl i w now)
  split
  · exact up (start_keeps hma ht _ w now hn) (start_fails hfl _ w now)
  split
  · exact up (beat_keeps hma ht i n now hn) (beat_fails hfl i n now)
  split
  · exact up (finish_keeps hma ht i n) (finish_fails hfl i n)
  split
  · exact fail_keeps hma ht i n hfl hb
  split
  · obtain ⟨h1, h2, h3⟩ := expire_keeps hma ht now hfl
    exact up ⟨h1, h2⟩ h3
  split
  · exact up (lose_keeps hma ht i n) (lose_fails hfl i n)
  · exact up ⟨hma, ht⟩ hfl
def tbC (t : Tb) : List PV := [.int .i64 t.cap, .int .i64 t.tm, .lst 3 (t.l.map tkV) false]
def tb0 : List PV := [.int .i64 0, .int .i64 0, .lst 0 [] true]
theorem kinds (kd : Int) : kd = 1 ∨ kd = 7 ∨ kd = 2 ∨ kd = 3 ∨ kd = 4 ∨ kd = 5 ∨ kd = 6 ∨ (¬ kd = 1 ∧ ¬ kd = 7 ∧ ¬ kd = 2 ∧ ¬ kd = 3 ∧ ¬ kd = 4 ∧ ¬ kd = 5 ∧ ¬ kd = 6) := by omega
set_option maxRecDepth 8000 in
set_option maxHeartbeats 16000000 in
theorem act_ok (t : Tb) (kd i n w now : Int) (hma : mayT t = true) (ht : timedT t = true) (hn : 0 ≤ now ∧ now ≤ 1000000000) {b : Int} (hfl : failsT t b) (hbb : b ≤ 1000) :
    PSpec Try.prog 18 [tbV t, tbV t, .agg [.int .i64 kd, .int .i64 i, .int .i64 n, .int .i64 w, .int .i64 now]] (.tup [tbV (actT t kd i n w now), tbV (actT t kd i n w now), .bool true]) := by
  intro H
  obtain ⟨hma', -, -⟩ := act_keeps hma ht kd i n w now hn hfl hbb
  have hb := timed_at ht
  have hs := may_small hma
  have hs' := may_small hma'
  have hpl := plain_ok _ hs'
  have hsm := refSame_ok _ hs'
  refine spec_of t18 (by simp [p18]) ?_
  simp only [p18]
  first | refine pwp_sr ?_ | refine pwp_regionM ?_
  intro K hK
  simp [runM_nil, tbV]
  intro b3 h_b3
  try simp [runM_nil, tbV]
  intro b4 h_b4
  have d_b4_b3 : ¬ b3 = b4 := fun e => by subst e; simp [hget] at h_b4
  try simp [runM_nil, tbV, d_b4_b3, Ne.symm d_b4_b3]
  intro b6 h_b6
  have d_b6_b3 : ¬ b3 = b6 := fun e => by subst e; simp [hget, d_b4_b3, Ne.symm d_b4_b3] at h_b6
  have d_b6_b4 : ¬ b4 = b6 := fun e => by subst e; simp [hget, d_b4_b3, Ne.symm d_b4_b3] at h_b6
  try simp [runM_nil, tbV, d_b4_b3, Ne.symm d_b4_b3, d_b6_b3, Ne.symm d_b6_b3, d_b6_b4, Ne.symm d_b6_b4]
  intro b7 h_b7
  have d_b7_b3 : ¬ b3 = b7 := fun e => by subst e; simp [hget, d_b4_b3, Ne.symm d_b4_b3, d_b6_b3, Ne.symm d_b6_b3, d_b6_b4, Ne.symm d_b6_b4] at h_b7
  have d_b7_b4 : ¬ b4 = b7 := fun e => by subst e; simp [hget, d_b4_b3, Ne.symm d_b4_b3, d_b6_b3, Ne.symm d_b6_b3, d_b6_b4, Ne.symm d_b6_b4] at h_b7
  have d_b7_b6 : ¬ b6 = b7 := fun e => by subst e; simp [hget, d_b4_b3, Ne.symm d_b4_b3, d_b6_b3, Ne.symm d_b6_b3, d_b6_b4, Ne.symm d_b6_b4] at h_b7
  try simp [runM_nil, tbV, d_b4_b3, Ne.symm d_b4_b3, d_b6_b3, Ne.symm d_b6_b3, d_b6_b4, Ne.symm d_b6_b4, d_b7_b3, Ne.symm d_b7_b3, d_b7_b4, Ne.symm d_b7_b4, d_b7_b6, Ne.symm d_b7_b6]
  refine hK _ _ ?_
  clear hK K
  first | refine pwp_sr ?_ | refine pwp_regionM ?_
  intro K hK
  simp [runM_nil, d_b4_b3, Ne.symm d_b4_b3, d_b6_b3, Ne.symm d_b6_b3, d_b6_b4, Ne.symm d_b6_b4, d_b7_b3, Ne.symm d_b7_b3, d_b7_b4, Ne.symm d_b7_b4, d_b7_b6, Ne.symm d_b7_b6]
  refine hK _ _ ?_
  clear hK K
  refine pwp_cut [3, 4, 6, 7, 9] (fun st2 H2 => st2 = MS 246 [(3, .ptr (some (b3, 0))), (4, .ptr (some (b4, 0))), (6, .ptr (some (b6, 0))), (7, .ptr (some (b7, 0))), (9, .bool true)] ∧
    H2 = (b7, tb0) :: (b6, tb0) :: (b4, tbC (actT t kd i n w now)) :: (b3, tbC (actT t kd i n w now)) :: H) ?_ ?_
  · clear hpl hsm hs' hma'
    first | refine pwp_sr ?_ | refine pwp_regionM ?_
    intro K hK
    simp [runM_nil, d_b4_b3, Ne.symm d_b4_b3, d_b6_b3, Ne.symm d_b6_b3, d_b6_b4, Ne.symm d_b6_b4, d_b7_b3, Ne.symm d_b7_b3, d_b7_b4, Ne.symm d_b7_b4, d_b7_b6, Ne.symm d_b7_b6]
    refine hK _ _ ?_
    clear hK K
    refine pwp_block ?_
    rcases kinds kd with rfl | rfl | rfl | rfl | rfl | rfl | rfl | ⟨k1, k7, k2, k3, k4, k5, k6⟩
    · skip
      have c1 := Start_ok t i w now hs
      have c2 := refStart_ok t i w now hs hma
      simp only [tbV] at c1 c2
      first | refine pwp_rif ?_ | refine pwp_rifE ?_
      intro K hK
      simp [runM_nil, d_b4_b3, Ne.symm d_b4_b3, d_b6_b3, Ne.symm d_b6_b3, d_b6_b4, Ne.symm d_b6_b4, d_b7_b3, Ne.symm d_b7_b3, d_b7_b4, Ne.symm d_b7_b4, d_b7_b6, Ne.symm d_b7_b6]
      refine hK _ _ ?_
      clear hK K
      refine ifT (by simp [runM_nil]) (pwp_skip ?_)
      refine pwp_cT (by simp [runM_nil]) ?_
      first | refine pwp_sr ?_ | refine pwp_regionM ?_
      intro K hK
      simp [runM_nil, d_b4_b3, Ne.symm d_b4_b3, d_b6_b3, Ne.symm d_b6_b3, d_b6_b4, Ne.symm d_b6_b4, d_b7_b3, Ne.symm d_b7_b3, d_b7_b4, Ne.symm d_b7_b4, d_b7_b6, Ne.symm d_b7_b6]
      refine hK _ _ ?_
      clear hK K
      first | refine pwp_rif ?_ | refine pwp_rifE ?_
      intro K hK
      simp [runM_nil, d_b4_b3, Ne.symm d_b4_b3, d_b6_b3, Ne.symm d_b6_b3, d_b6_b4, Ne.symm d_b6_b4, d_b7_b3, Ne.symm d_b7_b3, d_b7_b4, Ne.symm d_b7_b4, d_b7_b6, Ne.symm d_b7_b6]
      refine hK _ _ ?_
      clear hK K
      refine ifF (by simp [runM_nil]) (pwp_skip ?_)
      first | refine pwp_sr ?_ | refine pwp_regionM ?_
      intro K hK
      simp [runM_nil, tbV, d_b4_b3, Ne.symm d_b4_b3, d_b6_b3, Ne.symm d_b6_b3, d_b6_b4, Ne.symm d_b6_b4, d_b7_b3, Ne.symm d_b7_b3, d_b7_b4, Ne.symm d_b7_b4, d_b7_b6, Ne.symm d_b7_b6]
      refine useP (c1) ?_
      simp [runM_nil, tbV, d_b4_b3, Ne.symm d_b4_b3, d_b6_b3, Ne.symm d_b6_b3, d_b6_b4, Ne.symm d_b6_b4, d_b7_b3, Ne.symm d_b7_b3, d_b7_b4, Ne.symm d_b7_b4, d_b7_b6, Ne.symm d_b7_b6]
      intro b15 h_b15
      have d_b15_b3 : ¬ b3 = b15 := fun e => by subst e; simp [hget, d_b4_b3, Ne.symm d_b4_b3, d_b6_b3, Ne.symm d_b6_b3, d_b6_b4, Ne.symm d_b6_b4, d_b7_b3, Ne.symm d_b7_b3, d_b7_b4, Ne.symm d_b7_b4, d_b7_b6, Ne.symm d_b7_b6] at h_b15
      have d_b15_b4 : ¬ b4 = b15 := fun e => by subst e; simp [hget, d_b4_b3, Ne.symm d_b4_b3, d_b6_b3, Ne.symm d_b6_b3, d_b6_b4, Ne.symm d_b6_b4, d_b7_b3, Ne.symm d_b7_b3, d_b7_b4, Ne.symm d_b7_b4, d_b7_b6, Ne.symm d_b7_b6] at h_b15
      have d_b15_b6 : ¬ b6 = b15 := fun e => by subst e; simp [hget, d_b4_b3, Ne.symm d_b4_b3, d_b6_b3, Ne.symm d_b6_b3, d_b6_b4, Ne.symm d_b6_b4, d_b7_b3, Ne.symm d_b7_b3, d_b7_b4, Ne.symm d_b7_b4, d_b7_b6, Ne.symm d_b7_b6] at h_b15
      have d_b15_b7 : ¬ b7 = b15 := fun e => by subst e; simp [hget, d_b4_b3, Ne.symm d_b4_b3, d_b6_b3, Ne.symm d_b6_b3, d_b6_b4, Ne.symm d_b6_b4, d_b7_b3, Ne.symm d_b7_b3, d_b7_b4, Ne.symm d_b7_b4, d_b7_b6, Ne.symm d_b7_b6] at h_b15
      try simp [runM_nil, tbV, d_b4_b3, Ne.symm d_b4_b3, d_b6_b3, Ne.symm d_b6_b3, d_b6_b4, Ne.symm d_b6_b4, d_b7_b3, Ne.symm d_b7_b3, d_b7_b4, Ne.symm d_b7_b4, d_b7_b6, Ne.symm d_b7_b6, d_b15_b3, Ne.symm d_b15_b3, d_b15_b4, Ne.symm d_b15_b4, d_b15_b6, Ne.symm d_b15_b6, d_b15_b7, Ne.symm d_b15_b7]
      refine hK _ _ ?_
      clear hK K
      first | refine pwp_sr ?_ | refine pwp_regionM ?_
      intro K hK
      simp [runM_nil, tbV, d_b4_b3, Ne.symm d_b4_b3, d_b6_b3, Ne.symm d_b6_b3, d_b6_b4, Ne.symm d_b6_b4, d_b7_b3, Ne.symm d_b7_b3, d_b7_b4, Ne.symm d_b7_b4, d_b7_b6, Ne.symm d_b7_b6, d_b15_b3, Ne.symm d_b15_b3, d_b15_b4, Ne.symm d_b15_b4, d_b15_b6, Ne.symm d_b15_b6, d_b15_b7, Ne.symm d_b15_b7]
      refine useP (c2) ?_
      simp [runM_nil, tbV, d_b4_b3, Ne.symm d_b4_b3, d_b6_b3, Ne.symm d_b6_b3, d_b6_b4, Ne.symm d_b6_b4, d_b7_b3, Ne.symm d_b7_b3, d_b7_b4, Ne.symm d_b7_b4, d_b7_b6, Ne.symm d_b7_b6, d_b15_b3, Ne.symm d_b15_b3, d_b15_b4, Ne.symm d_b15_b4, d_b15_b6, Ne.symm d_b15_b6, d_b15_b7, Ne.symm d_b15_b7]
      intro b18 h_b18
      have d_b18_b3 : ¬ b3 = b18 := fun e => by subst e; simp [hget, d_b4_b3, Ne.symm d_b4_b3, d_b6_b3, Ne.symm d_b6_b3, d_b6_b4, Ne.symm d_b6_b4, d_b7_b3, Ne.symm d_b7_b3, d_b7_b4, Ne.symm d_b7_b4, d_b7_b6, Ne.symm d_b7_b6, d_b15_b3, Ne.symm d_b15_b3, d_b15_b4, Ne.symm d_b15_b4, d_b15_b6, Ne.symm d_b15_b6, d_b15_b7, Ne.symm d_b15_b7] at h_b18
      have d_b18_b4 : ¬ b4 = b18 := fun e => by subst e; simp [hget, d_b4_b3, Ne.symm d_b4_b3, d_b6_b3, Ne.symm d_b6_b3, d_b6_b4, Ne.symm d_b6_b4, d_b7_b3, Ne.symm d_b7_b3, d_b7_b4, Ne.symm d_b7_b4, d_b7_b6, Ne.symm d_b7_b6, d_b15_b3, Ne.symm d_b15_b3, d_b15_b4, Ne.symm d_b15_b4, d_b15_b6, Ne.symm d_b15_b6, d_b15_b7, Ne.symm d_b15_b7] at h_b18
      have d_b18_b6 : ¬ b6 = b18 := fun e => by subst e; simp [hget, d_b4_b3, Ne.symm d_b4_b3, d_b6_b3, Ne.symm d_b6_b3, d_b6_b4, Ne.symm d_b6_b4, d_b7_b3, Ne.symm d_b7_b3, d_b7_b4, Ne.symm d_b7_b4, d_b7_b6, Ne.symm d_b7_b6, d_b15_b3, Ne.symm d_b15_b3, d_b15_b4, Ne.symm d_b15_b4, d_b15_b6, Ne.symm d_b15_b6, d_b15_b7, Ne.symm d_b15_b7] at h_b18
      have d_b18_b7 : ¬ b7 = b18 := fun e => by subst e; simp [hget, d_b4_b3, Ne.symm d_b4_b3, d_b6_b3, Ne.symm d_b6_b3, d_b6_b4, Ne.symm d_b6_b4, d_b7_b3, Ne.symm d_b7_b3, d_b7_b4, Ne.symm d_b7_b4, d_b7_b6, Ne.symm d_b7_b6, d_b15_b3, Ne.symm d_b15_b3, d_b15_b4, Ne.symm d_b15_b4, d_b15_b6, Ne.symm d_b15_b6, d_b15_b7, Ne.symm d_b15_b7] at h_b18
      have d_b18_b15 : ¬ b15 = b18 := fun e => by subst e; simp [hget, d_b4_b3, Ne.symm d_b4_b3, d_b6_b3, Ne.symm d_b6_b3, d_b6_b4, Ne.symm d_b6_b4, d_b7_b3, Ne.symm d_b7_b3, d_b7_b4, Ne.symm d_b7_b4, d_b7_b6, Ne.symm d_b7_b6, d_b15_b3, Ne.symm d_b15_b3, d_b15_b4, Ne.symm d_b15_b4, d_b15_b6, Ne.symm d_b15_b6, d_b15_b7, Ne.symm d_b15_b7] at h_b18
      try simp [runM_nil, tbV, d_b4_b3, Ne.symm d_b4_b3, d_b6_b3, Ne.symm d_b6_b3, d_b6_b4, Ne.symm d_b6_b4, d_b7_b3, Ne.symm d_b7_b3, d_b7_b4, Ne.symm d_b7_b4, d_b7_b6, Ne.symm d_b7_b6, d_b15_b3, Ne.symm d_b15_b3, d_b15_b4, Ne.symm d_b15_b4, d_b15_b6, Ne.symm d_b15_b6, d_b15_b7, Ne.symm d_b15_b7, d_b18_b3, Ne.symm d_b18_b3, d_b18_b4, Ne.symm d_b18_b4, d_b18_b6, Ne.symm d_b18_b6, d_b18_b7, Ne.symm d_b18_b7, d_b18_b15, Ne.symm d_b18_b15]
      refine hK _ _ ?_
      clear hK K
      first | refine pwp_sr ?_ | refine pwp_regionM ?_
      intro K hK
      simp [runM_nil, d_b4_b3, Ne.symm d_b4_b3, d_b6_b3, Ne.symm d_b6_b3, d_b6_b4, Ne.symm d_b6_b4, d_b7_b3, Ne.symm d_b7_b3, d_b7_b4, Ne.symm d_b7_b4, d_b7_b6, Ne.symm d_b7_b6, d_b15_b3, Ne.symm d_b15_b3, d_b15_b4, Ne.symm d_b15_b4, d_b15_b6, Ne.symm d_b15_b6, d_b15_b7, Ne.symm d_b15_b7, d_b18_b3, Ne.symm d_b18_b3, d_b18_b4, Ne.symm d_b18_b4, d_b18_b6, Ne.symm d_b18_b6, d_b18_b7, Ne.symm d_b18_b7, d_b18_b15, Ne.symm d_b18_b15]
      refine hK _ _ ?_
      clear hK K
      first | refine pwp_sr ?_ | refine pwp_regionM ?_
      intro K hK
      simp [runM_nil, d_b4_b3, Ne.symm d_b4_b3, d_b6_b3, Ne.symm d_b6_b3, d_b6_b4, Ne.symm d_b6_b4, d_b7_b3, Ne.symm d_b7_b3, d_b7_b4, Ne.symm d_b7_b4, d_b7_b6, Ne.symm d_b7_b6, d_b15_b3, Ne.symm d_b15_b3, d_b15_b4, Ne.symm d_b15_b4, d_b15_b6, Ne.symm d_b15_b6, d_b15_b7, Ne.symm d_b15_b7, d_b18_b3, Ne.symm d_b18_b3, d_b18_b4, Ne.symm d_b18_b4, d_b18_b6, Ne.symm d_b18_b6, d_b18_b7, Ne.symm d_b18_b7, d_b18_b15, Ne.symm d_b18_b15]
      refine hK _ _ ?_
      clear hK K
      refine pwp_regionM ?_
      intro K hK
      simp [runM_nil, d_b4_b3, Ne.symm d_b4_b3, d_b6_b3, Ne.symm d_b6_b3, d_b6_b4, Ne.symm d_b6_b4, d_b7_b3, Ne.symm d_b7_b3, d_b7_b4, Ne.symm d_b7_b4, d_b7_b6, Ne.symm d_b7_b6, d_b15_b3, Ne.symm d_b15_b3, d_b15_b4, Ne.symm d_b15_b4, d_b15_b6, Ne.symm d_b15_b6, d_b15_b7, Ne.symm d_b15_b7, d_b18_b3, Ne.symm d_b18_b3, d_b18_b4, Ne.symm d_b18_b4, d_b18_b6, Ne.symm d_b18_b6, d_b18_b7, Ne.symm d_b18_b7, d_b18_b15, Ne.symm d_b18_b15]
      refine hK _ _ ?_
      clear hK K
      exact cut_to (by simp [keepA, getS]) (.cons _ (.cons _ (.refl _))) ⟨rfl, by simp [tbC, tb0, actT]⟩
    · skip
      have c3 := Next_ok t w now hs hn hb
      have c4 := refNext_ok t w now hs hma hn hb
      have c1 := Start_ok t (nextT t w now).1 w now hs
      have c2 := refStart_ok t (nextT t w now).1 w now hs hma
      simp only [tbV] at c1 c2 c3 c4
      first | refine pwp_rif ?_ | refine pwp_rifE ?_
      intro K hK
      simp [runM_nil, d_b4_b3, Ne.symm d_b4_b3, d_b6_b3, Ne.symm d_b6_b3, d_b6_b4, Ne.symm d_b6_b4, d_b7_b3, Ne.symm d_b7_b3, d_b7_b4, Ne.symm d_b7_b4, d_b7_b6, Ne.symm d_b7_b6]
      refine hK _ _ ?_
      clear hK K
      refine ifF (by simp [runM_nil]) ?_
      refine pwp_regionM ?_
      intro K hK
      simp [runM_nil, d_b4_b3, Ne.symm d_b4_b3, d_b6_b3, Ne.symm d_b6_b3, d_b6_b4, Ne.symm d_b6_b4, d_b7_b3, Ne.symm d_b7_b3, d_b7_b4, Ne.symm d_b7_b4, d_b7_b6, Ne.symm d_b7_b6]
      refine hK _ _ ?_
      clear hK K
      refine pwp_cT (by simp [runM_nil]) ?_
      first | refine pwp_sr ?_ | refine pwp_regionM ?_
      intro K hK
      simp [runM_nil, d_b4_b3, Ne.symm d_b4_b3, d_b6_b3, Ne.symm d_b6_b3, d_b6_b4, Ne.symm d_b6_b4, d_b7_b3, Ne.symm d_b7_b3, d_b7_b4, Ne.symm d_b7_b4, d_b7_b6, Ne.symm d_b7_b6]
      refine hK _ _ ?_
      clear hK K
      first | refine pwp_rif ?_ | refine pwp_rifE ?_
      intro K hK
      simp [runM_nil, d_b4_b3, Ne.symm d_b4_b3, d_b6_b3, Ne.symm d_b6_b3, d_b6_b4, Ne.symm d_b6_b4, d_b7_b3, Ne.symm d_b7_b3, d_b7_b4, Ne.symm d_b7_b4, d_b7_b6, Ne.symm d_b7_b6]
      refine hK _ _ ?_
      clear hK K
      refine ifT (by simp [runM_nil]) ?_
      first | refine pwp_sr ?_ | refine pwp_regionM ?_
      intro K hK
      simp [runM_nil, tbV, d_b4_b3, Ne.symm d_b4_b3, d_b6_b3, Ne.symm d_b6_b3, d_b6_b4, Ne.symm d_b6_b4, d_b7_b3, Ne.symm d_b7_b3, d_b7_b4, Ne.symm d_b7_b4, d_b7_b6, Ne.symm d_b7_b6]
      refine useP (c3) ?_
      simp [runM_nil, tbV, d_b4_b3, Ne.symm d_b4_b3, d_b6_b3, Ne.symm d_b6_b3, d_b6_b4, Ne.symm d_b6_b4, d_b7_b3, Ne.symm d_b7_b3, d_b7_b4, Ne.symm d_b7_b4, d_b7_b6, Ne.symm d_b7_b6]
      refine hK _ _ ?_
      clear hK K
      first | refine pwp_sr ?_ | refine pwp_regionM ?_
      intro K hK
      simp [runM_nil, tbV, d_b4_b3, Ne.symm d_b4_b3, d_b6_b3, Ne.symm d_b6_b3, d_b6_b4, Ne.symm d_b6_b4, d_b7_b3, Ne.symm d_b7_b3, d_b7_b4, Ne.symm d_b7_b4, d_b7_b6, Ne.symm d_b7_b6]
      refine useP (c4) ?_
      simp [runM_nil, tbV, d_b4_b3, Ne.symm d_b4_b3, d_b6_b3, Ne.symm d_b6_b3, d_b6_b4, Ne.symm d_b6_b4, d_b7_b3, Ne.symm d_b7_b3, d_b7_b4, Ne.symm d_b7_b4, d_b7_b6, Ne.symm d_b7_b6]
      refine hK _ _ ?_
      clear hK K
      first | refine pwp_rif ?_ | refine pwp_rifE ?_
      intro K hK
      simp [runM_nil, d_b4_b3, Ne.symm d_b4_b3, d_b6_b3, Ne.symm d_b6_b3, d_b6_b4, Ne.symm d_b6_b4, d_b7_b3, Ne.symm d_b7_b3, d_b7_b4, Ne.symm d_b7_b4, d_b7_b6, Ne.symm d_b7_b6]
      refine hK _ _ ?_
      clear hK K
      refine ifF (by simp [runM_nil]) (pwp_skip ?_)
      refine pwp_regionM ?_
      intro K hK
      simp [runM_nil, d_b4_b3, Ne.symm d_b4_b3, d_b6_b3, Ne.symm d_b6_b3, d_b6_b4, Ne.symm d_b6_b4, d_b7_b3, Ne.symm d_b7_b3, d_b7_b4, Ne.symm d_b7_b4, d_b7_b6, Ne.symm d_b7_b6]
      refine hK _ _ ?_
      clear hK K
      first | refine pwp_sr ?_ | refine pwp_regionM ?_
      intro K hK
      simp [runM_nil, tbV, d_b4_b3, Ne.symm d_b4_b3, d_b6_b3, Ne.symm d_b6_b3, d_b6_b4, Ne.symm d_b6_b4, d_b7_b3, Ne.symm d_b7_b3, d_b7_b4, Ne.symm d_b7_b4, d_b7_b6, Ne.symm d_b7_b6]
      refine useP (c1) ?_
      simp [runM_nil, tbV, d_b4_b3, Ne.symm d_b4_b3, d_b6_b3, Ne.symm d_b6_b3, d_b6_b4, Ne.symm d_b6_b4, d_b7_b3, Ne.symm d_b7_b3, d_b7_b4, Ne.symm d_b7_b4, d_b7_b6, Ne.symm d_b7_b6]
      intro b15 h_b15
      have d_b15_b3 : ¬ b3 = b15 := fun e => by subst e; simp [hget, d_b4_b3, Ne.symm d_b4_b3, d_b6_b3, Ne.symm d_b6_b3, d_b6_b4, Ne.symm d_b6_b4, d_b7_b3, Ne.symm d_b7_b3, d_b7_b4, Ne.symm d_b7_b4, d_b7_b6, Ne.symm d_b7_b6] at h_b15
      have d_b15_b4 : ¬ b4 = b15 := fun e => by subst e; simp [hget, d_b4_b3, Ne.symm d_b4_b3, d_b6_b3, Ne.symm d_b6_b3, d_b6_b4, Ne.symm d_b6_b4, d_b7_b3, Ne.symm d_b7_b3, d_b7_b4, Ne.symm d_b7_b4, d_b7_b6, Ne.symm d_b7_b6] at h_b15
      have d_b15_b6 : ¬ b6 = b15 := fun e => by subst e; simp [hget, d_b4_b3, Ne.symm d_b4_b3, d_b6_b3, Ne.symm d_b6_b3, d_b6_b4, Ne.symm d_b6_b4, d_b7_b3, Ne.symm d_b7_b3, d_b7_b4, Ne.symm d_b7_b4, d_b7_b6, Ne.symm d_b7_b6] at h_b15
      have d_b15_b7 : ¬ b7 = b15 := fun e => by subst e; simp [hget, d_b4_b3, Ne.symm d_b4_b3, d_b6_b3, Ne.symm d_b6_b3, d_b6_b4, Ne.symm d_b6_b4, d_b7_b3, Ne.symm d_b7_b3, d_b7_b4, Ne.symm d_b7_b4, d_b7_b6, Ne.symm d_b7_b6] at h_b15
      try simp [runM_nil, tbV, d_b4_b3, Ne.symm d_b4_b3, d_b6_b3, Ne.symm d_b6_b3, d_b6_b4, Ne.symm d_b6_b4, d_b7_b3, Ne.symm d_b7_b3, d_b7_b4, Ne.symm d_b7_b4, d_b7_b6, Ne.symm d_b7_b6, d_b15_b3, Ne.symm d_b15_b3, d_b15_b4, Ne.symm d_b15_b4, d_b15_b6, Ne.symm d_b15_b6, d_b15_b7, Ne.symm d_b15_b7]
      refine hK _ _ ?_
      clear hK K
      first | refine pwp_sr ?_ | refine pwp_regionM ?_
      intro K hK
      simp [runM_nil, tbV, d_b4_b3, Ne.symm d_b4_b3, d_b6_b3, Ne.symm d_b6_b3, d_b6_b4, Ne.symm d_b6_b4, d_b7_b3, Ne.symm d_b7_b3, d_b7_b4, Ne.symm d_b7_b4, d_b7_b6, Ne.symm d_b7_b6, d_b15_b3, Ne.symm d_b15_b3, d_b15_b4, Ne.symm d_b15_b4, d_b15_b6, Ne.symm d_b15_b6, d_b15_b7, Ne.symm d_b15_b7]
      refine useP (c2) ?_
      simp [runM_nil, tbV, d_b4_b3, Ne.symm d_b4_b3, d_b6_b3, Ne.symm d_b6_b3, d_b6_b4, Ne.symm d_b6_b4, d_b7_b3, Ne.symm d_b7_b3, d_b7_b4, Ne.symm d_b7_b4, d_b7_b6, Ne.symm d_b7_b6, d_b15_b3, Ne.symm d_b15_b3, d_b15_b4, Ne.symm d_b15_b4, d_b15_b6, Ne.symm d_b15_b6, d_b15_b7, Ne.symm d_b15_b7]
      intro b18 h_b18
      have d_b18_b3 : ¬ b3 = b18 := fun e => by subst e; simp [hget, d_b4_b3, Ne.symm d_b4_b3, d_b6_b3, Ne.symm d_b6_b3, d_b6_b4, Ne.symm d_b6_b4, d_b7_b3, Ne.symm d_b7_b3, d_b7_b4, Ne.symm d_b7_b4, d_b7_b6, Ne.symm d_b7_b6, d_b15_b3, Ne.symm d_b15_b3, d_b15_b4, Ne.symm d_b15_b4, d_b15_b6, Ne.symm d_b15_b6, d_b15_b7, Ne.symm d_b15_b7] at h_b18
      have d_b18_b4 : ¬ b4 = b18 := fun e => by subst e; simp [hget, d_b4_b3, Ne.symm d_b4_b3, d_b6_b3, Ne.symm d_b6_b3, d_b6_b4, Ne.symm d_b6_b4, d_b7_b3, Ne.symm d_b7_b3, d_b7_b4, Ne.symm d_b7_b4, d_b7_b6, Ne.symm d_b7_b6, d_b15_b3, Ne.symm d_b15_b3, d_b15_b4, Ne.symm d_b15_b4, d_b15_b6, Ne.symm d_b15_b6, d_b15_b7, Ne.symm d_b15_b7] at h_b18
      have d_b18_b6 : ¬ b6 = b18 := fun e => by subst e; simp [hget, d_b4_b3, Ne.symm d_b4_b3, d_b6_b3, Ne.symm d_b6_b3, d_b6_b4, Ne.symm d_b6_b4, d_b7_b3, Ne.symm d_b7_b3, d_b7_b4, Ne.symm d_b7_b4, d_b7_b6, Ne.symm d_b7_b6, d_b15_b3, Ne.symm d_b15_b3, d_b15_b4, Ne.symm d_b15_b4, d_b15_b6, Ne.symm d_b15_b6, d_b15_b7, Ne.symm d_b15_b7] at h_b18
      have d_b18_b7 : ¬ b7 = b18 := fun e => by subst e; simp [hget, d_b4_b3, Ne.symm d_b4_b3, d_b6_b3, Ne.symm d_b6_b3, d_b6_b4, Ne.symm d_b6_b4, d_b7_b3, Ne.symm d_b7_b3, d_b7_b4, Ne.symm d_b7_b4, d_b7_b6, Ne.symm d_b7_b6, d_b15_b3, Ne.symm d_b15_b3, d_b15_b4, Ne.symm d_b15_b4, d_b15_b6, Ne.symm d_b15_b6, d_b15_b7, Ne.symm d_b15_b7] at h_b18
      have d_b18_b15 : ¬ b15 = b18 := fun e => by subst e; simp [hget, d_b4_b3, Ne.symm d_b4_b3, d_b6_b3, Ne.symm d_b6_b3, d_b6_b4, Ne.symm d_b6_b4, d_b7_b3, Ne.symm d_b7_b3, d_b7_b4, Ne.symm d_b7_b4, d_b7_b6, Ne.symm d_b7_b6, d_b15_b3, Ne.symm d_b15_b3, d_b15_b4, Ne.symm d_b15_b4, d_b15_b6, Ne.symm d_b15_b6, d_b15_b7, Ne.symm d_b15_b7] at h_b18
      try simp [runM_nil, tbV, d_b4_b3, Ne.symm d_b4_b3, d_b6_b3, Ne.symm d_b6_b3, d_b6_b4, Ne.symm d_b6_b4, d_b7_b3, Ne.symm d_b7_b3, d_b7_b4, Ne.symm d_b7_b4, d_b7_b6, Ne.symm d_b7_b6, d_b15_b3, Ne.symm d_b15_b3, d_b15_b4, Ne.symm d_b15_b4, d_b15_b6, Ne.symm d_b15_b6, d_b15_b7, Ne.symm d_b15_b7, d_b18_b3, Ne.symm d_b18_b3, d_b18_b4, Ne.symm d_b18_b4, d_b18_b6, Ne.symm d_b18_b6, d_b18_b7, Ne.symm d_b18_b7, d_b18_b15, Ne.symm d_b18_b15]
      refine hK _ _ ?_
      clear hK K
      first | refine pwp_sr ?_ | refine pwp_regionM ?_
      intro K hK
      simp [runM_nil, d_b4_b3, Ne.symm d_b4_b3, d_b6_b3, Ne.symm d_b6_b3, d_b6_b4, Ne.symm d_b6_b4, d_b7_b3, Ne.symm d_b7_b3, d_b7_b4, Ne.symm d_b7_b4, d_b7_b6, Ne.symm d_b7_b6, d_b15_b3, Ne.symm d_b15_b3, d_b15_b4, Ne.symm d_b15_b4, d_b15_b6, Ne.symm d_b15_b6, d_b15_b7, Ne.symm d_b15_b7, d_b18_b3, Ne.symm d_b18_b3, d_b18_b4, Ne.symm d_b18_b4, d_b18_b6, Ne.symm d_b18_b6, d_b18_b7, Ne.symm d_b18_b7, d_b18_b15, Ne.symm d_b18_b15]
      refine hK _ _ ?_
      clear hK K
      first | refine pwp_sr ?_ | refine pwp_regionM ?_
      intro K hK
      simp [runM_nil, d_b4_b3, Ne.symm d_b4_b3, d_b6_b3, Ne.symm d_b6_b3, d_b6_b4, Ne.symm d_b6_b4, d_b7_b3, Ne.symm d_b7_b3, d_b7_b4, Ne.symm d_b7_b4, d_b7_b6, Ne.symm d_b7_b6, d_b15_b3, Ne.symm d_b15_b3, d_b15_b4, Ne.symm d_b15_b4, d_b15_b6, Ne.symm d_b15_b6, d_b15_b7, Ne.symm d_b15_b7, d_b18_b3, Ne.symm d_b18_b3, d_b18_b4, Ne.symm d_b18_b4, d_b18_b6, Ne.symm d_b18_b6, d_b18_b7, Ne.symm d_b18_b7, d_b18_b15, Ne.symm d_b18_b15]
      refine hK _ _ ?_
      clear hK K
      refine pwp_regionM ?_
      intro K hK
      simp [runM_nil, d_b4_b3, Ne.symm d_b4_b3, d_b6_b3, Ne.symm d_b6_b3, d_b6_b4, Ne.symm d_b6_b4, d_b7_b3, Ne.symm d_b7_b3, d_b7_b4, Ne.symm d_b7_b4, d_b7_b6, Ne.symm d_b7_b6, d_b15_b3, Ne.symm d_b15_b3, d_b15_b4, Ne.symm d_b15_b4, d_b15_b6, Ne.symm d_b15_b6, d_b15_b7, Ne.symm d_b15_b7, d_b18_b3, Ne.symm d_b18_b3, d_b18_b4, Ne.symm d_b18_b4, d_b18_b6, Ne.symm d_b18_b6, d_b18_b7, Ne.symm d_b18_b7, d_b18_b15, Ne.symm d_b18_b15]
      refine hK _ _ ?_
      clear hK K
      exact cut_to (by simp [keepA, getS]) (.cons _ (.cons _ (.refl _))) ⟨rfl, by simp [tbC, tb0, actT]⟩
    · skip
      have c1 := beat_ok t i n now hs
      have c2 := refBeat_ok t i n now hs
      simp only [tbV] at c1 c2
      first | refine pwp_rif ?_ | refine pwp_rifE ?_
      intro K hK
      simp [runM_nil, d_b4_b3, Ne.symm d_b4_b3, d_b6_b3, Ne.symm d_b6_b3, d_b6_b4, Ne.symm d_b6_b4, d_b7_b3, Ne.symm d_b7_b3, d_b7_b4, Ne.symm d_b7_b4, d_b7_b6, Ne.symm d_b7_b6]
      refine hK _ _ ?_
      clear hK K
      refine ifF (by simp [runM_nil]) ?_
      refine pwp_regionM ?_
      intro K hK
      simp [runM_nil, d_b4_b3, Ne.symm d_b4_b3, d_b6_b3, Ne.symm d_b6_b3, d_b6_b4, Ne.symm d_b6_b4, d_b7_b3, Ne.symm d_b7_b3, d_b7_b4, Ne.symm d_b7_b4, d_b7_b6, Ne.symm d_b7_b6]
      refine hK _ _ ?_
      clear hK K
      refine pwp_cF (by simp [runM_nil]) ?_
      first | refine pwp_sr ?_ | refine pwp_regionM ?_
      intro K hK
      simp [runM_nil, d_b4_b3, Ne.symm d_b4_b3, d_b6_b3, Ne.symm d_b6_b3, d_b6_b4, Ne.symm d_b6_b4, d_b7_b3, Ne.symm d_b7_b3, d_b7_b4, Ne.symm d_b7_b4, d_b7_b6, Ne.symm d_b7_b6]
      refine hK _ _ ?_
      clear hK K
      refine pwp_cT (by simp [runM_nil]) ?_
      first | refine pwp_sr ?_ | refine pwp_regionM ?_
      intro K hK
      simp [runM_nil, tbV, d_b4_b3, Ne.symm d_b4_b3, d_b6_b3, Ne.symm d_b6_b3, d_b6_b4, Ne.symm d_b6_b4, d_b7_b3, Ne.symm d_b7_b3, d_b7_b4, Ne.symm d_b7_b4, d_b7_b6, Ne.symm d_b7_b6]
      refine useP (c1) ?_
      simp [runM_nil, tbV, d_b4_b3, Ne.symm d_b4_b3, d_b6_b3, Ne.symm d_b6_b3, d_b6_b4, Ne.symm d_b6_b4, d_b7_b3, Ne.symm d_b7_b3, d_b7_b4, Ne.symm d_b7_b4, d_b7_b6, Ne.symm d_b7_b6]
      intro b21 h_b21
      have d_b21_b3 : ¬ b3 = b21 := fun e => by subst e; simp [hget, d_b4_b3, Ne.symm d_b4_b3, d_b6_b3, Ne.symm d_b6_b3, d_b6_b4, Ne.symm d_b6_b4, d_b7_b3, Ne.symm d_b7_b3, d_b7_b4, Ne.symm d_b7_b4, d_b7_b6, Ne.symm d_b7_b6] at h_b21
      have d_b21_b4 : ¬ b4 = b21 := fun e => by subst e; simp [hget, d_b4_b3, Ne.symm d_b4_b3, d_b6_b3, Ne.symm d_b6_b3, d_b6_b4, Ne.symm d_b6_b4, d_b7_b3, Ne.symm d_b7_b3, d_b7_b4, Ne.symm d_b7_b4, d_b7_b6, Ne.symm d_b7_b6] at h_b21
      have d_b21_b6 : ¬ b6 = b21 := fun e => by subst e; simp [hget, d_b4_b3, Ne.symm d_b4_b3, d_b6_b3, Ne.symm d_b6_b3, d_b6_b4, Ne.symm d_b6_b4, d_b7_b3, Ne.symm d_b7_b3, d_b7_b4, Ne.symm d_b7_b4, d_b7_b6, Ne.symm d_b7_b6] at h_b21
      have d_b21_b7 : ¬ b7 = b21 := fun e => by subst e; simp [hget, d_b4_b3, Ne.symm d_b4_b3, d_b6_b3, Ne.symm d_b6_b3, d_b6_b4, Ne.symm d_b6_b4, d_b7_b3, Ne.symm d_b7_b3, d_b7_b4, Ne.symm d_b7_b4, d_b7_b6, Ne.symm d_b7_b6] at h_b21
      try simp [runM_nil, tbV, d_b4_b3, Ne.symm d_b4_b3, d_b6_b3, Ne.symm d_b6_b3, d_b6_b4, Ne.symm d_b6_b4, d_b7_b3, Ne.symm d_b7_b3, d_b7_b4, Ne.symm d_b7_b4, d_b7_b6, Ne.symm d_b7_b6, d_b21_b3, Ne.symm d_b21_b3, d_b21_b4, Ne.symm d_b21_b4, d_b21_b6, Ne.symm d_b21_b6, d_b21_b7, Ne.symm d_b21_b7]
      refine hK _ _ ?_
      clear hK K
      first | refine pwp_sr ?_ | refine pwp_regionM ?_
      intro K hK
      simp [runM_nil, tbV, d_b4_b3, Ne.symm d_b4_b3, d_b6_b3, Ne.symm d_b6_b3, d_b6_b4, Ne.symm d_b6_b4, d_b7_b3, Ne.symm d_b7_b3, d_b7_b4, Ne.symm d_b7_b4, d_b7_b6, Ne.symm d_b7_b6, d_b21_b3, Ne.symm d_b21_b3, d_b21_b4, Ne.symm d_b21_b4, d_b21_b6, Ne.symm d_b21_b6, d_b21_b7, Ne.symm d_b21_b7]
      refine useP (c2) ?_
      simp [runM_nil, tbV, d_b4_b3, Ne.symm d_b4_b3, d_b6_b3, Ne.symm d_b6_b3, d_b6_b4, Ne.symm d_b6_b4, d_b7_b3, Ne.symm d_b7_b3, d_b7_b4, Ne.symm d_b7_b4, d_b7_b6, Ne.symm d_b7_b6, d_b21_b3, Ne.symm d_b21_b3, d_b21_b4, Ne.symm d_b21_b4, d_b21_b6, Ne.symm d_b21_b6, d_b21_b7, Ne.symm d_b21_b7]
      intro b23 h_b23
      have d_b23_b3 : ¬ b3 = b23 := fun e => by subst e; simp [hget, d_b4_b3, Ne.symm d_b4_b3, d_b6_b3, Ne.symm d_b6_b3, d_b6_b4, Ne.symm d_b6_b4, d_b7_b3, Ne.symm d_b7_b3, d_b7_b4, Ne.symm d_b7_b4, d_b7_b6, Ne.symm d_b7_b6, d_b21_b3, Ne.symm d_b21_b3, d_b21_b4, Ne.symm d_b21_b4, d_b21_b6, Ne.symm d_b21_b6, d_b21_b7, Ne.symm d_b21_b7] at h_b23
      have d_b23_b4 : ¬ b4 = b23 := fun e => by subst e; simp [hget, d_b4_b3, Ne.symm d_b4_b3, d_b6_b3, Ne.symm d_b6_b3, d_b6_b4, Ne.symm d_b6_b4, d_b7_b3, Ne.symm d_b7_b3, d_b7_b4, Ne.symm d_b7_b4, d_b7_b6, Ne.symm d_b7_b6, d_b21_b3, Ne.symm d_b21_b3, d_b21_b4, Ne.symm d_b21_b4, d_b21_b6, Ne.symm d_b21_b6, d_b21_b7, Ne.symm d_b21_b7] at h_b23
      have d_b23_b6 : ¬ b6 = b23 := fun e => by subst e; simp [hget, d_b4_b3, Ne.symm d_b4_b3, d_b6_b3, Ne.symm d_b6_b3, d_b6_b4, Ne.symm d_b6_b4, d_b7_b3, Ne.symm d_b7_b3, d_b7_b4, Ne.symm d_b7_b4, d_b7_b6, Ne.symm d_b7_b6, d_b21_b3, Ne.symm d_b21_b3, d_b21_b4, Ne.symm d_b21_b4, d_b21_b6, Ne.symm d_b21_b6, d_b21_b7, Ne.symm d_b21_b7] at h_b23
      have d_b23_b7 : ¬ b7 = b23 := fun e => by subst e; simp [hget, d_b4_b3, Ne.symm d_b4_b3, d_b6_b3, Ne.symm d_b6_b3, d_b6_b4, Ne.symm d_b6_b4, d_b7_b3, Ne.symm d_b7_b3, d_b7_b4, Ne.symm d_b7_b4, d_b7_b6, Ne.symm d_b7_b6, d_b21_b3, Ne.symm d_b21_b3, d_b21_b4, Ne.symm d_b21_b4, d_b21_b6, Ne.symm d_b21_b6, d_b21_b7, Ne.symm d_b21_b7] at h_b23
      have d_b23_b21 : ¬ b21 = b23 := fun e => by subst e; simp [hget, d_b4_b3, Ne.symm d_b4_b3, d_b6_b3, Ne.symm d_b6_b3, d_b6_b4, Ne.symm d_b6_b4, d_b7_b3, Ne.symm d_b7_b3, d_b7_b4, Ne.symm d_b7_b4, d_b7_b6, Ne.symm d_b7_b6, d_b21_b3, Ne.symm d_b21_b3, d_b21_b4, Ne.symm d_b21_b4, d_b21_b6, Ne.symm d_b21_b6, d_b21_b7, Ne.symm d_b21_b7] at h_b23
      try simp [runM_nil, tbV, d_b4_b3, Ne.symm d_b4_b3, d_b6_b3, Ne.symm d_b6_b3, d_b6_b4, Ne.symm d_b6_b4, d_b7_b3, Ne.symm d_b7_b3, d_b7_b4, Ne.symm d_b7_b4, d_b7_b6, Ne.symm d_b7_b6, d_b21_b3, Ne.symm d_b21_b3, d_b21_b4, Ne.symm d_b21_b4, d_b21_b6, Ne.symm d_b21_b6, d_b21_b7, Ne.symm d_b21_b7, d_b23_b3, Ne.symm d_b23_b3, d_b23_b4, Ne.symm d_b23_b4, d_b23_b6, Ne.symm d_b23_b6, d_b23_b7, Ne.symm d_b23_b7, d_b23_b21, Ne.symm d_b23_b21]
      refine hK _ _ ?_
      clear hK K
      first | refine pwp_sr ?_ | refine pwp_regionM ?_
      intro K hK
      simp [runM_nil, d_b4_b3, Ne.symm d_b4_b3, d_b6_b3, Ne.symm d_b6_b3, d_b6_b4, Ne.symm d_b6_b4, d_b7_b3, Ne.symm d_b7_b3, d_b7_b4, Ne.symm d_b7_b4, d_b7_b6, Ne.symm d_b7_b6, d_b21_b3, Ne.symm d_b21_b3, d_b21_b4, Ne.symm d_b21_b4, d_b21_b6, Ne.symm d_b21_b6, d_b21_b7, Ne.symm d_b21_b7, d_b23_b3, Ne.symm d_b23_b3, d_b23_b4, Ne.symm d_b23_b4, d_b23_b6, Ne.symm d_b23_b6, d_b23_b7, Ne.symm d_b23_b7, d_b23_b21, Ne.symm d_b23_b21]
      refine hK _ _ ?_
      clear hK K
      first | refine pwp_sr ?_ | refine pwp_regionM ?_
      intro K hK
      simp [runM_nil, d_b4_b3, Ne.symm d_b4_b3, d_b6_b3, Ne.symm d_b6_b3, d_b6_b4, Ne.symm d_b6_b4, d_b7_b3, Ne.symm d_b7_b3, d_b7_b4, Ne.symm d_b7_b4, d_b7_b6, Ne.symm d_b7_b6, d_b21_b3, Ne.symm d_b21_b3, d_b21_b4, Ne.symm d_b21_b4, d_b21_b6, Ne.symm d_b21_b6, d_b21_b7, Ne.symm d_b21_b7, d_b23_b3, Ne.symm d_b23_b3, d_b23_b4, Ne.symm d_b23_b4, d_b23_b6, Ne.symm d_b23_b6, d_b23_b7, Ne.symm d_b23_b7, d_b23_b21, Ne.symm d_b23_b21]
      refine hK _ _ ?_
      clear hK K
      refine pwp_regionM ?_
      intro K hK
      simp [runM_nil, d_b4_b3, Ne.symm d_b4_b3, d_b6_b3, Ne.symm d_b6_b3, d_b6_b4, Ne.symm d_b6_b4, d_b7_b3, Ne.symm d_b7_b3, d_b7_b4, Ne.symm d_b7_b4, d_b7_b6, Ne.symm d_b7_b6, d_b21_b3, Ne.symm d_b21_b3, d_b21_b4, Ne.symm d_b21_b4, d_b21_b6, Ne.symm d_b21_b6, d_b21_b7, Ne.symm d_b21_b7, d_b23_b3, Ne.symm d_b23_b3, d_b23_b4, Ne.symm d_b23_b4, d_b23_b6, Ne.symm d_b23_b6, d_b23_b7, Ne.symm d_b23_b7, d_b23_b21, Ne.symm d_b23_b21]
      refine hK _ _ ?_
      clear hK K
      exact cut_to (by simp [keepA, getS]) (.cons _ (.cons _ (.refl _))) ⟨rfl, by simp [tbC, tb0, actT]⟩
    · skip
      have c1 := finish_ok t i n hs
      have c2 := refFinish_ok t i n hs
      simp only [tbV] at c1 c2
      first | refine pwp_rif ?_ | refine pwp_rifE ?_
      intro K hK
      simp [runM_nil, d_b4_b3, Ne.symm d_b4_b3, d_b6_b3, Ne.symm d_b6_b3, d_b6_b4, Ne.symm d_b6_b4, d_b7_b3, Ne.symm d_b7_b3, d_b7_b4, Ne.symm d_b7_b4, d_b7_b6, Ne.symm d_b7_b6]
      refine hK _ _ ?_
      clear hK K
      refine ifF (by simp [runM_nil]) ?_
      refine pwp_regionM ?_
      intro K hK
      simp [runM_nil, d_b4_b3, Ne.symm d_b4_b3, d_b6_b3, Ne.symm d_b6_b3, d_b6_b4, Ne.symm d_b6_b4, d_b7_b3, Ne.symm d_b7_b3, d_b7_b4, Ne.symm d_b7_b4, d_b7_b6, Ne.symm d_b7_b6]
      refine hK _ _ ?_
      clear hK K
      refine pwp_cF (by simp [runM_nil]) ?_
      first | refine pwp_sr ?_ | refine pwp_regionM ?_
      intro K hK
      simp [runM_nil, d_b4_b3, Ne.symm d_b4_b3, d_b6_b3, Ne.symm d_b6_b3, d_b6_b4, Ne.symm d_b6_b4, d_b7_b3, Ne.symm d_b7_b3, d_b7_b4, Ne.symm d_b7_b4, d_b7_b6, Ne.symm d_b7_b6]
      refine hK _ _ ?_
      clear hK K
      refine pwp_cF (by simp [runM_nil]) ?_
      first | refine pwp_sr ?_ | refine pwp_regionM ?_
      intro K hK
      simp [runM_nil, d_b4_b3, Ne.symm d_b4_b3, d_b6_b3, Ne.symm d_b6_b3, d_b6_b4, Ne.symm d_b6_b4, d_b7_b3, Ne.symm d_b7_b3, d_b7_b4, Ne.symm d_b7_b4, d_b7_b6, Ne.symm d_b7_b6]
      refine hK _ _ ?_
      clear hK K
      refine pwp_cT (by simp [runM_nil]) ?_
      first | refine pwp_sr ?_ | refine pwp_regionM ?_
      intro K hK
      simp [runM_nil, tbV, d_b4_b3, Ne.symm d_b4_b3, d_b6_b3, Ne.symm d_b6_b3, d_b6_b4, Ne.symm d_b6_b4, d_b7_b3, Ne.symm d_b7_b3, d_b7_b4, Ne.symm d_b7_b4, d_b7_b6, Ne.symm d_b7_b6]
      refine useP (c1) ?_
      simp [runM_nil, tbV, d_b4_b3, Ne.symm d_b4_b3, d_b6_b3, Ne.symm d_b6_b3, d_b6_b4, Ne.symm d_b6_b4, d_b7_b3, Ne.symm d_b7_b3, d_b7_b4, Ne.symm d_b7_b4, d_b7_b6, Ne.symm d_b7_b6]
      intro b25 h_b25
      have d_b25_b3 : ¬ b3 = b25 := fun e => by subst e; simp [hget, d_b4_b3, Ne.symm d_b4_b3, d_b6_b3, Ne.symm d_b6_b3, d_b6_b4, Ne.symm d_b6_b4, d_b7_b3, Ne.symm d_b7_b3, d_b7_b4, Ne.symm d_b7_b4, d_b7_b6, Ne.symm d_b7_b6] at h_b25
      have d_b25_b4 : ¬ b4 = b25 := fun e => by subst e; simp [hget, d_b4_b3, Ne.symm d_b4_b3, d_b6_b3, Ne.symm d_b6_b3, d_b6_b4, Ne.symm d_b6_b4, d_b7_b3, Ne.symm d_b7_b3, d_b7_b4, Ne.symm d_b7_b4, d_b7_b6, Ne.symm d_b7_b6] at h_b25
      have d_b25_b6 : ¬ b6 = b25 := fun e => by subst e; simp [hget, d_b4_b3, Ne.symm d_b4_b3, d_b6_b3, Ne.symm d_b6_b3, d_b6_b4, Ne.symm d_b6_b4, d_b7_b3, Ne.symm d_b7_b3, d_b7_b4, Ne.symm d_b7_b4, d_b7_b6, Ne.symm d_b7_b6] at h_b25
      have d_b25_b7 : ¬ b7 = b25 := fun e => by subst e; simp [hget, d_b4_b3, Ne.symm d_b4_b3, d_b6_b3, Ne.symm d_b6_b3, d_b6_b4, Ne.symm d_b6_b4, d_b7_b3, Ne.symm d_b7_b3, d_b7_b4, Ne.symm d_b7_b4, d_b7_b6, Ne.symm d_b7_b6] at h_b25
      try simp [runM_nil, tbV, d_b4_b3, Ne.symm d_b4_b3, d_b6_b3, Ne.symm d_b6_b3, d_b6_b4, Ne.symm d_b6_b4, d_b7_b3, Ne.symm d_b7_b3, d_b7_b4, Ne.symm d_b7_b4, d_b7_b6, Ne.symm d_b7_b6, d_b25_b3, Ne.symm d_b25_b3, d_b25_b4, Ne.symm d_b25_b4, d_b25_b6, Ne.symm d_b25_b6, d_b25_b7, Ne.symm d_b25_b7]
      refine hK _ _ ?_
      clear hK K
      first | refine pwp_sr ?_ | refine pwp_regionM ?_
      intro K hK
      simp [runM_nil, tbV, d_b4_b3, Ne.symm d_b4_b3, d_b6_b3, Ne.symm d_b6_b3, d_b6_b4, Ne.symm d_b6_b4, d_b7_b3, Ne.symm d_b7_b3, d_b7_b4, Ne.symm d_b7_b4, d_b7_b6, Ne.symm d_b7_b6, d_b25_b3, Ne.symm d_b25_b3, d_b25_b4, Ne.symm d_b25_b4, d_b25_b6, Ne.symm d_b25_b6, d_b25_b7, Ne.symm d_b25_b7]
      refine useP (c2) ?_
      simp [runM_nil, tbV, d_b4_b3, Ne.symm d_b4_b3, d_b6_b3, Ne.symm d_b6_b3, d_b6_b4, Ne.symm d_b6_b4, d_b7_b3, Ne.symm d_b7_b3, d_b7_b4, Ne.symm d_b7_b4, d_b7_b6, Ne.symm d_b7_b6, d_b25_b3, Ne.symm d_b25_b3, d_b25_b4, Ne.symm d_b25_b4, d_b25_b6, Ne.symm d_b25_b6, d_b25_b7, Ne.symm d_b25_b7]
      intro b27 h_b27
      have d_b27_b3 : ¬ b3 = b27 := fun e => by subst e; simp [hget, d_b4_b3, Ne.symm d_b4_b3, d_b6_b3, Ne.symm d_b6_b3, d_b6_b4, Ne.symm d_b6_b4, d_b7_b3, Ne.symm d_b7_b3, d_b7_b4, Ne.symm d_b7_b4, d_b7_b6, Ne.symm d_b7_b6, d_b25_b3, Ne.symm d_b25_b3, d_b25_b4, Ne.symm d_b25_b4, d_b25_b6, Ne.symm d_b25_b6, d_b25_b7, Ne.symm d_b25_b7] at h_b27
      have d_b27_b4 : ¬ b4 = b27 := fun e => by subst e; simp [hget, d_b4_b3, Ne.symm d_b4_b3, d_b6_b3, Ne.symm d_b6_b3, d_b6_b4, Ne.symm d_b6_b4, d_b7_b3, Ne.symm d_b7_b3, d_b7_b4, Ne.symm d_b7_b4, d_b7_b6, Ne.symm d_b7_b6, d_b25_b3, Ne.symm d_b25_b3, d_b25_b4, Ne.symm d_b25_b4, d_b25_b6, Ne.symm d_b25_b6, d_b25_b7, Ne.symm d_b25_b7] at h_b27
      have d_b27_b6 : ¬ b6 = b27 := fun e => by subst e; simp [hget, d_b4_b3, Ne.symm d_b4_b3, d_b6_b3, Ne.symm d_b6_b3, d_b6_b4, Ne.symm d_b6_b4, d_b7_b3, Ne.symm d_b7_b3, d_b7_b4, Ne.symm d_b7_b4, d_b7_b6, Ne.symm d_b7_b6, d_b25_b3, Ne.symm d_b25_b3, d_b25_b4, Ne.symm d_b25_b4, d_b25_b6, Ne.symm d_b25_b6, d_b25_b7, Ne.symm d_b25_b7] at h_b27
      have d_b27_b7 : ¬ b7 = b27 := fun e => by subst e; simp [hget, d_b4_b3, Ne.symm d_b4_b3, d_b6_b3, Ne.symm d_b6_b3, d_b6_b4, Ne.symm d_b6_b4, d_b7_b3, Ne.symm d_b7_b3, d_b7_b4, Ne.symm d_b7_b4, d_b7_b6, Ne.symm d_b7_b6, d_b25_b3, Ne.symm d_b25_b3, d_b25_b4, Ne.symm d_b25_b4, d_b25_b6, Ne.symm d_b25_b6, d_b25_b7, Ne.symm d_b25_b7] at h_b27
      have d_b27_b25 : ¬ b25 = b27 := fun e => by subst e; simp [hget, d_b4_b3, Ne.symm d_b4_b3, d_b6_b3, Ne.symm d_b6_b3, d_b6_b4, Ne.symm d_b6_b4, d_b7_b3, Ne.symm d_b7_b3, d_b7_b4, Ne.symm d_b7_b4, d_b7_b6, Ne.symm d_b7_b6, d_b25_b3, Ne.symm d_b25_b3, d_b25_b4, Ne.symm d_b25_b4, d_b25_b6, Ne.symm d_b25_b6, d_b25_b7, Ne.symm d_b25_b7] at h_b27
      try simp [runM_nil, tbV, d_b4_b3, Ne.symm d_b4_b3, d_b6_b3, Ne.symm d_b6_b3, d_b6_b4, Ne.symm d_b6_b4, d_b7_b3, Ne.symm d_b7_b3, d_b7_b4, Ne.symm d_b7_b4, d_b7_b6, Ne.symm d_b7_b6, d_b25_b3, Ne.symm d_b25_b3, d_b25_b4, Ne.symm d_b25_b4, d_b25_b6, Ne.symm d_b25_b6, d_b25_b7, Ne.symm d_b25_b7, d_b27_b3, Ne.symm d_b27_b3, d_b27_b4, Ne.symm d_b27_b4, d_b27_b6, Ne.symm d_b27_b6, d_b27_b7, Ne.symm d_b27_b7, d_b27_b25, Ne.symm d_b27_b25]
      refine hK _ _ ?_
      clear hK K
      first | refine pwp_sr ?_ | refine pwp_regionM ?_
      intro K hK
      simp [runM_nil, d_b4_b3, Ne.symm d_b4_b3, d_b6_b3, Ne.symm d_b6_b3, d_b6_b4, Ne.symm d_b6_b4, d_b7_b3, Ne.symm d_b7_b3, d_b7_b4, Ne.symm d_b7_b4, d_b7_b6, Ne.symm d_b7_b6, d_b25_b3, Ne.symm d_b25_b3, d_b25_b4, Ne.symm d_b25_b4, d_b25_b6, Ne.symm d_b25_b6, d_b25_b7, Ne.symm d_b25_b7, d_b27_b3, Ne.symm d_b27_b3, d_b27_b4, Ne.symm d_b27_b4, d_b27_b6, Ne.symm d_b27_b6, d_b27_b7, Ne.symm d_b27_b7, d_b27_b25, Ne.symm d_b27_b25]
      refine hK _ _ ?_
      clear hK K
      first | refine pwp_sr ?_ | refine pwp_regionM ?_
      intro K hK
      simp [runM_nil, d_b4_b3, Ne.symm d_b4_b3, d_b6_b3, Ne.symm d_b6_b3, d_b6_b4, Ne.symm d_b6_b4, d_b7_b3, Ne.symm d_b7_b3, d_b7_b4, Ne.symm d_b7_b4, d_b7_b6, Ne.symm d_b7_b6, d_b25_b3, Ne.symm d_b25_b3, d_b25_b4, Ne.symm d_b25_b4, d_b25_b6, Ne.symm d_b25_b6, d_b25_b7, Ne.symm d_b25_b7, d_b27_b3, Ne.symm d_b27_b3, d_b27_b4, Ne.symm d_b27_b4, d_b27_b6, Ne.symm d_b27_b6, d_b27_b7, Ne.symm d_b27_b7, d_b27_b25, Ne.symm d_b27_b25]
      refine hK _ _ ?_
      clear hK K
      refine pwp_regionM ?_
      intro K hK
      simp [runM_nil, d_b4_b3, Ne.symm d_b4_b3, d_b6_b3, Ne.symm d_b6_b3, d_b6_b4, Ne.symm d_b6_b4, d_b7_b3, Ne.symm d_b7_b3, d_b7_b4, Ne.symm d_b7_b4, d_b7_b6, Ne.symm d_b7_b6, d_b25_b3, Ne.symm d_b25_b3, d_b25_b4, Ne.symm d_b25_b4, d_b25_b6, Ne.symm d_b25_b6, d_b25_b7, Ne.symm d_b25_b7, d_b27_b3, Ne.symm d_b27_b3, d_b27_b4, Ne.symm d_b27_b4, d_b27_b6, Ne.symm d_b27_b6, d_b27_b7, Ne.symm d_b27_b7, d_b27_b25, Ne.symm d_b27_b25]
      refine hK _ _ ?_
      clear hK K
      exact cut_to (by simp [keepA, getS]) (.cons _ (.cons _ (.refl _))) ⟨rfl, by simp [tbC, tb0, actT]⟩
    · skip
      have c1 := fail_ok t i n hs
      have c2 := refFail_ok t i n hs
      simp only [tbV] at c1 c2
      first | refine pwp_rif ?_ | refine pwp_rifE ?_
      intro K hK
      simp [runM_nil, d_b4_b3, Ne.symm d_b4_b3, d_b6_b3, Ne.symm d_b6_b3, d_b6_b4, Ne.symm d_b6_b4, d_b7_b3, Ne.symm d_b7_b3, d_b7_b4, Ne.symm d_b7_b4, d_b7_b6, Ne.symm d_b7_b6]
      refine hK _ _ ?_
      clear hK K
      refine ifF (by simp [runM_nil]) ?_
      refine pwp_regionM ?_
      intro K hK
      simp [runM_nil, d_b4_b3, Ne.symm d_b4_b3, d_b6_b3, Ne.symm d_b6_b3, d_b6_b4, Ne.symm d_b6_b4, d_b7_b3, Ne.symm d_b7_b3, d_b7_b4, Ne.symm d_b7_b4, d_b7_b6, Ne.symm d_b7_b6]
      refine hK _ _ ?_
      clear hK K
      refine pwp_cF (by simp [runM_nil]) ?_
      first | refine pwp_sr ?_ | refine pwp_regionM ?_
      intro K hK
      simp [runM_nil, d_b4_b3, Ne.symm d_b4_b3, d_b6_b3, Ne.symm d_b6_b3, d_b6_b4, Ne.symm d_b6_b4, d_b7_b3, Ne.symm d_b7_b3, d_b7_b4, Ne.symm d_b7_b4, d_b7_b6, Ne.symm d_b7_b6]
      refine hK _ _ ?_
      clear hK K
      refine pwp_cF (by simp [runM_nil]) ?_
      first | refine pwp_sr ?_ | refine pwp_regionM ?_
      intro K hK
      simp [runM_nil, d_b4_b3, Ne.symm d_b4_b3, d_b6_b3, Ne.symm d_b6_b3, d_b6_b4, Ne.symm d_b6_b4, d_b7_b3, Ne.symm d_b7_b3, d_b7_b4, Ne.symm d_b7_b4, d_b7_b6, Ne.symm d_b7_b6]
      refine hK _ _ ?_
      clear hK K
      refine pwp_cF (by simp [runM_nil]) ?_
      first | refine pwp_sr ?_ | refine pwp_regionM ?_
      intro K hK
      simp [runM_nil, d_b4_b3, Ne.symm d_b4_b3, d_b6_b3, Ne.symm d_b6_b3, d_b6_b4, Ne.symm d_b6_b4, d_b7_b3, Ne.symm d_b7_b3, d_b7_b4, Ne.symm d_b7_b4, d_b7_b6, Ne.symm d_b7_b6]
      refine hK _ _ ?_
      clear hK K
      refine pwp_cT (by simp [runM_nil]) ?_
      first | refine pwp_sr ?_ | refine pwp_regionM ?_
      intro K hK
      simp [runM_nil, tbV, d_b4_b3, Ne.symm d_b4_b3, d_b6_b3, Ne.symm d_b6_b3, d_b6_b4, Ne.symm d_b6_b4, d_b7_b3, Ne.symm d_b7_b3, d_b7_b4, Ne.symm d_b7_b4, d_b7_b6, Ne.symm d_b7_b6]
      refine useP (c1) ?_
      simp [runM_nil, tbV, d_b4_b3, Ne.symm d_b4_b3, d_b6_b3, Ne.symm d_b6_b3, d_b6_b4, Ne.symm d_b6_b4, d_b7_b3, Ne.symm d_b7_b3, d_b7_b4, Ne.symm d_b7_b4, d_b7_b6, Ne.symm d_b7_b6]
      intro b29 h_b29
      have d_b29_b3 : ¬ b3 = b29 := fun e => by subst e; simp [hget, d_b4_b3, Ne.symm d_b4_b3, d_b6_b3, Ne.symm d_b6_b3, d_b6_b4, Ne.symm d_b6_b4, d_b7_b3, Ne.symm d_b7_b3, d_b7_b4, Ne.symm d_b7_b4, d_b7_b6, Ne.symm d_b7_b6] at h_b29
      have d_b29_b4 : ¬ b4 = b29 := fun e => by subst e; simp [hget, d_b4_b3, Ne.symm d_b4_b3, d_b6_b3, Ne.symm d_b6_b3, d_b6_b4, Ne.symm d_b6_b4, d_b7_b3, Ne.symm d_b7_b3, d_b7_b4, Ne.symm d_b7_b4, d_b7_b6, Ne.symm d_b7_b6] at h_b29
      have d_b29_b6 : ¬ b6 = b29 := fun e => by subst e; simp [hget, d_b4_b3, Ne.symm d_b4_b3, d_b6_b3, Ne.symm d_b6_b3, d_b6_b4, Ne.symm d_b6_b4, d_b7_b3, Ne.symm d_b7_b3, d_b7_b4, Ne.symm d_b7_b4, d_b7_b6, Ne.symm d_b7_b6] at h_b29
      have d_b29_b7 : ¬ b7 = b29 := fun e => by subst e; simp [hget, d_b4_b3, Ne.symm d_b4_b3, d_b6_b3, Ne.symm d_b6_b3, d_b6_b4, Ne.symm d_b6_b4, d_b7_b3, Ne.symm d_b7_b3, d_b7_b4, Ne.symm d_b7_b4, d_b7_b6, Ne.symm d_b7_b6] at h_b29
      try simp [runM_nil, tbV, d_b4_b3, Ne.symm d_b4_b3, d_b6_b3, Ne.symm d_b6_b3, d_b6_b4, Ne.symm d_b6_b4, d_b7_b3, Ne.symm d_b7_b3, d_b7_b4, Ne.symm d_b7_b4, d_b7_b6, Ne.symm d_b7_b6, d_b29_b3, Ne.symm d_b29_b3, d_b29_b4, Ne.symm d_b29_b4, d_b29_b6, Ne.symm d_b29_b6, d_b29_b7, Ne.symm d_b29_b7]
      refine hK _ _ ?_
      clear hK K
      first | refine pwp_sr ?_ | refine pwp_regionM ?_
      intro K hK
      simp [runM_nil, tbV, d_b4_b3, Ne.symm d_b4_b3, d_b6_b3, Ne.symm d_b6_b3, d_b6_b4, Ne.symm d_b6_b4, d_b7_b3, Ne.symm d_b7_b3, d_b7_b4, Ne.symm d_b7_b4, d_b7_b6, Ne.symm d_b7_b6, d_b29_b3, Ne.symm d_b29_b3, d_b29_b4, Ne.symm d_b29_b4, d_b29_b6, Ne.symm d_b29_b6, d_b29_b7, Ne.symm d_b29_b7]
      refine useP (c2) ?_
      simp [runM_nil, tbV, d_b4_b3, Ne.symm d_b4_b3, d_b6_b3, Ne.symm d_b6_b3, d_b6_b4, Ne.symm d_b6_b4, d_b7_b3, Ne.symm d_b7_b3, d_b7_b4, Ne.symm d_b7_b4, d_b7_b6, Ne.symm d_b7_b6, d_b29_b3, Ne.symm d_b29_b3, d_b29_b4, Ne.symm d_b29_b4, d_b29_b6, Ne.symm d_b29_b6, d_b29_b7, Ne.symm d_b29_b7]
      intro b31 h_b31
      have d_b31_b3 : ¬ b3 = b31 := fun e => by subst e; simp [hget, d_b4_b3, Ne.symm d_b4_b3, d_b6_b3, Ne.symm d_b6_b3, d_b6_b4, Ne.symm d_b6_b4, d_b7_b3, Ne.symm d_b7_b3, d_b7_b4, Ne.symm d_b7_b4, d_b7_b6, Ne.symm d_b7_b6, d_b29_b3, Ne.symm d_b29_b3, d_b29_b4, Ne.symm d_b29_b4, d_b29_b6, Ne.symm d_b29_b6, d_b29_b7, Ne.symm d_b29_b7] at h_b31
      have d_b31_b4 : ¬ b4 = b31 := fun e => by subst e; simp [hget, d_b4_b3, Ne.symm d_b4_b3, d_b6_b3, Ne.symm d_b6_b3, d_b6_b4, Ne.symm d_b6_b4, d_b7_b3, Ne.symm d_b7_b3, d_b7_b4, Ne.symm d_b7_b4, d_b7_b6, Ne.symm d_b7_b6, d_b29_b3, Ne.symm d_b29_b3, d_b29_b4, Ne.symm d_b29_b4, d_b29_b6, Ne.symm d_b29_b6, d_b29_b7, Ne.symm d_b29_b7] at h_b31
      have d_b31_b6 : ¬ b6 = b31 := fun e => by subst e; simp [hget, d_b4_b3, Ne.symm d_b4_b3, d_b6_b3, Ne.symm d_b6_b3, d_b6_b4, Ne.symm d_b6_b4, d_b7_b3, Ne.symm d_b7_b3, d_b7_b4, Ne.symm d_b7_b4, d_b7_b6, Ne.symm d_b7_b6, d_b29_b3, Ne.symm d_b29_b3, d_b29_b4, Ne.symm d_b29_b4, d_b29_b6, Ne.symm d_b29_b6, d_b29_b7, Ne.symm d_b29_b7] at h_b31
      have d_b31_b7 : ¬ b7 = b31 := fun e => by subst e; simp [hget, d_b4_b3, Ne.symm d_b4_b3, d_b6_b3, Ne.symm d_b6_b3, d_b6_b4, Ne.symm d_b6_b4, d_b7_b3, Ne.symm d_b7_b3, d_b7_b4, Ne.symm d_b7_b4, d_b7_b6, Ne.symm d_b7_b6, d_b29_b3, Ne.symm d_b29_b3, d_b29_b4, Ne.symm d_b29_b4, d_b29_b6, Ne.symm d_b29_b6, d_b29_b7, Ne.symm d_b29_b7] at h_b31
      have d_b31_b29 : ¬ b29 = b31 := fun e => by subst e; simp [hget, d_b4_b3, Ne.symm d_b4_b3, d_b6_b3, Ne.symm d_b6_b3, d_b6_b4, Ne.symm d_b6_b4, d_b7_b3, Ne.symm d_b7_b3, d_b7_b4, Ne.symm d_b7_b4, d_b7_b6, Ne.symm d_b7_b6, d_b29_b3, Ne.symm d_b29_b3, d_b29_b4, Ne.symm d_b29_b4, d_b29_b6, Ne.symm d_b29_b6, d_b29_b7, Ne.symm d_b29_b7] at h_b31
      try simp [runM_nil, tbV, d_b4_b3, Ne.symm d_b4_b3, d_b6_b3, Ne.symm d_b6_b3, d_b6_b4, Ne.symm d_b6_b4, d_b7_b3, Ne.symm d_b7_b3, d_b7_b4, Ne.symm d_b7_b4, d_b7_b6, Ne.symm d_b7_b6, d_b29_b3, Ne.symm d_b29_b3, d_b29_b4, Ne.symm d_b29_b4, d_b29_b6, Ne.symm d_b29_b6, d_b29_b7, Ne.symm d_b29_b7, d_b31_b3, Ne.symm d_b31_b3, d_b31_b4, Ne.symm d_b31_b4, d_b31_b6, Ne.symm d_b31_b6, d_b31_b7, Ne.symm d_b31_b7, d_b31_b29, Ne.symm d_b31_b29]
      refine hK _ _ ?_
      clear hK K
      first | refine pwp_sr ?_ | refine pwp_regionM ?_
      intro K hK
      simp [runM_nil, d_b4_b3, Ne.symm d_b4_b3, d_b6_b3, Ne.symm d_b6_b3, d_b6_b4, Ne.symm d_b6_b4, d_b7_b3, Ne.symm d_b7_b3, d_b7_b4, Ne.symm d_b7_b4, d_b7_b6, Ne.symm d_b7_b6, d_b29_b3, Ne.symm d_b29_b3, d_b29_b4, Ne.symm d_b29_b4, d_b29_b6, Ne.symm d_b29_b6, d_b29_b7, Ne.symm d_b29_b7, d_b31_b3, Ne.symm d_b31_b3, d_b31_b4, Ne.symm d_b31_b4, d_b31_b6, Ne.symm d_b31_b6, d_b31_b7, Ne.symm d_b31_b7, d_b31_b29, Ne.symm d_b31_b29]
      refine hK _ _ ?_
      clear hK K
      first | refine pwp_sr ?_ | refine pwp_regionM ?_
      intro K hK
      simp [runM_nil, d_b4_b3, Ne.symm d_b4_b3, d_b6_b3, Ne.symm d_b6_b3, d_b6_b4, Ne.symm d_b6_b4, d_b7_b3, Ne.symm d_b7_b3, d_b7_b4, Ne.symm d_b7_b4, d_b7_b6, Ne.symm d_b7_b6, d_b29_b3, Ne.symm d_b29_b3, d_b29_b4, Ne.symm d_b29_b4, d_b29_b6, Ne.symm d_b29_b6, d_b29_b7, Ne.symm d_b29_b7, d_b31_b3, Ne.symm d_b31_b3, d_b31_b4, Ne.symm d_b31_b4, d_b31_b6, Ne.symm d_b31_b6, d_b31_b7, Ne.symm d_b31_b7, d_b31_b29, Ne.symm d_b31_b29]
      refine hK _ _ ?_
      clear hK K
      refine pwp_regionM ?_
      intro K hK
      simp [runM_nil, d_b4_b3, Ne.symm d_b4_b3, d_b6_b3, Ne.symm d_b6_b3, d_b6_b4, Ne.symm d_b6_b4, d_b7_b3, Ne.symm d_b7_b3, d_b7_b4, Ne.symm d_b7_b4, d_b7_b6, Ne.symm d_b7_b6, d_b29_b3, Ne.symm d_b29_b3, d_b29_b4, Ne.symm d_b29_b4, d_b29_b6, Ne.symm d_b29_b6, d_b29_b7, Ne.symm d_b29_b7, d_b31_b3, Ne.symm d_b31_b3, d_b31_b4, Ne.symm d_b31_b4, d_b31_b6, Ne.symm d_b31_b6, d_b31_b7, Ne.symm d_b31_b7, d_b31_b29, Ne.symm d_b31_b29]
      refine hK _ _ ?_
      clear hK K
      exact cut_to (by simp [keepA, getS]) (.cons _ (.cons _ (.refl _))) ⟨rfl, by simp [tbC, tb0, actT]⟩
    · skip
      have c1 := Expire_ok t now hs hn hb
      have c2 := refExpire_ok t now hs hn hb
      simp only [tbV] at c1 c2
      first | refine pwp_rif ?_ | refine pwp_rifE ?_
      intro K hK
      simp [runM_nil, d_b4_b3, Ne.symm d_b4_b3, d_b6_b3, Ne.symm d_b6_b3, d_b6_b4, Ne.symm d_b6_b4, d_b7_b3, Ne.symm d_b7_b3, d_b7_b4, Ne.symm d_b7_b4, d_b7_b6, Ne.symm d_b7_b6]
      refine hK _ _ ?_
      clear hK K
      refine ifF (by simp [runM_nil]) ?_
      refine pwp_regionM ?_
      intro K hK
      simp [runM_nil, d_b4_b3, Ne.symm d_b4_b3, d_b6_b3, Ne.symm d_b6_b3, d_b6_b4, Ne.symm d_b6_b4, d_b7_b3, Ne.symm d_b7_b3, d_b7_b4, Ne.symm d_b7_b4, d_b7_b6, Ne.symm d_b7_b6]
      refine hK _ _ ?_
      clear hK K
      refine pwp_cF (by simp [runM_nil]) ?_
      first | refine pwp_sr ?_ | refine pwp_regionM ?_
      intro K hK
      simp [runM_nil, d_b4_b3, Ne.symm d_b4_b3, d_b6_b3, Ne.symm d_b6_b3, d_b6_b4, Ne.symm d_b6_b4, d_b7_b3, Ne.symm d_b7_b3, d_b7_b4, Ne.symm d_b7_b4, d_b7_b6, Ne.symm d_b7_b6]
      refine hK _ _ ?_
      clear hK K
      refine pwp_cF (by simp [runM_nil]) ?_
      first | refine pwp_sr ?_ | refine pwp_regionM ?_
      intro K hK
      simp [runM_nil, d_b4_b3, Ne.symm d_b4_b3, d_b6_b3, Ne.symm d_b6_b3, d_b6_b4, Ne.symm d_b6_b4, d_b7_b3, Ne.symm d_b7_b3, d_b7_b4, Ne.symm d_b7_b4, d_b7_b6, Ne.symm d_b7_b6]
      refine hK _ _ ?_
      clear hK K
      refine pwp_cF (by simp [runM_nil]) ?_
      first | refine pwp_sr ?_ | refine pwp_regionM ?_
      intro K hK
      simp [runM_nil, d_b4_b3, Ne.symm d_b4_b3, d_b6_b3, Ne.symm d_b6_b3, d_b6_b4, Ne.symm d_b6_b4, d_b7_b3, Ne.symm d_b7_b3, d_b7_b4, Ne.symm d_b7_b4, d_b7_b6, Ne.symm d_b7_b6]
      refine hK _ _ ?_
      clear hK K
      refine pwp_cF (by simp [runM_nil]) ?_
      first | refine pwp_sr ?_ | refine pwp_regionM ?_
      intro K hK
      simp [runM_nil, d_b4_b3, Ne.symm d_b4_b3, d_b6_b3, Ne.symm d_b6_b3, d_b6_b4, Ne.symm d_b6_b4, d_b7_b3, Ne.symm d_b7_b3, d_b7_b4, Ne.symm d_b7_b4, d_b7_b6, Ne.symm d_b7_b6]
      refine hK _ _ ?_
      clear hK K
      refine pwp_cT (by simp [runM_nil]) ?_
      first | refine pwp_sr ?_ | refine pwp_regionM ?_
      intro K hK
      simp [runM_nil, tbV, d_b4_b3, Ne.symm d_b4_b3, d_b6_b3, Ne.symm d_b6_b3, d_b6_b4, Ne.symm d_b6_b4, d_b7_b3, Ne.symm d_b7_b3, d_b7_b4, Ne.symm d_b7_b4, d_b7_b6, Ne.symm d_b7_b6]
      refine useP (c1) ?_
      simp [runM_nil, tbV, d_b4_b3, Ne.symm d_b4_b3, d_b6_b3, Ne.symm d_b6_b3, d_b6_b4, Ne.symm d_b6_b4, d_b7_b3, Ne.symm d_b7_b3, d_b7_b4, Ne.symm d_b7_b4, d_b7_b6, Ne.symm d_b7_b6]
      intro b33 h_b33
      have d_b33_b3 : ¬ b3 = b33 := fun e => by subst e; simp [hget, d_b4_b3, Ne.symm d_b4_b3, d_b6_b3, Ne.symm d_b6_b3, d_b6_b4, Ne.symm d_b6_b4, d_b7_b3, Ne.symm d_b7_b3, d_b7_b4, Ne.symm d_b7_b4, d_b7_b6, Ne.symm d_b7_b6] at h_b33
      have d_b33_b4 : ¬ b4 = b33 := fun e => by subst e; simp [hget, d_b4_b3, Ne.symm d_b4_b3, d_b6_b3, Ne.symm d_b6_b3, d_b6_b4, Ne.symm d_b6_b4, d_b7_b3, Ne.symm d_b7_b3, d_b7_b4, Ne.symm d_b7_b4, d_b7_b6, Ne.symm d_b7_b6] at h_b33
      have d_b33_b6 : ¬ b6 = b33 := fun e => by subst e; simp [hget, d_b4_b3, Ne.symm d_b4_b3, d_b6_b3, Ne.symm d_b6_b3, d_b6_b4, Ne.symm d_b6_b4, d_b7_b3, Ne.symm d_b7_b3, d_b7_b4, Ne.symm d_b7_b4, d_b7_b6, Ne.symm d_b7_b6] at h_b33
      have d_b33_b7 : ¬ b7 = b33 := fun e => by subst e; simp [hget, d_b4_b3, Ne.symm d_b4_b3, d_b6_b3, Ne.symm d_b6_b3, d_b6_b4, Ne.symm d_b6_b4, d_b7_b3, Ne.symm d_b7_b3, d_b7_b4, Ne.symm d_b7_b4, d_b7_b6, Ne.symm d_b7_b6] at h_b33
      try simp [runM_nil, tbV, d_b4_b3, Ne.symm d_b4_b3, d_b6_b3, Ne.symm d_b6_b3, d_b6_b4, Ne.symm d_b6_b4, d_b7_b3, Ne.symm d_b7_b3, d_b7_b4, Ne.symm d_b7_b4, d_b7_b6, Ne.symm d_b7_b6, d_b33_b3, Ne.symm d_b33_b3, d_b33_b4, Ne.symm d_b33_b4, d_b33_b6, Ne.symm d_b33_b6, d_b33_b7, Ne.symm d_b33_b7]
      refine hK _ _ ?_
      clear hK K
      first | refine pwp_sr ?_ | refine pwp_regionM ?_
      intro K hK
      simp [runM_nil, tbV, d_b4_b3, Ne.symm d_b4_b3, d_b6_b3, Ne.symm d_b6_b3, d_b6_b4, Ne.symm d_b6_b4, d_b7_b3, Ne.symm d_b7_b3, d_b7_b4, Ne.symm d_b7_b4, d_b7_b6, Ne.symm d_b7_b6, d_b33_b3, Ne.symm d_b33_b3, d_b33_b4, Ne.symm d_b33_b4, d_b33_b6, Ne.symm d_b33_b6, d_b33_b7, Ne.symm d_b33_b7]
      refine useP (c2) ?_
      simp [runM_nil, tbV, d_b4_b3, Ne.symm d_b4_b3, d_b6_b3, Ne.symm d_b6_b3, d_b6_b4, Ne.symm d_b6_b4, d_b7_b3, Ne.symm d_b7_b3, d_b7_b4, Ne.symm d_b7_b4, d_b7_b6, Ne.symm d_b7_b6, d_b33_b3, Ne.symm d_b33_b3, d_b33_b4, Ne.symm d_b33_b4, d_b33_b6, Ne.symm d_b33_b6, d_b33_b7, Ne.symm d_b33_b7]
      intro b35 h_b35
      have d_b35_b3 : ¬ b3 = b35 := fun e => by subst e; simp [hget, d_b4_b3, Ne.symm d_b4_b3, d_b6_b3, Ne.symm d_b6_b3, d_b6_b4, Ne.symm d_b6_b4, d_b7_b3, Ne.symm d_b7_b3, d_b7_b4, Ne.symm d_b7_b4, d_b7_b6, Ne.symm d_b7_b6, d_b33_b3, Ne.symm d_b33_b3, d_b33_b4, Ne.symm d_b33_b4, d_b33_b6, Ne.symm d_b33_b6, d_b33_b7, Ne.symm d_b33_b7] at h_b35
      have d_b35_b4 : ¬ b4 = b35 := fun e => by subst e; simp [hget, d_b4_b3, Ne.symm d_b4_b3, d_b6_b3, Ne.symm d_b6_b3, d_b6_b4, Ne.symm d_b6_b4, d_b7_b3, Ne.symm d_b7_b3, d_b7_b4, Ne.symm d_b7_b4, d_b7_b6, Ne.symm d_b7_b6, d_b33_b3, Ne.symm d_b33_b3, d_b33_b4, Ne.symm d_b33_b4, d_b33_b6, Ne.symm d_b33_b6, d_b33_b7, Ne.symm d_b33_b7] at h_b35
      have d_b35_b6 : ¬ b6 = b35 := fun e => by subst e; simp [hget, d_b4_b3, Ne.symm d_b4_b3, d_b6_b3, Ne.symm d_b6_b3, d_b6_b4, Ne.symm d_b6_b4, d_b7_b3, Ne.symm d_b7_b3, d_b7_b4, Ne.symm d_b7_b4, d_b7_b6, Ne.symm d_b7_b6, d_b33_b3, Ne.symm d_b33_b3, d_b33_b4, Ne.symm d_b33_b4, d_b33_b6, Ne.symm d_b33_b6, d_b33_b7, Ne.symm d_b33_b7] at h_b35
      have d_b35_b7 : ¬ b7 = b35 := fun e => by subst e; simp [hget, d_b4_b3, Ne.symm d_b4_b3, d_b6_b3, Ne.symm d_b6_b3, d_b6_b4, Ne.symm d_b6_b4, d_b7_b3, Ne.symm d_b7_b3, d_b7_b4, Ne.symm d_b7_b4, d_b7_b6, Ne.symm d_b7_b6, d_b33_b3, Ne.symm d_b33_b3, d_b33_b4, Ne.symm d_b33_b4, d_b33_b6, Ne.symm d_b33_b6, d_b33_b7, Ne.symm d_b33_b7] at h_b35
      have d_b35_b33 : ¬ b33 = b35 := fun e => by subst e; simp [hget, d_b4_b3, Ne.symm d_b4_b3, d_b6_b3, Ne.symm d_b6_b3, d_b6_b4, Ne.symm d_b6_b4, d_b7_b3, Ne.symm d_b7_b3, d_b7_b4, Ne.symm d_b7_b4, d_b7_b6, Ne.symm d_b7_b6, d_b33_b3, Ne.symm d_b33_b3, d_b33_b4, Ne.symm d_b33_b4, d_b33_b6, Ne.symm d_b33_b6, d_b33_b7, Ne.symm d_b33_b7] at h_b35
      try simp [runM_nil, tbV, d_b4_b3, Ne.symm d_b4_b3, d_b6_b3, Ne.symm d_b6_b3, d_b6_b4, Ne.symm d_b6_b4, d_b7_b3, Ne.symm d_b7_b3, d_b7_b4, Ne.symm d_b7_b4, d_b7_b6, Ne.symm d_b7_b6, d_b33_b3, Ne.symm d_b33_b3, d_b33_b4, Ne.symm d_b33_b4, d_b33_b6, Ne.symm d_b33_b6, d_b33_b7, Ne.symm d_b33_b7, d_b35_b3, Ne.symm d_b35_b3, d_b35_b4, Ne.symm d_b35_b4, d_b35_b6, Ne.symm d_b35_b6, d_b35_b7, Ne.symm d_b35_b7, d_b35_b33, Ne.symm d_b35_b33]
      refine hK _ _ ?_
      clear hK K
      first | refine pwp_sr ?_ | refine pwp_regionM ?_
      intro K hK
      simp [runM_nil, d_b4_b3, Ne.symm d_b4_b3, d_b6_b3, Ne.symm d_b6_b3, d_b6_b4, Ne.symm d_b6_b4, d_b7_b3, Ne.symm d_b7_b3, d_b7_b4, Ne.symm d_b7_b4, d_b7_b6, Ne.symm d_b7_b6, d_b33_b3, Ne.symm d_b33_b3, d_b33_b4, Ne.symm d_b33_b4, d_b33_b6, Ne.symm d_b33_b6, d_b33_b7, Ne.symm d_b33_b7, d_b35_b3, Ne.symm d_b35_b3, d_b35_b4, Ne.symm d_b35_b4, d_b35_b6, Ne.symm d_b35_b6, d_b35_b7, Ne.symm d_b35_b7, d_b35_b33, Ne.symm d_b35_b33]
      refine hK _ _ ?_
      clear hK K
      first | refine pwp_sr ?_ | refine pwp_regionM ?_
      intro K hK
      simp [runM_nil, d_b4_b3, Ne.symm d_b4_b3, d_b6_b3, Ne.symm d_b6_b3, d_b6_b4, Ne.symm d_b6_b4, d_b7_b3, Ne.symm d_b7_b3, d_b7_b4, Ne.symm d_b7_b4, d_b7_b6, Ne.symm d_b7_b6, d_b33_b3, Ne.symm d_b33_b3, d_b33_b4, Ne.symm d_b33_b4, d_b33_b6, Ne.symm d_b33_b6, d_b33_b7, Ne.symm d_b33_b7, d_b35_b3, Ne.symm d_b35_b3, d_b35_b4, Ne.symm d_b35_b4, d_b35_b6, Ne.symm d_b35_b6, d_b35_b7, Ne.symm d_b35_b7, d_b35_b33, Ne.symm d_b35_b33]
      refine hK _ _ ?_
      clear hK K
      refine pwp_regionM ?_
      intro K hK
      simp [runM_nil, d_b4_b3, Ne.symm d_b4_b3, d_b6_b3, Ne.symm d_b6_b3, d_b6_b4, Ne.symm d_b6_b4, d_b7_b3, Ne.symm d_b7_b3, d_b7_b4, Ne.symm d_b7_b4, d_b7_b6, Ne.symm d_b7_b6, d_b33_b3, Ne.symm d_b33_b3, d_b33_b4, Ne.symm d_b33_b4, d_b33_b6, Ne.symm d_b33_b6, d_b33_b7, Ne.symm d_b33_b7, d_b35_b3, Ne.symm d_b35_b3, d_b35_b4, Ne.symm d_b35_b4, d_b35_b6, Ne.symm d_b35_b6, d_b35_b7, Ne.symm d_b35_b7, d_b35_b33, Ne.symm d_b35_b33]
      refine hK _ _ ?_
      clear hK K
      exact cut_to (by simp [keepA, getS]) (.cons _ (.cons _ (.refl _))) ⟨rfl, by simp [tbC, tb0, actT]⟩
    · skip
      have c1 := lose_ok t i n hs
      have c2 := refLose_ok t i n hs
      simp only [tbV] at c1 c2
      first | refine pwp_rif ?_ | refine pwp_rifE ?_
      intro K hK
      simp [runM_nil, d_b4_b3, Ne.symm d_b4_b3, d_b6_b3, Ne.symm d_b6_b3, d_b6_b4, Ne.symm d_b6_b4, d_b7_b3, Ne.symm d_b7_b3, d_b7_b4, Ne.symm d_b7_b4, d_b7_b6, Ne.symm d_b7_b6]
      refine hK _ _ ?_
      clear hK K
      refine ifF (by simp [runM_nil]) ?_
      refine pwp_regionM ?_
      intro K hK
      simp [runM_nil, d_b4_b3, Ne.symm d_b4_b3, d_b6_b3, Ne.symm d_b6_b3, d_b6_b4, Ne.symm d_b6_b4, d_b7_b3, Ne.symm d_b7_b3, d_b7_b4, Ne.symm d_b7_b4, d_b7_b6, Ne.symm d_b7_b6]
      refine hK _ _ ?_
      clear hK K
      refine pwp_cF (by simp [runM_nil]) ?_
      first | refine pwp_sr ?_ | refine pwp_regionM ?_
      intro K hK
      simp [runM_nil, d_b4_b3, Ne.symm d_b4_b3, d_b6_b3, Ne.symm d_b6_b3, d_b6_b4, Ne.symm d_b6_b4, d_b7_b3, Ne.symm d_b7_b3, d_b7_b4, Ne.symm d_b7_b4, d_b7_b6, Ne.symm d_b7_b6]
      refine hK _ _ ?_
      clear hK K
      refine pwp_cF (by simp [runM_nil]) ?_
      first | refine pwp_sr ?_ | refine pwp_regionM ?_
      intro K hK
      simp [runM_nil, d_b4_b3, Ne.symm d_b4_b3, d_b6_b3, Ne.symm d_b6_b3, d_b6_b4, Ne.symm d_b6_b4, d_b7_b3, Ne.symm d_b7_b3, d_b7_b4, Ne.symm d_b7_b4, d_b7_b6, Ne.symm d_b7_b6]
      refine hK _ _ ?_
      clear hK K
      refine pwp_cF (by simp [runM_nil]) ?_
      first | refine pwp_sr ?_ | refine pwp_regionM ?_
      intro K hK
      simp [runM_nil, d_b4_b3, Ne.symm d_b4_b3, d_b6_b3, Ne.symm d_b6_b3, d_b6_b4, Ne.symm d_b6_b4, d_b7_b3, Ne.symm d_b7_b3, d_b7_b4, Ne.symm d_b7_b4, d_b7_b6, Ne.symm d_b7_b6]
      refine hK _ _ ?_
      clear hK K
      refine pwp_cF (by simp [runM_nil]) ?_
      first | refine pwp_sr ?_ | refine pwp_regionM ?_
      intro K hK
      simp [runM_nil, d_b4_b3, Ne.symm d_b4_b3, d_b6_b3, Ne.symm d_b6_b3, d_b6_b4, Ne.symm d_b6_b4, d_b7_b3, Ne.symm d_b7_b3, d_b7_b4, Ne.symm d_b7_b4, d_b7_b6, Ne.symm d_b7_b6]
      refine hK _ _ ?_
      clear hK K
      refine pwp_cF (by simp [runM_nil]) ?_
      first | refine pwp_sr ?_ | refine pwp_regionM ?_
      intro K hK
      simp [runM_nil, d_b4_b3, Ne.symm d_b4_b3, d_b6_b3, Ne.symm d_b6_b3, d_b6_b4, Ne.symm d_b6_b4, d_b7_b3, Ne.symm d_b7_b3, d_b7_b4, Ne.symm d_b7_b4, d_b7_b6, Ne.symm d_b7_b6]
      refine hK _ _ ?_
      clear hK K
      refine pwp_cT (by simp [runM_nil]) ?_
      first | refine pwp_sr ?_ | refine pwp_regionM ?_
      intro K hK
      simp [runM_nil, tbV, d_b4_b3, Ne.symm d_b4_b3, d_b6_b3, Ne.symm d_b6_b3, d_b6_b4, Ne.symm d_b6_b4, d_b7_b3, Ne.symm d_b7_b3, d_b7_b4, Ne.symm d_b7_b4, d_b7_b6, Ne.symm d_b7_b6]
      refine useP (c1) ?_
      simp [runM_nil, tbV, d_b4_b3, Ne.symm d_b4_b3, d_b6_b3, Ne.symm d_b6_b3, d_b6_b4, Ne.symm d_b6_b4, d_b7_b3, Ne.symm d_b7_b3, d_b7_b4, Ne.symm d_b7_b4, d_b7_b6, Ne.symm d_b7_b6]
      intro b37 h_b37
      have d_b37_b3 : ¬ b3 = b37 := fun e => by subst e; simp [hget, d_b4_b3, Ne.symm d_b4_b3, d_b6_b3, Ne.symm d_b6_b3, d_b6_b4, Ne.symm d_b6_b4, d_b7_b3, Ne.symm d_b7_b3, d_b7_b4, Ne.symm d_b7_b4, d_b7_b6, Ne.symm d_b7_b6] at h_b37
      have d_b37_b4 : ¬ b4 = b37 := fun e => by subst e; simp [hget, d_b4_b3, Ne.symm d_b4_b3, d_b6_b3, Ne.symm d_b6_b3, d_b6_b4, Ne.symm d_b6_b4, d_b7_b3, Ne.symm d_b7_b3, d_b7_b4, Ne.symm d_b7_b4, d_b7_b6, Ne.symm d_b7_b6] at h_b37
      have d_b37_b6 : ¬ b6 = b37 := fun e => by subst e; simp [hget, d_b4_b3, Ne.symm d_b4_b3, d_b6_b3, Ne.symm d_b6_b3, d_b6_b4, Ne.symm d_b6_b4, d_b7_b3, Ne.symm d_b7_b3, d_b7_b4, Ne.symm d_b7_b4, d_b7_b6, Ne.symm d_b7_b6] at h_b37
      have d_b37_b7 : ¬ b7 = b37 := fun e => by subst e; simp [hget, d_b4_b3, Ne.symm d_b4_b3, d_b6_b3, Ne.symm d_b6_b3, d_b6_b4, Ne.symm d_b6_b4, d_b7_b3, Ne.symm d_b7_b3, d_b7_b4, Ne.symm d_b7_b4, d_b7_b6, Ne.symm d_b7_b6] at h_b37
      try simp [runM_nil, tbV, d_b4_b3, Ne.symm d_b4_b3, d_b6_b3, Ne.symm d_b6_b3, d_b6_b4, Ne.symm d_b6_b4, d_b7_b3, Ne.symm d_b7_b3, d_b7_b4, Ne.symm d_b7_b4, d_b7_b6, Ne.symm d_b7_b6, d_b37_b3, Ne.symm d_b37_b3, d_b37_b4, Ne.symm d_b37_b4, d_b37_b6, Ne.symm d_b37_b6, d_b37_b7, Ne.symm d_b37_b7]
      refine hK _ _ ?_
      clear hK K
      first | refine pwp_sr ?_ | refine pwp_regionM ?_
      intro K hK
      simp [runM_nil, tbV, d_b4_b3, Ne.symm d_b4_b3, d_b6_b3, Ne.symm d_b6_b3, d_b6_b4, Ne.symm d_b6_b4, d_b7_b3, Ne.symm d_b7_b3, d_b7_b4, Ne.symm d_b7_b4, d_b7_b6, Ne.symm d_b7_b6, d_b37_b3, Ne.symm d_b37_b3, d_b37_b4, Ne.symm d_b37_b4, d_b37_b6, Ne.symm d_b37_b6, d_b37_b7, Ne.symm d_b37_b7]
      refine useP (c2) ?_
      simp [runM_nil, tbV, d_b4_b3, Ne.symm d_b4_b3, d_b6_b3, Ne.symm d_b6_b3, d_b6_b4, Ne.symm d_b6_b4, d_b7_b3, Ne.symm d_b7_b3, d_b7_b4, Ne.symm d_b7_b4, d_b7_b6, Ne.symm d_b7_b6, d_b37_b3, Ne.symm d_b37_b3, d_b37_b4, Ne.symm d_b37_b4, d_b37_b6, Ne.symm d_b37_b6, d_b37_b7, Ne.symm d_b37_b7]
      intro b39 h_b39
      have d_b39_b3 : ¬ b3 = b39 := fun e => by subst e; simp [hget, d_b4_b3, Ne.symm d_b4_b3, d_b6_b3, Ne.symm d_b6_b3, d_b6_b4, Ne.symm d_b6_b4, d_b7_b3, Ne.symm d_b7_b3, d_b7_b4, Ne.symm d_b7_b4, d_b7_b6, Ne.symm d_b7_b6, d_b37_b3, Ne.symm d_b37_b3, d_b37_b4, Ne.symm d_b37_b4, d_b37_b6, Ne.symm d_b37_b6, d_b37_b7, Ne.symm d_b37_b7] at h_b39
      have d_b39_b4 : ¬ b4 = b39 := fun e => by subst e; simp [hget, d_b4_b3, Ne.symm d_b4_b3, d_b6_b3, Ne.symm d_b6_b3, d_b6_b4, Ne.symm d_b6_b4, d_b7_b3, Ne.symm d_b7_b3, d_b7_b4, Ne.symm d_b7_b4, d_b7_b6, Ne.symm d_b7_b6, d_b37_b3, Ne.symm d_b37_b3, d_b37_b4, Ne.symm d_b37_b4, d_b37_b6, Ne.symm d_b37_b6, d_b37_b7, Ne.symm d_b37_b7] at h_b39
      have d_b39_b6 : ¬ b6 = b39 := fun e => by subst e; simp [hget, d_b4_b3, Ne.symm d_b4_b3, d_b6_b3, Ne.symm d_b6_b3, d_b6_b4, Ne.symm d_b6_b4, d_b7_b3, Ne.symm d_b7_b3, d_b7_b4, Ne.symm d_b7_b4, d_b7_b6, Ne.symm d_b7_b6, d_b37_b3, Ne.symm d_b37_b3, d_b37_b4, Ne.symm d_b37_b4, d_b37_b6, Ne.symm d_b37_b6, d_b37_b7, Ne.symm d_b37_b7] at h_b39
      have d_b39_b7 : ¬ b7 = b39 := fun e => by subst e; simp [hget, d_b4_b3, Ne.symm d_b4_b3, d_b6_b3, Ne.symm d_b6_b3, d_b6_b4, Ne.symm d_b6_b4, d_b7_b3, Ne.symm d_b7_b3, d_b7_b4, Ne.symm d_b7_b4, d_b7_b6, Ne.symm d_b7_b6, d_b37_b3, Ne.symm d_b37_b3, d_b37_b4, Ne.symm d_b37_b4, d_b37_b6, Ne.symm d_b37_b6, d_b37_b7, Ne.symm d_b37_b7] at h_b39
      have d_b39_b37 : ¬ b37 = b39 := fun e => by subst e; simp [hget, d_b4_b3, Ne.symm d_b4_b3, d_b6_b3, Ne.symm d_b6_b3, d_b6_b4, Ne.symm d_b6_b4, d_b7_b3, Ne.symm d_b7_b3, d_b7_b4, Ne.symm d_b7_b4, d_b7_b6, Ne.symm d_b7_b6, d_b37_b3, Ne.symm d_b37_b3, d_b37_b4, Ne.symm d_b37_b4, d_b37_b6, Ne.symm d_b37_b6, d_b37_b7, Ne.symm d_b37_b7] at h_b39
      try simp [runM_nil, tbV, d_b4_b3, Ne.symm d_b4_b3, d_b6_b3, Ne.symm d_b6_b3, d_b6_b4, Ne.symm d_b6_b4, d_b7_b3, Ne.symm d_b7_b3, d_b7_b4, Ne.symm d_b7_b4, d_b7_b6, Ne.symm d_b7_b6, d_b37_b3, Ne.symm d_b37_b3, d_b37_b4, Ne.symm d_b37_b4, d_b37_b6, Ne.symm d_b37_b6, d_b37_b7, Ne.symm d_b37_b7, d_b39_b3, Ne.symm d_b39_b3, d_b39_b4, Ne.symm d_b39_b4, d_b39_b6, Ne.symm d_b39_b6, d_b39_b7, Ne.symm d_b39_b7, d_b39_b37, Ne.symm d_b39_b37]
      refine hK _ _ ?_
      clear hK K
      first | refine pwp_sr ?_ | refine pwp_regionM ?_
      intro K hK
      simp [runM_nil, d_b4_b3, Ne.symm d_b4_b3, d_b6_b3, Ne.symm d_b6_b3, d_b6_b4, Ne.symm d_b6_b4, d_b7_b3, Ne.symm d_b7_b3, d_b7_b4, Ne.symm d_b7_b4, d_b7_b6, Ne.symm d_b7_b6, d_b37_b3, Ne.symm d_b37_b3, d_b37_b4, Ne.symm d_b37_b4, d_b37_b6, Ne.symm d_b37_b6, d_b37_b7, Ne.symm d_b37_b7, d_b39_b3, Ne.symm d_b39_b3, d_b39_b4, Ne.symm d_b39_b4, d_b39_b6, Ne.symm d_b39_b6, d_b39_b7, Ne.symm d_b39_b7, d_b39_b37, Ne.symm d_b39_b37]
      refine hK _ _ ?_
      clear hK K
      first | refine pwp_sr ?_ | refine pwp_regionM ?_
      intro K hK
      simp [runM_nil, d_b4_b3, Ne.symm d_b4_b3, d_b6_b3, Ne.symm d_b6_b3, d_b6_b4, Ne.symm d_b6_b4, d_b7_b3, Ne.symm d_b7_b3, d_b7_b4, Ne.symm d_b7_b4, d_b7_b6, Ne.symm d_b7_b6, d_b37_b3, Ne.symm d_b37_b3, d_b37_b4, Ne.symm d_b37_b4, d_b37_b6, Ne.symm d_b37_b6, d_b37_b7, Ne.symm d_b37_b7, d_b39_b3, Ne.symm d_b39_b3, d_b39_b4, Ne.symm d_b39_b4, d_b39_b6, Ne.symm d_b39_b6, d_b39_b7, Ne.symm d_b39_b7, d_b39_b37, Ne.symm d_b39_b37]
      refine hK _ _ ?_
      clear hK K
      refine pwp_regionM ?_
      intro K hK
      simp [runM_nil, d_b4_b3, Ne.symm d_b4_b3, d_b6_b3, Ne.symm d_b6_b3, d_b6_b4, Ne.symm d_b6_b4, d_b7_b3, Ne.symm d_b7_b3, d_b7_b4, Ne.symm d_b7_b4, d_b7_b6, Ne.symm d_b7_b6, d_b37_b3, Ne.symm d_b37_b3, d_b37_b4, Ne.symm d_b37_b4, d_b37_b6, Ne.symm d_b37_b6, d_b37_b7, Ne.symm d_b37_b7, d_b39_b3, Ne.symm d_b39_b3, d_b39_b4, Ne.symm d_b39_b4, d_b39_b6, Ne.symm d_b39_b6, d_b39_b7, Ne.symm d_b39_b7, d_b39_b37, Ne.symm d_b39_b37]
      refine hK _ _ ?_
      clear hK K
      exact cut_to (by simp [keepA, getS]) (.cons _ (.cons _ (.refl _))) ⟨rfl, by simp [tbC, tb0, actT]⟩
    · skip
      first | refine pwp_rif ?_ | refine pwp_rifE ?_
      intro K hK
      simp [runM_nil, k1, d_b4_b3, Ne.symm d_b4_b3, d_b6_b3, Ne.symm d_b6_b3, d_b6_b4, Ne.symm d_b6_b4, d_b7_b3, Ne.symm d_b7_b3, d_b7_b4, Ne.symm d_b7_b4, d_b7_b6, Ne.symm d_b7_b6]
      refine hK _ _ ?_
      clear hK K
      refine ifF (by simp [runM_nil]) ?_
      refine pwp_regionM ?_
      intro K hK
      simp [runM_nil, k7, d_b4_b3, Ne.symm d_b4_b3, d_b6_b3, Ne.symm d_b6_b3, d_b6_b4, Ne.symm d_b6_b4, d_b7_b3, Ne.symm d_b7_b3, d_b7_b4, Ne.symm d_b7_b4, d_b7_b6, Ne.symm d_b7_b6]
      refine hK _ _ ?_
      clear hK K
      refine pwp_cF (by simp [runM_nil]) ?_
      first | refine pwp_sr ?_ | refine pwp_regionM ?_
      intro K hK
      simp [runM_nil, k2, d_b4_b3, Ne.symm d_b4_b3, d_b6_b3, Ne.symm d_b6_b3, d_b6_b4, Ne.symm d_b6_b4, d_b7_b3, Ne.symm d_b7_b3, d_b7_b4, Ne.symm d_b7_b4, d_b7_b6, Ne.symm d_b7_b6]
      refine hK _ _ ?_
      clear hK K
      refine pwp_cF (by simp [runM_nil]) ?_
      first | refine pwp_sr ?_ | refine pwp_regionM ?_
      intro K hK
      simp [runM_nil, k3, d_b4_b3, Ne.symm d_b4_b3, d_b6_b3, Ne.symm d_b6_b3, d_b6_b4, Ne.symm d_b6_b4, d_b7_b3, Ne.symm d_b7_b3, d_b7_b4, Ne.symm d_b7_b4, d_b7_b6, Ne.symm d_b7_b6]
      refine hK _ _ ?_
      clear hK K
      refine pwp_cF (by simp [runM_nil]) ?_
      first | refine pwp_sr ?_ | refine pwp_regionM ?_
      intro K hK
      simp [runM_nil, k4, d_b4_b3, Ne.symm d_b4_b3, d_b6_b3, Ne.symm d_b6_b3, d_b6_b4, Ne.symm d_b6_b4, d_b7_b3, Ne.symm d_b7_b3, d_b7_b4, Ne.symm d_b7_b4, d_b7_b6, Ne.symm d_b7_b6]
      refine hK _ _ ?_
      clear hK K
      refine pwp_cF (by simp [runM_nil]) ?_
      first | refine pwp_sr ?_ | refine pwp_regionM ?_
      intro K hK
      simp [runM_nil, k5, d_b4_b3, Ne.symm d_b4_b3, d_b6_b3, Ne.symm d_b6_b3, d_b6_b4, Ne.symm d_b6_b4, d_b7_b3, Ne.symm d_b7_b3, d_b7_b4, Ne.symm d_b7_b4, d_b7_b6, Ne.symm d_b7_b6]
      refine hK _ _ ?_
      clear hK K
      refine pwp_cF (by simp [runM_nil]) ?_
      first | refine pwp_sr ?_ | refine pwp_regionM ?_
      intro K hK
      simp [runM_nil, k6, d_b4_b3, Ne.symm d_b4_b3, d_b6_b3, Ne.symm d_b6_b3, d_b6_b4, Ne.symm d_b6_b4, d_b7_b3, Ne.symm d_b7_b3, d_b7_b4, Ne.symm d_b7_b4, d_b7_b6, Ne.symm d_b7_b6]
      refine hK _ _ ?_
      clear hK K
      refine pwp_cF (by simp [runM_nil]) ?_
      refine pwp_skip ?_
      exact cut_to (by simp [keepA, getS]) (.refl _) ⟨rfl, by simp [tbC, tb0, actT, tbV, k1, k2, k3, k4, k5, k6, k7]⟩
  · rintro _ _ ⟨rfl, rfl⟩
    generalize actT t kd i n w now = u at *
    simp only [tbV] at hpl hsm
    refine pwp_ss hmix ?_
    intro K hK
    simp [runM_nil, planS_nil, tbC, tb0, d_b4_b3, Ne.symm d_b4_b3, d_b6_b3, Ne.symm d_b6_b3, d_b6_b4, Ne.symm d_b6_b4, d_b7_b3, Ne.symm d_b7_b3, d_b7_b4, Ne.symm d_b7_b4, d_b7_b6, Ne.symm d_b7_b6]
    refine useDS (hpl) ?_
    simp [runM_nil, planS_nil, tbC, tb0, d_b4_b3, Ne.symm d_b4_b3, d_b6_b3, Ne.symm d_b6_b3, d_b6_b4, Ne.symm d_b6_b4, d_b7_b3, Ne.symm d_b7_b3, d_b7_b4, Ne.symm d_b7_b4, d_b7_b6, Ne.symm d_b7_b6]
    refine useDS (hsm) ?_
    simp [runM_nil, planS_nil, tbC, tb0, d_b4_b3, Ne.symm d_b4_b3, d_b6_b3, Ne.symm d_b6_b3, d_b6_b4, Ne.symm d_b6_b4, d_b7_b3, Ne.symm d_b7_b3, d_b7_b4, Ne.symm d_b7_b4, d_b7_b6, Ne.symm d_b7_b6]
    refine hK _ _ ?_
    clear hK K
    refine pwp_ret ⟨.inr rfl, _, _, (by simp [runM_nil, resL, tbV, d_b4_b3, Ne.symm d_b4_b3, d_b6_b3, Ne.symm d_b6_b3, d_b6_b4, Ne.symm d_b6_b4, d_b7_b3, Ne.symm d_b7_b3, d_b7_b4, Ne.symm d_b7_b4, d_b7_b6, Ne.symm d_b7_b6]; rfl), (.cons _ (.cons _ (.cons _ (.cons _ (.refl _))))), by simp [resV, tbV], rfl⟩
#print axioms act_ok
end Go.Proofs.Ytkjibelcaeanjaa.E
/- The law TaskPlays, on plain values. -/
namespace Go.Proofs.Ytkjibelcaeanjaa.E
open Go Go.RowKit Go.Proofs
set_option linter.unusedVariables false
set_option linter.unusedSimpArgs false
theorem new_facts (n most tm : Int) : Small (newT n most tm).1 ∧ ((newT n most tm).2 = 1 ∨ ((newT n most tm).2 = 0 ∧ mayT (newT n most tm).1 = true ∧ timedT (newT n most tm).1 = true ∧ failsT (newT n most tm).1 0)) := by
  have hz : Small (⟨0, 0, []⟩ : Tb) := ⟨by simp, by simp⟩
  rcases new_cases n most tm with ⟨_, e⟩ | ⟨_, _, e⟩ | ⟨_, _, _, e⟩ | ⟨_, _, _, _, e⟩ | ⟨_, _, _, _, _, e⟩ | ⟨_, _, _, _, _, _, e⟩ | ⟨h1, h2, h3, h4, h5, h6, e⟩
  all_goals rw [e]
  any_goals exact ⟨hz, .inl rfl⟩
  have hma : mayT (⟨most, tm, List.replicate n.toNat ⟨[], -1, 0⟩⟩ : Tb) = true := by
    simp only [mayT, Bool.and_eq_true, inB, decide_eq_true_eq, List.length_replicate]
    refine ⟨by omega, by omega, by omega, ?_⟩
    rw [List.all_eq_true]
    intro x hx
    rw [List.eq_of_mem_replicate hx]
    decide +kernel
  refine ⟨may_small hma, .inr ⟨rfl, hma, ?_, ?_⟩⟩
  · simp only [timedT]
    rw [List.all_eq_true]
    intro x hx
    rw [List.eq_of_mem_replicate hx]
    rfl
  · intro x hx
    rw [List.eq_of_mem_replicate hx]
    exact Int.le_refl _
structure Ac where
  kd : Int
  i : Int
  n : Int
  w : Int
  now : Int
def acV (a : Ac) : PV := .agg [.int .i64 a.kd, .int .i64 a.i, .int .i64 a.n, .int .i64 a.w, .int .i64 a.now]
set_option maxRecDepth 8000 in
set_option maxHeartbeats 16000000 in
theorem taskPlays (n most tm : Int) (l : List Ac) : PSpec Try.prog 4 [.agg [.int .i64 n, .int .i64 most, .int .i64 tm], .lst 5 (l.map acV) false] (.bool true) := by
  intro H
  have c1 := New_ok n most tm
  have c2 := refNew_ok n most tm
  obtain ⟨hs0, he⟩ := new_facts n most tm
  generalize hx : newT n most tm = x at *
  obtain ⟨t0, e⟩ := x
  clear hx
  simp only at hs0 he c1 c2
  have c3 := plain_ok t0 hs0
  have c4 := refSame_ok t0 hs0
  simp only [tbV] at c1 c2 c3 c4
  refine spec_of t4 (by simp [p4]) ?_
  simp only [p4]
  first | refine pwp_sr ?_ | refine pwp_regionM ?_
  intro K hK
  simp [runM_nil]
  refine hK _ _ ?_
  clear hK K
  first | refine pwp_sr ?_ | refine pwp_regionM ?_
  intro K hK
  simp [runM_nil]
  refine useP (c1) ?_
  simp [runM_nil]
  intro b5 h_b5
  try simp [runM_nil]
  refine hK _ _ ?_
  clear hK K
  first | refine pwp_sr ?_ | refine pwp_regionM ?_
  intro K hK
  simp [runM_nil]
  refine useP (c2) ?_
  simp [runM_nil]
  intro b7 h_b7
  have d_b7_b5 : ¬ b5 = b7 := fun e => by subst e; simp [hget] at h_b7
  try simp [runM_nil, d_b7_b5, Ne.symm d_b7_b5]
  refine hK _ _ ?_
  clear hK K
  first | refine pwp_dif hmix ?_ | refine pwp_difE hmix ?_
  intro K hK
  simp [runM_nil, d_b7_b5, Ne.symm d_b7_b5]
  refine useD (c3) ?_
  simp [runM_nil, d_b7_b5, Ne.symm d_b7_b5]
  refine useD (c4) ?_
  simp [runM_nil, d_b7_b5, Ne.symm d_b7_b5]
  refine hK _ _ ?_
  clear hK K
  refine ifF (by simp [runM_nil]) (pwp_skip ?_)
  refine pwp_cut [] (fun st2 H2 => st2 = MS 124 [] ∧ H2 = H) ?_ ?_
  · first | refine pwp_sr ?_ | refine pwp_regionM ?_
    intro K hK
    simp [runM_nil, d_b7_b5, Ne.symm d_b7_b5]
    refine hK _ _ ?_
    clear hK K
    refine pwp_block ?_
    rcases he with rfl | ⟨rfl, hma, ht, hfl⟩
    · refine pwp_loopK [6] (fun m st H' => m = 0 ∧ H' = H ∧ st = MS 124 [(6, .int .i64 1)]) (n := 0) ⟨H, .cons _ (.cons _ (.refl _)), rfl, rfl, by simp [keepL_MS, keepA, getS]⟩ ?_
      rintro m st _ ⟨rfl, rfl, rfl⟩
      first | refine pwp_rif ?_ | refine pwp_rifE ?_
      intro K hK
      simp [runM_nil, d_b7_b5, Ne.symm d_b7_b5]
      refine hK _ _ ?_
      clear hK K
      refine ifF (by simp [runM_nil]) ?_
      refine pwp_exit (cut_to (by simp [keepA, getS]) (.refl _) ⟨rfl, rfl⟩)
    · refine pwp_loopK [1, 5, 6, 7, 9] (fun m st H' => ∃ (k : Nat) (t : Tb), k ≤ l.length ∧ k ≤ 80 ∧ m = l.length - k ∧ mayT t = true ∧ timedT t = true ∧ failsT t k ∧ H' = (b7, tbC t) :: (b5, tbC t) :: H ∧
          st = MS 124 [(1, .lst 5 (l.map acV) false), (5, .ptr (some (b5, 0))), (6, .int .i64 0), (7, .ptr (some (b7, 0))), (9, .int .i64 k)]) (n := l.length)
          ⟨_, .refl _, 0, t0, Nat.zero_le _, by omega, rfl, hma, ht, hfl, rfl, by simp [keepL_MS, keepA, getS]⟩ ?_
      clear c1 c2 c3 c4 hs0 hma ht hfl
      rintro m st _ ⟨k, t, hk, hk2, rfl, hma, ht, hfl, rfl, rfl⟩
      by_cases hlt : k < l.length
      case neg =>
        first | refine pwp_rif ?_ | refine pwp_rifE ?_
        intro K hK
        simp [runM_nil, hlt, d_b7_b5, Ne.symm d_b7_b5]
        refine hK _ _ ?_
        clear hK K
        refine ifF (by simp [runM_nil]) ?_
        refine pwp_exit (cut_to (by simp [keepA, getS]) (.cons _ (.cons _ (.refl _))) ⟨rfl, rfl⟩)
      by_cases h80 : k < 80
      case neg =>
        have h80' : ¬ (k : Int) < 80 := by omega
        first | refine pwp_rif ?_ | refine pwp_rifE ?_
        intro K hK
        simp [runM_nil, hlt, h80, h80', d_b7_b5, Ne.symm d_b7_b5]
        refine hK _ _ ?_
        clear hK K
        refine ifF (by simp [runM_nil]) ?_
        refine pwp_exit (cut_to (by simp [keepA, getS]) (.cons _ (.cons _ (.refl _))) ⟨rfl, rfl⟩)
      have h80' : (k : Int) < 80 := by omega
      first | refine pwp_rif ?_ | refine pwp_rifE ?_
      intro K hK
      simp [runM_nil, hlt, h80, h80', d_b7_b5, Ne.symm d_b7_b5]
      refine hK _ _ ?_
      clear hK K
      refine ifT (by simp [runM_nil]) (pwp_skip ?_)
      have hw : IntKind.i64.wrap ((k : Int) + 1) = ((k + 1 : Nat) : Int) := by rw [w64 (by omega) (by omega)]; rfl
      have hgx : (l.map acV)[k]? = some (acV l[k]) := by simp [hlt]
      generalize hax : l[k] = ax at *
      obtain ⟨kd, i, nn, w, now⟩ := ax
      have csm := small_ok kd i nn w now
      refine pwp_cut [1, 5, 6, 7, 9] (fun st2 H2 => ∃ t' : Tb, mayT t' = true ∧ timedT t' = true ∧ failsT t' (k + 1 : Nat) ∧ H2 = (b7, tbC t') :: (b5, tbC t') :: H ∧
        st2 = MS 124 [(1, .lst 5 (l.map acV) false), (5, .ptr (some (b5, 0))), (6, .int .i64 0), (7, .ptr (some (b7, 0))), (9, .int .i64 k)]) ?_ ?_
      · refine pwp_block ?_
        cases hnn : (decide (0 ≤ now) && decide (now ≤ 1000000000)) with
        | false =>
          first | refine pwp_rif ?_ | refine pwp_rifE ?_
          intro K hK
          simp [runM_nil, hgx, hlt, hax, acV, hnn, d_b7_b5, Ne.symm d_b7_b5]
          refine useP (csm) ?_
          simp [runM_nil, hgx, hlt, hax, acV, hnn, d_b7_b5, Ne.symm d_b7_b5]
          refine hK _ _ ?_
          clear hK K
          refine ifT (by simp [runM_nil]) ?_
          refine pwp_exit (cut_to (by simp [keepA, getS]) (.refl _) ⟨t, hma, ht, (fun x hx => by have := hfl x hx; omega), rfl, rfl⟩)
        | true =>
          have hnow : 0 ≤ now ∧ now ≤ 1000000000 := by simpa using hnn
          first | refine pwp_rif ?_ | refine pwp_rifE ?_
          intro K hK
          simp [runM_nil, hgx, hlt, hax, acV, hnn, d_b7_b5, Ne.symm d_b7_b5]
          refine useP (csm) ?_
          simp [runM_nil, hgx, hlt, hax, acV, hnn, d_b7_b5, Ne.symm d_b7_b5]
          refine hK _ _ ?_
          clear hK K
          refine ifF (by simp [runM_nil]) (pwp_skip ?_)
          have ca := act_ok t kd i nn w now hma ht hnow hfl (by omega)
          obtain ⟨hma', ht', hfl'⟩ := act_keeps hma ht kd i nn w now hnow hfl (by omega)
          generalize actT t kd i nn w now = u at *
          have hs := may_small hma
          have hs' := may_small hma'
          have c3 := plain_ok t hs
          have c4 := refSame_ok t hs
          have c5 := Failed_ok u hs'
          have c6 := refFailed_ok u hs'
          have c7 := All_ok u hs'
          have c8 := refAll_ok u hs' hma'
          have c9 := May_ok u hs'
          rw [hma'] at c9
          generalize idxOf (failedAt u) u.l = ix at *
          simp only [tbV] at ca c3 c4 c5 c6 c7 c8 c9
          first | refine pwp_sn hmix (by simp [MS_length]) ?_ | refine pwp_drawNS hmix (by simp [MS_length]) ?_
          intro K hK
          simp [runM_nil, planS_nil, tbC, d_b7_b5, Ne.symm d_b7_b5]
          intro b10 h_b10
          have d_b10_b5 : ¬ b5 = b10 := fun e => by subst e; simp [hget, d_b7_b5, Ne.symm d_b7_b5] at h_b10
          have d_b10_b7 : ¬ b7 = b10 := fun e => by subst e; simp [hget, d_b7_b5, Ne.symm d_b7_b5] at h_b10
          try simp [runM_nil, planS_nil, tbC, d_b7_b5, Ne.symm d_b7_b5, d_b10_b5, Ne.symm d_b10_b5, d_b10_b7, Ne.symm d_b10_b7]
          intro b11 h_b11
          have d_b11_b5 : ¬ b5 = b11 := fun e => by subst e; simp [hget, d_b7_b5, Ne.symm d_b7_b5, d_b10_b5, Ne.symm d_b10_b5, d_b10_b7, Ne.symm d_b10_b7] at h_b11
          have d_b11_b7 : ¬ b7 = b11 := fun e => by subst e; simp [hget, d_b7_b5, Ne.symm d_b7_b5, d_b10_b5, Ne.symm d_b10_b5, d_b10_b7, Ne.symm d_b10_b7] at h_b11
          have d_b11_b10 : ¬ b10 = b11 := fun e => by subst e; simp [hget, d_b7_b5, Ne.symm d_b7_b5, d_b10_b5, Ne.symm d_b10_b5, d_b10_b7, Ne.symm d_b10_b7] at h_b11
          try simp [runM_nil, planS_nil, tbC, d_b7_b5, Ne.symm d_b7_b5, d_b10_b5, Ne.symm d_b10_b5, d_b10_b7, Ne.symm d_b10_b7, d_b11_b5, Ne.symm d_b11_b5, d_b11_b7, Ne.symm d_b11_b7, d_b11_b10, Ne.symm d_b11_b10]
          refine hK _ _ ?_
          clear hK K
          first | refine pwp_sn hmix (by simp [MS_length]) ?_ | refine pwp_drawNS hmix (by simp [MS_length]) ?_
          intro K hK
          simp [runM_nil, planS_nil, tbC, hgx, hlt, hax, acV, d_b7_b5, Ne.symm d_b7_b5, d_b10_b5, Ne.symm d_b10_b5, d_b10_b7, Ne.symm d_b10_b7, d_b11_b5, Ne.symm d_b11_b5, d_b11_b7, Ne.symm d_b11_b7, d_b11_b10, Ne.symm d_b11_b10]
          refine useDS (ca) ?_
          simp [runM_nil, planS_nil, tbC, hgx, hlt, hax, acV, d_b7_b5, Ne.symm d_b7_b5, d_b10_b5, Ne.symm d_b10_b5, d_b10_b7, Ne.symm d_b10_b7, d_b11_b5, Ne.symm d_b11_b5, d_b11_b7, Ne.symm d_b11_b7, d_b11_b10, Ne.symm d_b11_b10]
          intro b12 h_b12
          have d_b12_b5 : ¬ b5 = b12 := fun e => by subst e; simp [hget, d_b7_b5, Ne.symm d_b7_b5, d_b10_b5, Ne.symm d_b10_b5, d_b10_b7, Ne.symm d_b10_b7, d_b11_b5, Ne.symm d_b11_b5, d_b11_b7, Ne.symm d_b11_b7, d_b11_b10, Ne.symm d_b11_b10] at h_b12
          have d_b12_b7 : ¬ b7 = b12 := fun e => by subst e; simp [hget, d_b7_b5, Ne.symm d_b7_b5, d_b10_b5, Ne.symm d_b10_b5, d_b10_b7, Ne.symm d_b10_b7, d_b11_b5, Ne.symm d_b11_b5, d_b11_b7, Ne.symm d_b11_b7, d_b11_b10, Ne.symm d_b11_b10] at h_b12
          have d_b12_b10 : ¬ b10 = b12 := fun e => by subst e; simp [hget, d_b7_b5, Ne.symm d_b7_b5, d_b10_b5, Ne.symm d_b10_b5, d_b10_b7, Ne.symm d_b10_b7, d_b11_b5, Ne.symm d_b11_b5, d_b11_b7, Ne.symm d_b11_b7, d_b11_b10, Ne.symm d_b11_b10] at h_b12
          have d_b12_b11 : ¬ b11 = b12 := fun e => by subst e; simp [hget, d_b7_b5, Ne.symm d_b7_b5, d_b10_b5, Ne.symm d_b10_b5, d_b10_b7, Ne.symm d_b10_b7, d_b11_b5, Ne.symm d_b11_b5, d_b11_b7, Ne.symm d_b11_b7, d_b11_b10, Ne.symm d_b11_b10] at h_b12
          try simp [runM_nil, planS_nil, tbC, hgx, hlt, hax, acV, d_b7_b5, Ne.symm d_b7_b5, d_b10_b5, Ne.symm d_b10_b5, d_b10_b7, Ne.symm d_b10_b7, d_b11_b5, Ne.symm d_b11_b5, d_b11_b7, Ne.symm d_b11_b7, d_b11_b10, Ne.symm d_b11_b10, d_b12_b5, Ne.symm d_b12_b5, d_b12_b7, Ne.symm d_b12_b7, d_b12_b10, Ne.symm d_b12_b10, d_b12_b11, Ne.symm d_b12_b11]
          intro b13 h_b13
          have d_b13_b5 : ¬ b5 = b13 := fun e => by subst e; simp [hget, d_b7_b5, Ne.symm d_b7_b5, d_b10_b5, Ne.symm d_b10_b5, d_b10_b7, Ne.symm d_b10_b7, d_b11_b5, Ne.symm d_b11_b5, d_b11_b7, Ne.symm d_b11_b7, d_b11_b10, Ne.symm d_b11_b10, d_b12_b5, Ne.symm d_b12_b5, d_b12_b7, Ne.symm d_b12_b7, d_b12_b10, Ne.symm d_b12_b10, d_b12_b11, Ne.symm d_b12_b11] at h_b13
          have d_b13_b7 : ¬ b7 = b13 := fun e => by subst e; simp [hget, d_b7_b5, Ne.symm d_b7_b5, d_b10_b5, Ne.symm d_b10_b5, d_b10_b7, Ne.symm d_b10_b7, d_b11_b5, Ne.symm d_b11_b5, d_b11_b7, Ne.symm d_b11_b7, d_b11_b10, Ne.symm d_b11_b10, d_b12_b5, Ne.symm d_b12_b5, d_b12_b7, Ne.symm d_b12_b7, d_b12_b10, Ne.symm d_b12_b10, d_b12_b11, Ne.symm d_b12_b11] at h_b13
          have d_b13_b10 : ¬ b10 = b13 := fun e => by subst e; simp [hget, d_b7_b5, Ne.symm d_b7_b5, d_b10_b5, Ne.symm d_b10_b5, d_b10_b7, Ne.symm d_b10_b7, d_b11_b5, Ne.symm d_b11_b5, d_b11_b7, Ne.symm d_b11_b7, d_b11_b10, Ne.symm d_b11_b10, d_b12_b5, Ne.symm d_b12_b5, d_b12_b7, Ne.symm d_b12_b7, d_b12_b10, Ne.symm d_b12_b10, d_b12_b11, Ne.symm d_b12_b11] at h_b13
          have d_b13_b11 : ¬ b11 = b13 := fun e => by subst e; simp [hget, d_b7_b5, Ne.symm d_b7_b5, d_b10_b5, Ne.symm d_b10_b5, d_b10_b7, Ne.symm d_b10_b7, d_b11_b5, Ne.symm d_b11_b5, d_b11_b7, Ne.symm d_b11_b7, d_b11_b10, Ne.symm d_b11_b10, d_b12_b5, Ne.symm d_b12_b5, d_b12_b7, Ne.symm d_b12_b7, d_b12_b10, Ne.symm d_b12_b10, d_b12_b11, Ne.symm d_b12_b11] at h_b13
          have d_b13_b12 : ¬ b12 = b13 := fun e => by subst e; simp [hget, d_b7_b5, Ne.symm d_b7_b5, d_b10_b5, Ne.symm d_b10_b5, d_b10_b7, Ne.symm d_b10_b7, d_b11_b5, Ne.symm d_b11_b5, d_b11_b7, Ne.symm d_b11_b7, d_b11_b10, Ne.symm d_b11_b10, d_b12_b5, Ne.symm d_b12_b5, d_b12_b7, Ne.symm d_b12_b7, d_b12_b10, Ne.symm d_b12_b10, d_b12_b11, Ne.symm d_b12_b11] at h_b13
          try simp [runM_nil, planS_nil, tbC, hgx, hlt, hax, acV, d_b7_b5, Ne.symm d_b7_b5, d_b10_b5, Ne.symm d_b10_b5, d_b10_b7, Ne.symm d_b10_b7, d_b11_b5, Ne.symm d_b11_b5, d_b11_b7, Ne.symm d_b11_b7, d_b11_b10, Ne.symm d_b11_b10, d_b12_b5, Ne.symm d_b12_b5, d_b12_b7, Ne.symm d_b12_b7, d_b12_b10, Ne.symm d_b12_b10, d_b12_b11, Ne.symm d_b12_b11, d_b13_b5, Ne.symm d_b13_b5, d_b13_b7, Ne.symm d_b13_b7, d_b13_b10, Ne.symm d_b13_b10, d_b13_b11, Ne.symm d_b13_b11, d_b13_b12, Ne.symm d_b13_b12]
          refine hK _ _ ?_
          clear hK K
          first | refine pwp_dif hmix ?_ | refine pwp_difE hmix ?_
          intro K hK
          simp [runM_nil, tbC, d_b7_b5, Ne.symm d_b7_b5, d_b10_b5, Ne.symm d_b10_b5, d_b10_b7, Ne.symm d_b10_b7, d_b11_b5, Ne.symm d_b11_b5, d_b11_b7, Ne.symm d_b11_b7, d_b11_b10, Ne.symm d_b11_b10, d_b12_b5, Ne.symm d_b12_b5, d_b12_b7, Ne.symm d_b12_b7, d_b12_b10, Ne.symm d_b12_b10, d_b12_b11, Ne.symm d_b12_b11, d_b13_b5, Ne.symm d_b13_b5, d_b13_b7, Ne.symm d_b13_b7, d_b13_b10, Ne.symm d_b13_b10, d_b13_b11, Ne.symm d_b13_b11, d_b13_b12, Ne.symm d_b13_b12]
          refine useD (c3) ?_
          simp [runM_nil, tbC, d_b7_b5, Ne.symm d_b7_b5, d_b10_b5, Ne.symm d_b10_b5, d_b10_b7, Ne.symm d_b10_b7, d_b11_b5, Ne.symm d_b11_b5, d_b11_b7, Ne.symm d_b11_b7, d_b11_b10, Ne.symm d_b11_b10, d_b12_b5, Ne.symm d_b12_b5, d_b12_b7, Ne.symm d_b12_b7, d_b12_b10, Ne.symm d_b12_b10, d_b12_b11, Ne.symm d_b12_b11, d_b13_b5, Ne.symm d_b13_b5, d_b13_b7, Ne.symm d_b13_b7, d_b13_b10, Ne.symm d_b13_b10, d_b13_b11, Ne.symm d_b13_b11, d_b13_b12, Ne.symm d_b13_b12]
          refine useD (c4) ?_
          simp [runM_nil, tbC, d_b7_b5, Ne.symm d_b7_b5, d_b10_b5, Ne.symm d_b10_b5, d_b10_b7, Ne.symm d_b10_b7, d_b11_b5, Ne.symm d_b11_b5, d_b11_b7, Ne.symm d_b11_b7, d_b11_b10, Ne.symm d_b11_b10, d_b12_b5, Ne.symm d_b12_b5, d_b12_b7, Ne.symm d_b12_b7, d_b12_b10, Ne.symm d_b12_b10, d_b12_b11, Ne.symm d_b12_b11, d_b13_b5, Ne.symm d_b13_b5, d_b13_b7, Ne.symm d_b13_b7, d_b13_b10, Ne.symm d_b13_b10, d_b13_b11, Ne.symm d_b13_b11, d_b13_b12, Ne.symm d_b13_b12]
          refine hK _ _ ?_
          clear hK K
          refine ifF (by simp [runM_nil]) (pwp_skip ?_)
          first | refine pwp_sr ?_ | refine pwp_regionM ?_
          intro K hK
          simp [runM_nil, tbC, d_b7_b5, Ne.symm d_b7_b5, d_b10_b5, Ne.symm d_b10_b5, d_b10_b7, Ne.symm d_b10_b7, d_b11_b5, Ne.symm d_b11_b5, d_b11_b7, Ne.symm d_b11_b7, d_b11_b10, Ne.symm d_b11_b10, d_b12_b5, Ne.symm d_b12_b5, d_b12_b7, Ne.symm d_b12_b7, d_b12_b10, Ne.symm d_b12_b10, d_b12_b11, Ne.symm d_b12_b11, d_b13_b5, Ne.symm d_b13_b5, d_b13_b7, Ne.symm d_b13_b7, d_b13_b10, Ne.symm d_b13_b10, d_b13_b11, Ne.symm d_b13_b11, d_b13_b12, Ne.symm d_b13_b12]
          refine hK _ _ ?_
          clear hK K
          first | refine pwp_sr ?_ | refine pwp_regionM ?_
          intro K hK
          simp [runM_nil, tbC, d_b7_b5, Ne.symm d_b7_b5, d_b10_b5, Ne.symm d_b10_b5, d_b10_b7, Ne.symm d_b10_b7, d_b11_b5, Ne.symm d_b11_b5, d_b11_b7, Ne.symm d_b11_b7, d_b11_b10, Ne.symm d_b11_b10, d_b12_b5, Ne.symm d_b12_b5, d_b12_b7, Ne.symm d_b12_b7, d_b12_b10, Ne.symm d_b12_b10, d_b12_b11, Ne.symm d_b12_b11, d_b13_b5, Ne.symm d_b13_b5, d_b13_b7, Ne.symm d_b13_b7, d_b13_b10, Ne.symm d_b13_b10, d_b13_b11, Ne.symm d_b13_b11, d_b13_b12, Ne.symm d_b13_b12]
          refine hK _ _ ?_
          clear hK K
          first | refine pwp_sr ?_ | refine pwp_regionM ?_
          intro K hK
          simp [runM_nil, tbC, d_b7_b5, Ne.symm d_b7_b5, d_b10_b5, Ne.symm d_b10_b5, d_b10_b7, Ne.symm d_b10_b7, d_b11_b5, Ne.symm d_b11_b5, d_b11_b7, Ne.symm d_b11_b7, d_b11_b10, Ne.symm d_b11_b10, d_b12_b5, Ne.symm d_b12_b5, d_b12_b7, Ne.symm d_b12_b7, d_b12_b10, Ne.symm d_b12_b10, d_b12_b11, Ne.symm d_b12_b11, d_b13_b5, Ne.symm d_b13_b5, d_b13_b7, Ne.symm d_b13_b7, d_b13_b10, Ne.symm d_b13_b10, d_b13_b11, Ne.symm d_b13_b11, d_b13_b12, Ne.symm d_b13_b12]
          refine useP (c5) ?_
          simp [runM_nil, tbC, d_b7_b5, Ne.symm d_b7_b5, d_b10_b5, Ne.symm d_b10_b5, d_b10_b7, Ne.symm d_b10_b7, d_b11_b5, Ne.symm d_b11_b5, d_b11_b7, Ne.symm d_b11_b7, d_b11_b10, Ne.symm d_b11_b10, d_b12_b5, Ne.symm d_b12_b5, d_b12_b7, Ne.symm d_b12_b7, d_b12_b10, Ne.symm d_b12_b10, d_b12_b11, Ne.symm d_b12_b11, d_b13_b5, Ne.symm d_b13_b5, d_b13_b7, Ne.symm d_b13_b7, d_b13_b10, Ne.symm d_b13_b10, d_b13_b11, Ne.symm d_b13_b11, d_b13_b12, Ne.symm d_b13_b12]
          refine hK _ _ ?_
          clear hK K
          first | refine pwp_sr ?_ | refine pwp_regionM ?_
          intro K hK
          simp [runM_nil, tbC, d_b7_b5, Ne.symm d_b7_b5, d_b10_b5, Ne.symm d_b10_b5, d_b10_b7, Ne.symm d_b10_b7, d_b11_b5, Ne.symm d_b11_b5, d_b11_b7, Ne.symm d_b11_b7, d_b11_b10, Ne.symm d_b11_b10, d_b12_b5, Ne.symm d_b12_b5, d_b12_b7, Ne.symm d_b12_b7, d_b12_b10, Ne.symm d_b12_b10, d_b12_b11, Ne.symm d_b12_b11, d_b13_b5, Ne.symm d_b13_b5, d_b13_b7, Ne.symm d_b13_b7, d_b13_b10, Ne.symm d_b13_b10, d_b13_b11, Ne.symm d_b13_b11, d_b13_b12, Ne.symm d_b13_b12]
          refine useP (c6) ?_
          simp [runM_nil, tbC, d_b7_b5, Ne.symm d_b7_b5, d_b10_b5, Ne.symm d_b10_b5, d_b10_b7, Ne.symm d_b10_b7, d_b11_b5, Ne.symm d_b11_b5, d_b11_b7, Ne.symm d_b11_b7, d_b11_b10, Ne.symm d_b11_b10, d_b12_b5, Ne.symm d_b12_b5, d_b12_b7, Ne.symm d_b12_b7, d_b12_b10, Ne.symm d_b12_b10, d_b12_b11, Ne.symm d_b12_b11, d_b13_b5, Ne.symm d_b13_b5, d_b13_b7, Ne.symm d_b13_b7, d_b13_b10, Ne.symm d_b13_b10, d_b13_b11, Ne.symm d_b13_b11, d_b13_b12, Ne.symm d_b13_b12]
          refine hK _ _ ?_
          clear hK K
          first | refine pwp_dif hmix ?_ | refine pwp_difE hmix ?_
          intro K hK
          simp [runM_nil, tbC, d_b7_b5, Ne.symm d_b7_b5, d_b10_b5, Ne.symm d_b10_b5, d_b10_b7, Ne.symm d_b10_b7, d_b11_b5, Ne.symm d_b11_b5, d_b11_b7, Ne.symm d_b11_b7, d_b11_b10, Ne.symm d_b11_b10, d_b12_b5, Ne.symm d_b12_b5, d_b12_b7, Ne.symm d_b12_b7, d_b12_b10, Ne.symm d_b12_b10, d_b12_b11, Ne.symm d_b12_b11, d_b13_b5, Ne.symm d_b13_b5, d_b13_b7, Ne.symm d_b13_b7, d_b13_b10, Ne.symm d_b13_b10, d_b13_b11, Ne.symm d_b13_b11, d_b13_b12, Ne.symm d_b13_b12]
          refine useD (c7) ?_
          simp [runM_nil, tbC, d_b7_b5, Ne.symm d_b7_b5, d_b10_b5, Ne.symm d_b10_b5, d_b10_b7, Ne.symm d_b10_b7, d_b11_b5, Ne.symm d_b11_b5, d_b11_b7, Ne.symm d_b11_b7, d_b11_b10, Ne.symm d_b11_b10, d_b12_b5, Ne.symm d_b12_b5, d_b12_b7, Ne.symm d_b12_b7, d_b12_b10, Ne.symm d_b12_b10, d_b12_b11, Ne.symm d_b12_b11, d_b13_b5, Ne.symm d_b13_b5, d_b13_b7, Ne.symm d_b13_b7, d_b13_b10, Ne.symm d_b13_b10, d_b13_b11, Ne.symm d_b13_b11, d_b13_b12, Ne.symm d_b13_b12]
          refine useD (c8) ?_
          simp [runM_nil, tbC, d_b7_b5, Ne.symm d_b7_b5, d_b10_b5, Ne.symm d_b10_b5, d_b10_b7, Ne.symm d_b10_b7, d_b11_b5, Ne.symm d_b11_b5, d_b11_b7, Ne.symm d_b11_b7, d_b11_b10, Ne.symm d_b11_b10, d_b12_b5, Ne.symm d_b12_b5, d_b12_b7, Ne.symm d_b12_b7, d_b12_b10, Ne.symm d_b12_b10, d_b12_b11, Ne.symm d_b12_b11, d_b13_b5, Ne.symm d_b13_b5, d_b13_b7, Ne.symm d_b13_b7, d_b13_b10, Ne.symm d_b13_b10, d_b13_b11, Ne.symm d_b13_b11, d_b13_b12, Ne.symm d_b13_b12]
          refine useD (c9) ?_
          simp [runM_nil, tbC, d_b7_b5, Ne.symm d_b7_b5, d_b10_b5, Ne.symm d_b10_b5, d_b10_b7, Ne.symm d_b10_b7, d_b11_b5, Ne.symm d_b11_b5, d_b11_b7, Ne.symm d_b11_b7, d_b11_b10, Ne.symm d_b11_b10, d_b12_b5, Ne.symm d_b12_b5, d_b12_b7, Ne.symm d_b12_b7, d_b12_b10, Ne.symm d_b12_b10, d_b12_b11, Ne.symm d_b12_b11, d_b13_b5, Ne.symm d_b13_b5, d_b13_b7, Ne.symm d_b13_b7, d_b13_b10, Ne.symm d_b13_b10, d_b13_b11, Ne.symm d_b13_b11, d_b13_b12, Ne.symm d_b13_b12]
          refine hK _ _ ?_
          clear hK K
          refine ifF (by simp [runM_nil]) (pwp_skip ?_)
          refine cut_to (by simp [keepA, getS]) (.cons _ (.cons _ (.cons _ (.cons _ (.refl _))))) ⟨u, hma', ht', ?_, by simp [tbC], rfl⟩
          exact fun x hx => by have := hfl' x hx; omega
      · rintro _ _ ⟨t', hma', ht', hfl', rfl, rfl⟩
        first | refine pwp_sr ?_ | refine pwp_regionM ?_
        intro K hK
        simp [runM_nil, hw, d_b7_b5, Ne.symm d_b7_b5]
        refine hK _ _ ?_
        clear hK K
        exact ⟨l.length - (k + 1), by omega, _, .refl _, k + 1, t', by omega, by omega, rfl, hma', ht', hfl', rfl, by simp [keepL_MS, keepA, getS]⟩
  · rintro _ _ ⟨rfl, rfl⟩
    first | refine pwp_sr ?_ | refine pwp_regionM ?_
    intro K hK
    simp [runM_nil]
    refine useP (alive_ok) ?_
    simp [runM_nil]
    refine hK _ _ ?_
    clear hK K
    refine pwp_ret ⟨.inr rfl, _, _, (by simp [runM_nil, resL]; rfl), .refl _, by simp [resV], rfl⟩
#print axioms taskPlays
end Go.Proofs.Ytkjibelcaeanjaa.E
/- What a row hands over, as a table and an act. -/
namespace Go.Proofs.Ytkjibelcaeanjaa.E
open Go Go.RowKit Go.Proofs Go.ChangeShapes Go.WideShapes
set_option linter.unusedVariables false
set_option linter.unusedSimpArgs false
theorem rows_of {α : Type} {f : α → PV} {p : α → Prop} {xs : List PV} (h : ∀ x ∈ xs, el true (fun ps => ∃ y, f y = .agg ps ∧ p y) x) : ∃ l : List α, xs = l.map f ∧ ∀ y ∈ l, p y := by
  induction xs with
  | nil => exact ⟨[], rfl, fun c hc => by cases hc⟩
  | cons x xs ih =>
    obtain ⟨l, rfl, hl⟩ := ih fun y hy => h y (List.mem_cons_of_mem _ hy)
    obtain ⟨cs, rfl, y, hy, hp⟩ := h x (List.mem_cons_self ..)
    refine ⟨y :: l, by rw [← hy]; rfl, fun c hc => ?_⟩
    rcases List.mem_cons.1 hc with rfl | hc
    · exact hp
    · exact hl c hc
theorem openTr : OpnV Try.prog 44 3 (fun ps => ∃ x : Tr, trV x = .agg ps ∧ True) :=
  (OpnV.struct Try.underlying44 (by kernel_rfl) (OpnVF.cons rfl (OpnV.int Try.underlying3 (by kernel_rfl)) (OpnVF.cons rfl (OpnV.int Try.underlying3 (by kernel_rfl)) (OpnVF.one rfl (OpnV.bool Try.underlying4 (by kernel_rfl)))))).weaken (by
    rintro _ ⟨_, q1, rfl, ⟨a, rfl, _⟩, _, q2, rfl, ⟨b, rfl, _⟩, o, rfl⟩
    exact ⟨⟨a, b, o⟩, rfl, trivial⟩)
theorem openTrs : OpnV Try.prog 40 1 (fun ps => ∃ l : List Tr, ps = [.lst 3 (l.map trV) false] ∧ l.length ≤ 6000000000000) :=
  (OpnV.slice (B := 24) true Try.underlying40 (by kernel_rfl) (by kernel_rfl) openTr (fun h => by cases h) (by omega)).weaken (by
    rintro _ ⟨xs, rfl, h1, _, h2⟩
    obtain ⟨l, rfl, _⟩ := rows_of h2
    rw [List.length_map] at h1
    exact ⟨l, rfl, by omega⟩)
theorem openTk : OpnV Try.prog 42 3 (fun ps => ∃ k : Tk, tkV k = .agg ps ∧ k.tr.length ≤ 6000000000000) :=
  (OpnV.struct Try.underlying42 (by kernel_rfl) (OpnVF.cons rfl openTrs (OpnVF.cons rfl (OpnV.int Try.underlying3 (by kernel_rfl)) (OpnVF.one rfl (OpnV.int Try.underlying3 (by kernel_rfl)))))).weaken (by
    rintro _ ⟨_, q1, rfl, ⟨l, rfl, hl⟩, _, q2, rfl, ⟨a, rfl, _⟩, b, rfl, _⟩
    exact ⟨⟨l, a, b⟩, rfl, hl⟩)
theorem openTks : OpnV Try.prog 22 1 (fun ps => ∃ l : List Tk, ps = [.lst 3 (l.map tkV) false] ∧ l.length ≤ 4000000000000 ∧ ∀ k ∈ l, k.tr.length ≤ 6000000000000) :=
  (OpnV.slice (B := 40) true Try.underlying22 (by kernel_rfl) (by kernel_rfl) openTk (fun h => by cases h) (by omega)).weaken (by
    rintro _ ⟨xs, rfl, h1, _, h2⟩
    obtain ⟨l, rfl, h3⟩ := rows_of h2
    rw [List.length_map] at h1
    exact ⟨l, rfl, by omega, h3⟩)
/-- A table. -/
theorem openTb : OpnV Try.prog 24 3 (fun ps => ∃ t : Tb, tbV t = .agg ps ∧ Fits t) :=
  (OpnV.struct Try.underlying24 (by kernel_rfl) (OpnVF.cons rfl (OpnV.int Try.underlying3 (by kernel_rfl)) (OpnVF.cons rfl (OpnV.int Try.underlying3 (by kernel_rfl)) (OpnVF.one rfl openTks)))).weaken (by
    rintro _ ⟨_, q1, rfl, ⟨a, rfl, _⟩, _, q2, rfl, ⟨b, rfl, _⟩, l, rfl, h1, h2⟩
    exact ⟨⟨a, b, l⟩, rfl, ⟨h1, h2⟩⟩)
/-- An act. -/
theorem openAct : OpnV Try.prog 26 5 (fun ps => ∃ a b c d e : Int, ps = [.int .i64 a, .int .i64 b, .int .i64 c, .int .i64 d, .int .i64 e]) :=
  (OpnV.struct Try.underlying26 (by kernel_rfl) (OpnVF.cons rfl (OpnV.int Try.underlying3 (by kernel_rfl)) (OpnVF.cons rfl (OpnV.int Try.underlying3 (by kernel_rfl)) (OpnVF.cons rfl (OpnV.int Try.underlying3 (by kernel_rfl))
    (OpnVF.cons rfl (OpnV.int Try.underlying3 (by kernel_rfl)) (OpnVF.one rfl (OpnV.int Try.underlying3 (by kernel_rfl)))))))).weaken (by
    rintro _ ⟨_, q1, rfl, ⟨a, rfl, _⟩, _, q2, rfl, ⟨b, rfl, _⟩, _, q3, rfl, ⟨c, rfl, _⟩, _, q4, rfl, ⟨d, rfl, _⟩, e, rfl, _⟩
    exact ⟨a, b, c, d, e, rfl⟩)
end Go.Proofs.Ytkjibelcaeanjaa.E
/- What the row of TaskPlays hands over. -/
namespace Go.Proofs.Ytkjibelcaeanjaa.E
open Go Go.RowKit Go.Proofs Go.ChangeShapes Go.WideShapes
set_option linter.unusedVariables false
set_option linter.unusedSimpArgs false
theorem openSz : OpnV Try.prog 47 3 (fun ps => ∃ a b c : Int, ps = [.int .i64 a, .int .i64 b, .int .i64 c]) :=
  (OpnV.struct Try.underlying47 (by kernel_rfl) (OpnVF.cons rfl (OpnV.int Try.underlying3 (by kernel_rfl)) (OpnVF.cons rfl (OpnV.int Try.underlying3 (by kernel_rfl)) (OpnVF.one rfl (OpnV.int Try.underlying3 (by kernel_rfl)))))).weaken (by
    rintro _ ⟨_, q1, rfl, ⟨a, rfl, _⟩, _, q2, rfl, ⟨b, rfl, _⟩, c, rfl, _⟩
    exact ⟨a, b, c, rfl⟩)
theorem openAcs : OpnV Try.prog 48 1 (fun ps => ∃ l : List Ac, ps = [.lst 5 (l.map acV) false]) :=
  (OpnV.slice (B := 40) true Try.underlying48 (by kernel_rfl) (by kernel_rfl) (openAct.weaken (ok' := fun ps => ∃ a : Ac, acV a = .agg ps ∧ True) (by
    rintro _ ⟨a, b, c, d, e, rfl⟩
    exact ⟨⟨a, b, c, d, e⟩, rfl, trivial⟩)) (fun h => by cases h) (by omega)).weaken (by
    rintro _ ⟨xs, rfl, h1, _, h2⟩
    obtain ⟨l, rfl, _⟩ := rows_of h2
    exact ⟨l, rfl⟩)
end Go.Proofs.Ytkjibelcaeanjaa.E
