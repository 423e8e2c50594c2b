/- What was written is read, and canonical; what is canonical, written again, is itself; each file that was written is found; at most 120 records of 3000 bytes together, 3000 bytes. Condition: none beyond the row's own. -/
import Derived.Test.YtmpomnnaoggdkaaLBundleBack
import Derived.Test.YtmpomnnaoggdkaaLBundleAlive
import Derived.Test.YtmpomnnaoggdkaaLRecs
import Derived.Test.YtmpomnnaoggdkaaPAx13
import Derived.Test.YtmpomnnaoggdkaaPAx12
set_option linter.unusedVariables false
set_option linter.unusedSimpArgs false
set_option linter.unusedSectionVars false
namespace Go.Proofs.Ytmpomnnaoggdkaa.Pure
open Go.RowKit Go.Proofs.Ytmpomnnaoggdkaa.PA Go.Proofs.YtmpomnnaoggdkaaW.PrintWords Go.Proofs.YtmpomnnaoggdkaaW.PrintLast Go.Proofs.YtmpomnnaoggdkaaW.PrintMore
theorem all_loop (P : List Pc) (hP : P.length ≤ 1000000) (hf : ∀ p ∈ P, p.f1.length ≤ 1000) (d : Nat) : ∀ (i : Nat), i + d = P.length →
    Ev (fun k => threshingref05_All.l0 k P ((P.take i).flatMap (fun p => p.f1)) (i : Int)) (P.flatMap (fun p => p.f1)) := by
  have hlen : ∀ n : Nat, ((P.take n).flatMap (fun p => p.f1)).length ≤ n * 1000 := by
    intro n
    induction n with
    | zero => simp
    | succ n ih =>
      rcases Nat.lt_or_ge n P.length with h | h
      · rw [List.take_succ_eq_append_getElem h, List.flatMap_append, List.length_append, List.flatMap_singleton, Nat.add_mul, Nat.one_mul]
        exact Nat.add_le_add ih (hf _ (List.getElem_mem h))
      · have e1 : P.take (n + 1) = P := List.take_of_length_le (by omega)
        have e2 : P.take n = P := List.take_of_length_le h
        rw [e2] at ih
        rw [e1]
        exact Nat.le_trans ih (Nat.mul_le_mul_right _ (Nat.le_succ n))
  induction d with
  | zero =>
    intro i hi
    refine Ev.succ ?_
    simp only [threshingref05_All.l0]
    refine Ev.neg (by omega) (Ev.done ?_)
    rw [List.take_of_length_le (by omega)]
  | succ d ih =>
    intro i hi
    have hil : i < P.length := by omega
    have hb := hlen i
    have := hf _ (List.getElem_mem hil)
    refine Ev.succ ?_
    simp only [threshingref05_All.l0, rdP_at P i hil]
    refine Ev.pos (by omega) (Ev.pos (by omega) (Ev.pos (by omega) ?_))
    rw [w64s i (by omega)]
    have := ih (i + 1) (by omega)
    rw [List.take_succ_eq_append_getElem hil, List.flatMap_append, List.flatMap_singleton] at this
    exact this
theorem all_ev (P : List Pc) (hP : P.length ≤ 1000000) (hf : ∀ p ∈ P, p.f1.length ≤ 1000) : Ev (fun k => threshingref05_All.f k P) (P.flatMap (fun p => p.f1)) := by
  have := all_loop P hP hf P.length 0 (by omega)
  simp only [threshingref05_All.f]
  rw [List.take_zero, List.flatMap_nil] at this
  exact this
/-! what is read is small -/
theorem ents_names (base : Int) : ∀ (n : Nat) (r : List Nat) (acc L : List En), ents base n r acc = some L → (∀ x ∈ acc, x.f1.size ≤ 100) → ∀ x ∈ L, x.f1.size ≤ 100
  | 0, r, acc, L, h, ha => by
    unfold ents at h
    split at h
    · cases h; exact ha
    · cases h
  | n + 1, r, acc, L, h, ha => by
    unfold ents at h
    split at h
    · rename_i hk
      refine ents_names base n _ _ L h (fun x hx => ?_)
      rcases List.mem_append.1 hx with hx | hx
      · exact ha x hx
      · rw [List.mem_singleton] at hx; subst hx
        exact vframe_small (s := r) (k := 100) hk.1.1
    · cases h
theorem listOf_names (b : List Nat) : ∀ x ∈ (listOf b).1, x.f1.size ≤ 100 := by
  unfold listOf
  split
  · cases he : entsOf (b.length - (vtake b).2.1.length) (opened tbl ((vtake b).2.1.take (vtake b).1)).1 with
    | none => simp [entRes]
    | some L =>
      unfold entsOf at he
      split at he
      · exact ents_names _ _ _ _ _ he (by simp)
      · cases he
  · simp
def small (N : Nat) (p : Pc) : Prop := ∃ s t : ByteArray, p.f1 = [[s, t]] ∧ s.size ≤ 100 ∧ t.size ≤ N
theorem scn_small {b : List Nat} : ∀ (L : List En) (at' : Nat) (out : List Pc), (∀ x ∈ L, x.f1.size ≤ 100) → (∀ p ∈ out, small b.length p) → (∀ p ∈ (scn b L at' out).1, small b.length p) ∧ (scn b L at' out).1.length ≤ out.length + L.length
  | [], at', out, _, ho => ⟨ho, by simp [scn]⟩
  | e :: L, at', out, hL, ho => by
    unfold scn
    split
    · obtain ⟨g1, g2⟩ := scn_small (b := b) L (at' + e.f2.toNat + 4) (out ++ [pcOf e (opened tbl ((b.take (at' + e.f2.toNat + 4)).drop at')).1]) (fun x hx => hL x (by simp [hx])) (fun p hp => by
        rcases List.mem_append.1 hp with hp | hp
        · exact ho p hp
        · rw [List.mem_singleton] at hp; subst hp
          refine ⟨_, _, rfl, hL e (by simp), ?_⟩
          have h1 := (opened_rest tbl ((b.take (at' + e.f2.toNat + 4)).drop at')).1
          rw [strs_sz, ci_length]
          rw [List.length_drop, List.length_take] at h1
          omega)
      exact ⟨g1, by rw [List.length_append] at g2; simp at g2 ⊢; omega⟩
    · exact ⟨ho, by simp⟩
theorem scanOf_small (b : List Nat) : (∀ p ∈ (scanOf b).1, small b.length p) ∧ (scanOf b).1.length ≤ 1000 := by
  obtain ⟨_, h2⟩ := listOf_ok b
  unfold scanOf
  split
  · obtain ⟨g1, g2⟩ := scn_small (b := b) (listOf b).1 ((listOf b).2.1).toNat [] (listOf_names b) (by simp)
    exact ⟨g1, by simp at g2; omega⟩
  · simp
theorem costs_append (a c : List (List ByteArray)) : costs (a ++ c) = costs a + costs c := by simp [costs]
theorem costs_small (N : Nat) : ∀ (P : List Pc), (∀ p ∈ P, small N p) → costs (P.flatMap (fun p => p.f1)) ≤ P.length * (102 + N)
  | [], _ => by simp [costs]
  | p :: P, h => by
    obtain ⟨s, t, e, h1, h2⟩ := h p (by simp)
    have ih := costs_small N P (fun q hq => h q (by simp [hq]))
    rw [List.flatMap_cons, costs_append, e, List.length_cons, Nat.succ_mul]
    have : costs [[s, t]] = 2 + s.size + t.size := by simp [costs, cost]; omega
    omega
/-- What is canonical, written again, is itself. -/
theorem again_ev {b : List Nat} (hb : ∀ x ∈ b, x < 256) (hl : b.length ≤ 3000) : Ev (fun k => threshinglaw10_BundleBack.j3 k (ci b) false) true := by
  obtain ⟨s1, s2⟩ := scanOf_small b
  have hc := costs_small b.length (scanOf b).1 s1
  have hc2 : (scanOf b).1.length * (102 + b.length) ≤ 1000 * 3102 := Nat.mul_le_mul s2 (by omega)
  refine Ev.succ ?_
  simp only [threshinglaw10_BundleBack.j3]
  refine Ev.neg (by decide) (Ev.bind (scan_ev hb (by omega)) (Ev.bind (all_ev _ (by omega) (fun p hp => by obtain ⟨s, t, e, _⟩ := s1 p hp; rw [e]; simp)) (Ev.bind (bwrite_ev _ (by omega)) (Ev.bind alive_ev (Ev.pos rfl (Ev.bind (canon_ev hb (by omega)) ?_))))))
  by_cases h : (scanOf b).2.2 = 0
  · obtain ⟨_, _, hbk⟩ := scan_back hb h
    rw [hbk]
    exact Ev.pos (by rw [h]; rfl) (Ev.pos rfl (Ev.done (by simp)))
  · exact Ev.neg (by simpa using h) (Ev.now _)
theorem bundled_lt (l : List (List ByteArray)) (h : (bundled l).2 = 0) : ∀ x ∈ (bundled l).1, x < 256 := by
  obtain ⟨h1, h2⟩ := bundled_asc h
  rw [bundled_yes h1 h2]
  exact all_lt_append (all_lt_append (vb_lt _) (sealed_lt tbl (innOf_lt l))) (all_lt_flat dB_lt l)
theorem flat_dB_length : ∀ (l : List (List ByteArray)), (∀ x ∈ l, fileOk x) → (l.flatMap dB).length ≤ l.length * 1004
  | [], _ => by simp
  | x :: l, h => by
    have h0 := (h x (by simp)).2.2.2
    have ih := flat_dB_length l (fun y hy => h y (by simp [hy]))
    have : (dB x).length = (fld x 1).size + 4 := by rw [dB, sealed_length, nats_length]
    rw [List.flatMap_cons, List.length_append, List.length_cons, Nat.succ_mul]; omega
theorem bundled_length {l : List (List ByteArray)} (h : asc none l) (hl : l.length ≤ 120) : (bundled l).1.length ≤ 200000 := by
  rw [bundled_yes h (by omega)]
  have he := flat_eB_length l (asc_ok l none h)
  have hd := flat_dB_length l (asc_ok l none h)
  have hv := vb_length_le10 (n := l.length) (by omega)
  have hs : (sealed tbl (innOf l)).length ≤ 20000 := by rw [sealed_length, innOf, List.length_append]; omega
  have hv2 := vb_length_le10 (n := (sealed tbl (innOf l)).length) (by omega)
  simp only [List.length_append]
  omega
/-- Each file is found. -/
theorem found_loop {l : List (List ByteArray)} (h : asc none l) (hl : l.length ≤ 120) (b : List Int) (r : Bool)
    (hend : Ev (fun k => threshinglaw10_BundleBack.j2 k l b (ci (bundled l).1) 0 (l.length : Int) false) r) (d : Nat) : ∀ i : Nat, i + d = l.length →
    Ev (fun k => threshinglaw10_BundleBack.l0 k l b (ci (bundled l).1) 0 (i : Int)) r := by
  have hbl := bundled_length h hl
  have hblt := bundled_lt l (by rw [bundled_yes h (by omega)])
  induction d with
  | zero =>
    intro i hi
    obtain rfl : i = l.length := by omega
    refine Ev.succ ?_
    simp only [threshinglaw10_BundleBack.l0]
    rw [decide_eq_false (by omega)]
    exact Ev.pos trivial hend
  | succ d ih =>
    intro i hi
    have hil : i < l.length := by omega
    have h2 := (asc_ok l none h l[i] (List.getElem_mem hil)).1
    refine Ev.succ ?_
    simp only [threshinglaw10_BundleBack.l0]
    rw [decide_eq_true (by omega)]
    refine Ev.pos trivial (Ev.succ ?_)
    simp only [threshinglaw10_BundleBack.j2, rdL1_at l i hil, rdOf_0, rdOf_1]
    refine Ev.pos trivial (Ev.pos (by omega) (Ev.pos (by omega) (Ev.pos (by omega) (Ev.bind (find_there h (by omega) (by omega) hblt i hil) (Ev.pos rfl (Ev.pos (by omega) (Ev.pos rfl ?_)))))))
    rw [w64s i (by omega)]
    exact ih (i + 1) (by omega)
theorem BundleBack : threshinglaw10_BundleBack.Pure := by
  intro l b h1 h2 h3 _ _ h4
  obtain ⟨b, rfl, hb⟩ := to_ci (b := 256) (fun x hx => wf_u8 (h4 x hx))
  refine Ev.rounds (g := fun k => threshinglaw10_BundleBack.f k l (ci b)) ?_
  simp only [threshinglaw10_BundleBack.f]
  have j : Ev (fun k => threshinglaw10_BundleBack.j0 k l (ci b) true) true := Ev.succ (by simp only [threshinglaw10_BundleBack.j0]; exact Ev.pos trivial (Ev.bind alive_ev (Ev.now _)))
  have hf := few_ev l 120 3000 (by omega) (by omega) (fun x hx => ⟨by have := (h3 x hx).2.1; omega, (h3 x hx).2.2⟩)
  refine Ev.bind hf ?_
  by_cases h : costs l ≤ 3000 ∧ l.length ≤ 120
  rotate_left
  · exact Ev.neg (by simpa using h) j
  refine Ev.pos (decide_eq_true h) ?_
  rw [ci_length]
  by_cases g : (b.length : Int) > 3000
  · rw [decide_eq_true g]; exact j
  rw [decide_eq_false g]
  have hag := again_ev hb (by omega)
  refine Ev.succ ?_
  simp only [threshinglaw10_BundleBack.j0]
  refine Ev.neg (by decide) (Ev.bind (bwrite_ev l (by omega)) ?_)
  dsimp only
  by_cases he : (bundled l).2 = 0
  · obtain ⟨ha, hl⟩ := bundled_asc he
    have hbl := bundled_length ha h.2
    have hblt := bundled_lt l he
    obtain ⟨base, _, hsc⟩ := scanOf_there ha hl
    rw [he]
    refine found_loop ha h.2 (ci b) true ?_ l.length 0 (by omega)
    refine Ev.succ ?_
    simp only [threshinglaw10_BundleBack.j2]
    refine Ev.neg (by decide) (Ev.bind (scan_ev hblt (by omega)) ?_)
    have hcan := canon_ev hblt (by omega)
    rw [hsc] at hcan ⊢
    dsimp only at hcan ⊢
    refine Ev.pos trivial (Ev.pos rfl (Ev.pos (by rw [ci_length]) (Ev.bind hcan (Ev.pos rfl (Ev.bind (all_ev _ (by rw [pcsOf_length]; omega) ?_) ?_)))))
    · intro p hp
      obtain ⟨i, hi, rfl⟩ := List.getElem_of_mem hp
      rw [pcsOf_length] at hi
      rw [pcsOf_at base l i hi]; simp
    · rw [pcsOf_all]
      refine Ev.bind (recs_ev l (by omega) (fun x hx => ?_)) hag
      have := (h3 x hx).2.1
      omega
  · have e : bundled l = ([], 10) := by
      unfold bundled at he ⊢
      split
      · rfl
      · rename_i hl
        rw [if_neg hl] at he
        cases hb : bw none (vb l.length) [] l with
        | none => rfl
        | some r => rw [hb] at he; exact absurd rfl he
    rw [e]
    refine Ev.succ ?_
    simp only [threshinglaw10_BundleBack.l0]
    refine Ev.neg (by decide) (Ev.succ ?_)
    simp only [threshinglaw10_BundleBack.j2]
    exact Ev.neg (by decide) (Ev.bind (scan_ev (b := []) (by simp) (by simp)) (Ev.neg (by decide) hag))
end Go.Proofs.Ytmpomnnaoggdkaa.Pure
