/- Part 4 of the proof of SeqSplits: what the program's functions come to. -/
import Derived.Test.YtjcjbpbkakfjdaaDoorJSeqSplits2
import Derived.Test.YtjcjbpbkakfjdaaDoorJSeqSplits3
import Derived.Test.YtjcjbpbkakfjdaaDoorL2
import Derived.Test.YtjcjbpbkakfjdaaDoorL3
import Derived.Test.YtjcjbpbkakfjdaaDoorProg
/- slices.Chunk of records, ranged over, walked. -/
namespace Go.Proofs.YtjcjbpbkakfjdaaDoor.E
open Go Go.RowKit Go.Proofs
set_option linter.unusedVariables false
set_option linter.unusedSimpArgs false
theorem pwpE_sd {P : Program} {B : Bs} {s : Option PExit} {Q : Option PExit → PPost} {st : List PV} {H : Heap} (hmix : P.follows .mixedOrders = true) {ops : List POp} {late : List (Nat × Nat)} {y : PCode}
    (h : ∀ K : List PV → Heap → Prop, (∀ st' H', pwpE P B s y Q st' H' → K st' H') → planM P ops K st H) : pwpE P B s (.seq (.draw ops late) y) Q st H := pwpE_seq (pwpE_lift (pwp_drawM hmix h))
def chk {α : Type} (m : Nat) (l : List α) : List (List α) := if h : 1 ≤ m ∧ 0 < l.length then l.take m :: chk m (l.drop m) else []
termination_by l.length
decreasing_by rw [List.length_drop]; omega
theorem chk_step {α : Type} {m : Nat} {l : List α} (h1 : 1 ≤ m) (h : 0 < l.length) : chk m l = l.take m :: chk m (l.drop m) := by
  conv => lhs; unfold chk
  rw [dif_pos ⟨h1, h⟩]
theorem chk_stop {α : Type} {m : Nat} {l : List α} (h : ¬ 0 < l.length) : chk m l = [] := by
  unfold chk
  rw [dif_neg fun k => h k.2]
theorem chk_map {α β : Type} (f : α → β) {m : Nat} (h1 : 1 ≤ m) : ∀ (n : Nat) (l : List α), l.length ≤ n → chk m (l.map f) = (chk m l).map (List.map f)
  | n, l, hn => by
    by_cases h : 0 < l.length
    · cases n with
      | zero => omega
      | succ n => rw [chk_step h1 h, chk_step h1 (by simpa using h), List.map_cons, ← List.map_take, ← List.map_drop, chk_map f h1 n (l.drop m) (by rw [List.length_drop]; omega)]
    · rw [chk_stop h, chk_stop (by simpa using h)]; rfl
theorem chk_flat {α : Type} {m : Nat} (h1 : 1 ≤ m) : ∀ (n : Nat) (l : List α), l.length ≤ n → (chk m l).flatten = l
  | n, l, hn => by
    by_cases h : 0 < l.length
    · cases n with
      | zero => omega
      | succ n => rw [chk_step h1 h, List.flatten_cons, chk_flat h1 n (l.drop m) (by rw [List.length_drop]; omega), List.take_append_drop]
    · rw [chk_stop h]; exact (List.eq_nil_of_length_eq_zero (by omega)).symm
theorem chk_facts {α : Type} {m : Nat} (h1 : 1 ≤ m) : ∀ (n : Nat) (l : List α), l.length ≤ n → (∀ p ∈ chk m l, 1 ≤ p.length ∧ p.length ≤ m) ∧ (chk m l).length = (l.length + m - 1) / m
  | n, l, hn => by
    by_cases h : 0 < l.length
    · cases n with
      | zero => omega
      | succ n =>
        obtain ⟨i1, i2⟩ := chk_facts h1 n (l.drop m) (by rw [List.length_drop]; omega)
        rw [chk_step h1 h]
        refine ⟨fun p hp => ?_, ?_⟩
        · rcases List.mem_cons.1 hp with rfl | hp
          · rw [List.length_take]; omega
          · exact i1 p hp
        · rw [List.length_cons, i2, List.length_drop]
          by_cases hm : l.length ≤ m
          · have e1 : l.length - m + m - 1 = m - 1 := by omega
            have e2 : (m - 1) / m = 0 := Nat.div_eq_of_lt (by omega)
            have e3 : (l.length + m - 1) / m = 1 := by
              rw [show l.length + m - 1 = (l.length - 1) + m by omega, Nat.add_div_right _ (by omega), Nat.div_eq_of_lt (by omega)]
            rw [e1, e2, e3]
          · have e1 : l.length + m - 1 = (l.length - m + m - 1) + m := by omega
            rw [e1, Nat.add_div_right _ (by omega)]
    · rw [chk_stop h]
      have h0 : l.length = 0 := by omega
      rw [h0]
      refine ⟨by simp, ?_⟩
      simp only [List.length_nil, Nat.zero_add]
      exact (Nat.div_eq_of_lt (by omega)).symm
theorem chkR_iter {s : Nat} {l : List PV} (hs : s = 1 ∨ l.length = 0) (hl : l.length ≤ 1000000) (m : Nat) (hm : 1 ≤ m) (hm2 : m ≤ 1000) (o : Bool) :
    Iter Tryd.prog 46 [.ip 1 [.lst s l o] 0 0, .ip 1 [.int .i64 m] 0 0] ((chk m l).map fun p => [.lst 1 p false]) := by
  have hmix := mixS
  refine iter_of t46 (by simp [p46]) ?_
  intro B J Jx Ho hY hJ
  simp only [p46]
  refine pwpE_sr ?_
  intro K hK
  simp (disch := first | (refine Ok.mk ?_; (try simp only [Lm, La, Lc, Ln, Lt, Ld, Lr, Li, true_or, or_true, true_and, and_true]); omega) | (simp <;> fail) | skip) [runM_nil]
  refine hK _ _ ?_
  clear hK K
  refine pwpE_block ?_
  refine pwpE_loopK [0, 1, 2, 4] (fun q st H' => ∃ (k : Nat) (done : List (List PV)), k ≤ l.length + m ∧ chk m l = done ++ chk m (l.drop k) ∧ J (done.map fun p => [.lst 1 p false]) H' ∧ q = l.length - k ∧
      st = MS 31 [(0, .fn (.yield B.l) [] []), (1, .ip 1 [.lst s l o] 0 0), (2, .ip 1 [.int .i64 m] 0 0), (4, .int .i64 k)]) (n := l.length)
    ⟨_, .refl _, 0, [], by omega, rfl, hJ, rfl, by simp [keepL_MS, keepA, getS, lendL, lend]⟩ ?_
  rintro q st Ho' ⟨k, done, hk, hbl, hJ', rfl, rfl⟩
  by_cases hlt : k < l.length
  · obtain rfl : s = 1 := hs.resolve_right (by omega)
    have hdl : (l.drop k).length = l.length - k := List.length_drop ..
    have hst := chk_step (m := m) (l := l.drop k) hm (by omega)
    rw [List.drop_drop] at hst
    have hcut : (l.take (k + min m (l.length - k))).drop k = (l.drop k).take m := by
      rw [List.drop_take, Nat.add_sub_cancel_left]
      rcases Nat.le_total m (l.length - k) with h | h
      · rw [Nat.min_eq_left h]
      · rw [Nat.min_eq_right h, List.take_of_length_le (by omega), List.take_of_length_le (by omega)]
    obtain ⟨n, hn⟩ : ∃ n, n = min m (l.length - k) := ⟨_, rfl⟩
    rw [← hn] at hcut
    have hmn : (if (m : Int) < (l.length : Int) - k then (m : Int) else (l.length : Int) - k) = n := by split <;> omega
    have hmn2 : (if (l.length : Int) - k < m then (l.length : Int) - k else (m : Int)) = n := by split <;> omega
    have hmn3 : (if l.length - k < m then ((l.length - k : Nat) : Int) else (m : Int)) = n := by split <;> omega
    have hmn4 : (if m < l.length - k then (m : Int) else ((l.length - k : Nat) : Int)) = n := by split <;> omega
    have hkn : k + n ≤ l.length := by omega
    have htn : ((k : Int) + n).toNat = k + n := by omega
    refine pwpE_seq ?_
    refine pwpE_sr ?_
    intro K hK
    simp (disch := first | (refine Ok.mk ?_; (try simp only [Lm, La, Lc, Ln, Lt, Ld, Lr, Li, true_or, or_true, true_and, and_true]); omega) | (simp <;> fail) | skip) [runM_nil]
    refine hK _ _ ?_
    clear hK K
    refine pwpE_cT (by simp [hlt]) (pwpE_skip ?_)
    refine pwpE_seq (pwpE_block ?_)
    refine pwpE_sd hmix ?_
    intro K hK
    simp (disch := first | (refine Ok.mk ?_; (try simp only [Lm, La, Lc, Ln, Lt, Ld, Lr, Li, true_or, or_true, true_and, and_true]); omega) | (simp <;> fail) | skip) [runM_nil, hdl, hmn, hmn2, hmn3, hmn4]
    refine hK _ _ ?_
    clear hK K
    refine pwpE_seq ?_
    refine pwpE_yieldM hY 10 rfl rfl ?_
    intro K hK
    simp only [List.take_succ_cons, List.take_zero]
    simp (disch := first | (refine Ok.mk ?_; (try simp only [Lm, La, Lc, Ln, Lt, Ld, Lr, Li, true_or, or_true, true_and, and_true]); omega) | (simp <;> fail) | skip) [runM_nil, htn, hcut]
    refine hK _ _ ?_
    clear hK K
    have hmem : [PV.lst 1 ((l.drop k).take m) false] ∈ (chk m l).map fun p => [PV.lst 1 p false] := List.mem_map.2 ⟨_, by rw [hbl, hst]; simp, rfl⟩
    have hpre : (done.map fun p => [PV.lst 1 p false]).length < ((chk m l).map fun p => [PV.lst 1 p false]).length := by rw [hbl, hst]; simp
    refine .inr ⟨(by simp [goes, gval]), [], Ho', done.map fun p => [.lst 1 p false], [.lst 1 ((l.drop k).take m) false], rfl, (by simp), (by simp), hmem, hpre, hJ', fun Ho2 hJ2 K hK => ?_, fun pe Ho2 hne hJx K hK => ?_⟩
    · simp (disch := first | (refine Ok.mk ?_; (try simp only [Lm, La, Lc, Ln, Lt, Ld, Lr, Li, true_or, or_true, true_and, and_true]); omega) | (simp <;> fail) | skip) [runM_nil]
      refine hK _ _ ?_
      clear hK K
      refine pwpE_cF (by simp) (pwpE_skip ?_)
      refine pwpE_region ?_
      intro K hK
      simp (disch := first | (refine Ok.mk ?_; (try simp only [Lm, La, Lc, Ln, Lt, Ld, Lr, Li, true_or, or_true, true_and, and_true]); omega) | (simp <;> fail) | skip) [runM_nil]
      refine hK _ _ ?_
      clear hK K
      refine ⟨rfl, l.length - (k + m), by omega, _, .refl _, k + m, done ++ [(l.drop k).take m], by omega, ?_, ?_, rfl, ?_⟩
      · rw [hbl, hst]; simp
      · rw [List.map_append]; exact hJ2
      · simp [keepL_MS, keepA, getS]
    · simp (disch := first | (refine Ok.mk ?_; (try simp only [Lm, La, Lc, Ln, Lt, Ld, Lr, Li, true_or, or_true, true_and, and_true]); omega) | (simp <;> fail) | skip) [runM_nil]
      refine hK _ _ ?_
      clear hK K
      refine pwpE_cT (by simp) (pwpE_ret ⟨.inr rfl, _, _, rfl, .refl _, hne, (done.map fun p => [.lst 1 p false]) ++ [[.lst 1 ((l.drop k).take m) false]], ?_, hJx⟩)
      rw [hbl, hst, List.map_append, List.map_cons]
      exact ⟨(chk m (l.drop (k + m))).map fun p => [.lst 1 p false], by simp⟩
  · have hsp := chk_stop (m := m) (l := l.drop k) (by rw [List.length_drop]; omega)
    rw [hsp, List.append_nil] at hbl
    refine pwpE_seq ?_
    refine pwpE_sr ?_
    intro K hK
    simp (disch := first | (refine Ok.mk ?_; (try simp only [Lm, La, Lc, Ln, Lt, Ld, Lr, Li, true_or, or_true, true_and, and_true]); omega) | (simp <;> fail) | skip) [runM_nil]
    refine hK _ _ ?_
    clear hK K
    refine pwpE_cF (by simp [hlt]) (pwpE_exit ⟨.inl rfl, _, _, rfl, .refl _, ?_⟩)
    show J _ _
    rw [hbl]
    exact hJ'
theorem chkR_ok {s : Nat} {xs : List PV} {o : Bool} (m : Nat) (hm : 1 ≤ m) (hm2 : m ≤ 1000) :
    PSpec Tryd.prog 27 [.lst s xs o, .int .i64 m] (.fn (.func 46) [] [.ip 1 [.lst s xs false] 0 0, .ip 1 [.int .i64 m] 0 0]) := by
  intro H
  have h1 : ¬ ((m : Int) < 1) := by omega
  refine spec_of t27 (by simp [p27]) ?_
  simp only [p27]
  first | refine pwp_sr ?_ | refine pwp_regionM ?_
  intro K hK
  simp (disch := first | (refine Ok.mk ?_; (try simp only [Lm, La, Lc, Ln, Lt, Ld, Lr, Li, true_or, or_true, true_and, and_true]); omega) | (simp <;> fail) | skip) [runM_nil]
  refine hK _ _ ?_
  clear hK K
  first | refine pwp_rif ?_ | refine pwp_rifE ?_
  intro K hK
  simp (disch := first | (refine Ok.mk ?_; (try simp only [Lm, La, Lc, Ln, Lt, Ld, Lr, Li, true_or, or_true, true_and, and_true]); omega) | (simp <;> fail) | skip) [runM_nil, h1]
  refine hK _ _ ?_
  clear hK K
  refine ifF (by simp (disch := first | (refine Ok.mk ?_; (try simp only [Lm, La, Lc, Ln, Lt, Ld, Lr, Li, true_or, or_true, true_and, and_true]); omega) | (simp <;> fail) | skip) [runM_nil]) (pwp_skip ?_)
  first | refine pwp_sr ?_ | refine pwp_regionM ?_
  intro K hK
  simp (disch := first | (refine Ok.mk ?_; (try simp only [Lm, La, Lc, Ln, Lt, Ld, Lr, Li, true_or, or_true, true_and, and_true]); omega) | (simp <;> fail) | skip) [runM_nil]
  refine hK _ _ ?_
  clear hK K
  refine pwp_ret ⟨.inr rfl, _, _, (by simp (disch := first | (refine Ok.mk ?_; (try simp only [Lm, La, Lc, Ln, Lt, Ld, Lr, Li, true_or, or_true, true_and, and_true]); omega) | (simp <;> fail) | skip) [runM_nil, resL]; rfl), .refl _, by simp (disch := first | (refine Ok.mk ?_; (try simp only [Lm, La, Lc, Ln, Lt, Ld, Lr, Li, true_or, or_true, true_and, and_true]); omega) | (simp <;> fail) | skip) [resV], rfl⟩
end Go.Proofs.YtjcjbpbkakfjdaaDoor.E
/- Few: how many records there are, and of how many bytes. -/
namespace Go.Proofs.YtjcjbpbkakfjdaaDoor.E
open Go Go.RowKit Go.Proofs
set_option linter.unusedVariables false
set_option linter.unusedSimpArgs false
end Go.Proofs.YtjcjbpbkakfjdaaDoor.E
/- Records as a file, by the program. -/
namespace Go.Proofs.YtjcjbpbkakfjdaaDoor.E
open Go Go.RowKit Go.Proofs
set_option linter.unusedVariables false
set_option linter.unusedSimpArgs false
def okR : Rc → Bool
  | [k, v] => decide (k.length ≤ 1000) && decide (v.length ≤ 1000)
  | _ => false
theorem isPair_ok (r : Rc) (hr : r.length ≤ 1000000) {o : Bool} : PSpec Tryd.prog 29 [.lst 1 (r.map sV) o] (.bool (okR r)) := by
  intro H
  refine spec_of t29 (by simp [p29]) ?_
  simp only [p29]
  first | refine pwp_sr ?_ | refine pwp_regionM ?_
  intro K hK
  simp (disch := first | (refine Ok.mk ?_; (try simp only [Lm, La, Lc, Ln, Lt, Ld, Lr, Li, true_or, or_true, true_and, and_true]); omega) | (simp <;> fail) | skip) [runM_nil]
  refine hK _ _ ?_
  clear hK K
  match r, hr with
  | [], _ =>
    first | refine pwp_sr ?_ | refine pwp_regionM ?_
    intro K hK
    simp (disch := first | (refine Ok.mk ?_; (try simp only [Lm, La, Lc, Ln, Lt, Ld, Lr, Li, true_or, or_true, true_and, and_true]); omega) | (simp <;> fail) | skip) [runM_nil]
    refine hK _ _ ?_
    clear hK K
    refine pwp_ret ⟨.inr rfl, _, _, (by simp (disch := first | (refine Ok.mk ?_; (try simp only [Lm, La, Lc, Ln, Lt, Ld, Lr, Li, true_or, or_true, true_and, and_true]); omega) | (simp <;> fail) | skip) [runM_nil, resL, okR]; rfl), .refl _, by simp (disch := first | (refine Ok.mk ?_; (try simp only [Lm, La, Lc, Ln, Lt, Ld, Lr, Li, true_or, or_true, true_and, and_true]); omega) | (simp <;> fail) | skip) [resV, okR], rfl⟩
  | [a], _ =>
    first | refine pwp_sr ?_ | refine pwp_regionM ?_
    intro K hK
    simp (disch := first | (refine Ok.mk ?_; (try simp only [Lm, La, Lc, Ln, Lt, Ld, Lr, Li, true_or, or_true, true_and, and_true]); omega) | (simp <;> fail) | skip) [runM_nil]
    refine hK _ _ ?_
    clear hK K
    refine pwp_ret ⟨.inr rfl, _, _, (by simp (disch := first | (refine Ok.mk ?_; (try simp only [Lm, La, Lc, Ln, Lt, Ld, Lr, Li, true_or, or_true, true_and, and_true]); omega) | (simp <;> fail) | skip) [runM_nil, resL, okR]; rfl), .refl _, by simp (disch := first | (refine Ok.mk ?_; (try simp only [Lm, La, Lc, Ln, Lt, Ld, Lr, Li, true_or, or_true, true_and, and_true]); omega) | (simp <;> fail) | skip) [resV, okR], rfl⟩
  | [a, b], _ =>
    by_cases h1 : a.length ≤ 1000
    · by_cases h2 : b.length ≤ 1000
      · first | refine pwp_sr ?_ | refine pwp_regionM ?_
        intro K hK
        simp (disch := first | (refine Ok.mk ?_; (try simp only [Lm, La, Lc, Ln, Lt, Ld, Lr, Li, true_or, or_true, true_and, and_true]); omega) | (simp <;> fail) | skip) [runM_nil, sV, h1, h2]
        refine hK _ _ ?_
        clear hK K
        refine pwp_ret ⟨.inr rfl, _, _, (by simp (disch := first | (refine Ok.mk ?_; (try simp only [Lm, La, Lc, Ln, Lt, Ld, Lr, Li, true_or, or_true, true_and, and_true]); omega) | (simp <;> fail) | skip) [runM_nil, resL, okR, h1, h2]; rfl), .refl _, by simp (disch := first | (refine Ok.mk ?_; (try simp only [Lm, La, Lc, Ln, Lt, Ld, Lr, Li, true_or, or_true, true_and, and_true]); omega) | (simp <;> fail) | skip) [resV, okR, h1, h2], rfl⟩
      · first | refine pwp_sr ?_ | refine pwp_regionM ?_
        intro K hK
        simp (disch := first | (refine Ok.mk ?_; (try simp only [Lm, La, Lc, Ln, Lt, Ld, Lr, Li, true_or, or_true, true_and, and_true]); omega) | (simp <;> fail) | skip) [runM_nil, sV, h1, h2]
        refine hK _ _ ?_
        clear hK K
        refine pwp_ret ⟨.inr rfl, _, _, (by simp (disch := first | (refine Ok.mk ?_; (try simp only [Lm, La, Lc, Ln, Lt, Ld, Lr, Li, true_or, or_true, true_and, and_true]); omega) | (simp <;> fail) | skip) [runM_nil, resL, okR, h1, h2]; rfl), .refl _, by simp (disch := first | (refine Ok.mk ?_; (try simp only [Lm, La, Lc, Ln, Lt, Ld, Lr, Li, true_or, or_true, true_and, and_true]); omega) | (simp <;> fail) | skip) [resV, okR, h1, h2], rfl⟩
    · first | refine pwp_sr ?_ | refine pwp_regionM ?_
      intro K hK
      simp (disch := first | (refine Ok.mk ?_; (try simp only [Lm, La, Lc, Ln, Lt, Ld, Lr, Li, true_or, or_true, true_and, and_true]); omega) | (simp <;> fail) | skip) [runM_nil, sV, h1]
      refine hK _ _ ?_
      clear hK K
      refine pwp_ret ⟨.inr rfl, _, _, (by simp (disch := first | (refine Ok.mk ?_; (try simp only [Lm, La, Lc, Ln, Lt, Ld, Lr, Li, true_or, or_true, true_and, and_true]); omega) | (simp <;> fail) | skip) [runM_nil, resL, okR, h1]; rfl), .refl _, by simp (disch := first | (refine Ok.mk ?_; (try simp only [Lm, La, Lc, Ln, Lt, Ld, Lr, Li, true_or, or_true, true_and, and_true]); omega) | (simp <;> fail) | skip) [resV, okR, h1], rfl⟩
  | a :: b :: c :: l, hr =>
    have hn : ¬ ((l.length : Int) + 1 + 1 + 1 = 2) := by omega
    simp only [List.length_cons] at hr
    first | refine pwp_sr ?_ | refine pwp_regionM ?_
    intro K hK
    simp (disch := first | (refine Ok.mk ?_; (try simp only [Lm, La, Lc, Ln, Lt, Ld, Lr, Li, true_or, or_true, true_and, and_true]); omega) | (simp <;> fail) | skip) [runM_nil, hn]
    refine hK _ _ ?_
    clear hK K
    refine pwp_ret ⟨.inr rfl, _, _, (by simp (disch := first | (refine Ok.mk ?_; (try simp only [Lm, La, Lc, Ln, Lt, Ld, Lr, Li, true_or, or_true, true_and, and_true]); omega) | (simp <;> fail) | skip) [runM_nil, resL, okR]; rfl), .refl _, by simp (disch := first | (refine Ok.mk ?_; (try simp only [Lm, La, Lc, Ln, Lt, Ld, Lr, Li, true_or, or_true, true_and, and_true]); omega) | (simp <;> fail) | skip) [resV, okR], rfl⟩
theorem pair_ok {s : Nat} {xs : List PV} {o : Bool} {b : List Nat} (hx : xs = b.map u8) (hs : s = 1 ∨ b.length = 0) (k v : List Nat) (hl : b.length + k.length + v.length ≤ 1000000000) :
    PSpec Tryd.prog 30 [.lst s xs o, .agg [.str (ci k), .str (ci v)]] (bV (b ++ vb k.length ++ k ++ vb v.length ++ v) true) := by
  intro H
  have c1 := frame_ok (o := false) hx hs k (by omega)
  have hvk := vb_length_le10 (n := k.length) (by omega)
  have c2 := frame_ok (s := 1) (o := false) (xs := (b ++ vb k.length ++ k).map u8) rfl (.inl rfl) v (by simp only [List.length_append]; omega)
  generalize b ++ vb k.length ++ k = A at *
  generalize A ++ vb v.length ++ v = Z at *
  refine spec_of t30 (by simp [p30]) ?_
  simp only [p30]
  first | refine pwp_sr ?_ | refine pwp_regionM ?_
  intro K hK
  simp (disch := first | (refine Ok.mk ?_; (try simp only [Lm, La, Lc, Ln, Lt, Ld, Lr, Li, true_or, or_true, true_and, and_true]); omega) | (simp <;> fail) | skip) [runM_nil]
  refine hK _ _ ?_
  clear hK K
  first | refine pwp_sd hmix ?_ | refine pwp_drawM hmix ?_
  intro K hK
  simp (disch := first | (refine Ok.mk ?_; (try simp only [Lm, La, Lc, Ln, Lt, Ld, Lr, Li, true_or, or_true, true_and, and_true]); omega) | (simp <;> fail) | skip) [runM_nil]
  refine useD (c1) ?_
  simp (disch := first | (refine Ok.mk ?_; (try simp only [Lm, La, Lc, Ln, Lt, Ld, Lr, Li, true_or, or_true, true_and, and_true]); omega) | (simp <;> fail) | skip) [runM_nil]
  refine useD (c2) ?_
  simp (disch := first | (refine Ok.mk ?_; (try simp only [Lm, La, Lc, Ln, Lt, Ld, Lr, Li, true_or, or_true, true_and, and_true]); omega) | (simp <;> fail) | skip) [runM_nil]
  refine hK _ _ ?_
  clear hK K
  refine pwp_ret ⟨.inr rfl, _, _, (by simp (disch := first | (refine Ok.mk ?_; (try simp only [Lm, La, Lc, Ln, Lt, Ld, Lr, Li, true_or, or_true, true_and, and_true]); omega) | (simp <;> fail) | skip) [runM_nil, resL]; rfl), .refl _, by simp (disch := first | (refine Ok.mk ?_; (try simp only [Lm, La, Lc, Ln, Lt, Ld, Lr, Li, true_or, or_true, true_and, and_true]); omega) | (simp <;> fail) | skip) [resV], rfl⟩
def rowS (p : List Rc) : List Nat := vb p.length ++ p.flatMap fun r => vb (r.getD 0 []).length ++ r.getD 0 [] ++ vb (r.getD 1 []).length ++ r.getD 1 []
def blkW (p : List Rc) : List Nat := 255 :: 83 :: escB (sealed tbl (rowS p))
def fileS (l : List Rc) : List Nat := [84, 83, 81, 49] ++ (chk 3 l).flatMap blkW
def wrS (l : List Rc) : List Nat × Nat := if l.all okR = true then (fileS l, 0) else ([], 10)
def rowSt (p : List Rc) (i : Nat) : List Nat := vb p.length ++ (p.take i).flatMap fun r => vb (r.getD 0 []).length ++ r.getD 0 [] ++ vb (r.getD 1 []).length ++ r.getD 1 []
theorem okR_iff {r : Rc} : okR r = true ↔ ∃ k v, r = [k, v] ∧ k.length ≤ 1000 ∧ v.length ≤ 1000 := by
  match r with
  | [] => simp [okR]
  | [a] => simp [okR]
  | [a, b] =>
    simp only [okR, Bool.and_eq_true, decide_eq_true_iff]
    exact ⟨fun ⟨h1, h2⟩ => ⟨a, b, rfl, h1, h2⟩, fun ⟨k, v, e, h1, h2⟩ => by cases e; exact ⟨h1, h2⟩⟩
  | a :: b :: c :: l => simp [okR]
theorem rowSt_succ {p : List Rc} {i : Nat} (h : i < p.length) {k v : List Nat} (e : p[i] = [k, v]) : rowSt p (i + 1) = rowSt p i ++ vb k.length ++ k ++ vb v.length ++ v := by
  unfold rowSt
  rw [List.take_succ_eq_append_getElem h, List.flatMap_append, e]
  simp
theorem rowS_len {p : List Rc} (hp : p.length ≤ 100) : ∀ i, i ≤ p.length → (∀ r ∈ p.take i, okR r = true) → (rowSt p i).length ≤ 10 + 2020 * i
  | 0, _, _ => by
    have := vb_length_le10 (n := p.length) (by omega)
    simpa [rowSt] using this
  | i + 1, hi, hok => by
    have ih := rowS_len hp i (by omega) fun r hr => hok r (by rw [List.take_succ_eq_append_getElem (by omega)]; exact List.mem_append_left _ hr)
    obtain ⟨k, v, e, hk, hv⟩ := okR_iff.1 (hok p[i] (by rw [List.take_succ_eq_append_getElem (by omega)]; exact List.mem_append_right _ (List.mem_singleton.2 rfl)))
    rw [rowSt_succ (by omega) e]
    have h1 := vb_length_le10 (n := k.length) (by omega)
    have h2 := vb_length_le10 (n := v.length) (by omega)
    simp only [List.length_append]
    omega
theorem escB_len (b : List Nat) : (escB b).length ≤ 2 * b.length := by
  have h := rep_len (p := [255]) (n := [255, 0]) (by simp) _ b (Nat.le_refl _)
  have h2 := occ_le1 (p := [255]) (by simp) b
  simp only [List.length_cons, List.length_nil] at h
  unfold escB
  omega
def chV (p : List Rc) : List PV := [.lst 1 (rowsC p) false]
theorem chV_inj (a b : List Rc) (h : chV a = chV b) : a = b := by
  simp only [chV, List.cons.injEq, PV.lst.injEq, and_true, true_and] at h
  exact rowsC_inj h
theorem vb_sum_len {pre : List (List Rc)} (h3 : ∀ p ∈ pre, p.length ≤ 3) (h : ∀ p ∈ pre, ∀ r ∈ p, okR r = true) : (pre.flatMap blkW).length ≤ 13000 * pre.length := by
  induction pre with
  | nil => simp
  | cons p pre ih =>
    have h1 := ih (fun q hq => h3 q (List.mem_cons_of_mem _ hq)) fun q hq => h q (List.mem_cons_of_mem _ hq)
    have hp := h3 p (List.mem_cons_self ..)
    have h2 := rowS_len (p := p) (by omega) p.length (Nat.le_refl _) (by rw [List.take_length]; exact h p (List.mem_cons_self ..))
    have h4 := escB_len (sealed tbl (rowS p))
    rw [sealed_length] at h4
    have e : rowSt p p.length = rowS p := by unfold rowSt rowS; rw [List.take_length]
    rw [e] at h2
    rw [List.flatMap_cons, List.length_append, List.length_cons]
    unfold blkW at *
    simp only [List.length_cons] at *
    omega
set_option maxHeartbeats 1000000 in
theorem write_ok {l : List Rc} {s : Nat} {xs : List PV} (hx : xs = rowsC l) (hs : s = 1 ∨ l.length = 0) (hl : l.length ≤ 1000000) (hr : ∀ r ∈ l, r.length ≤ 1000000) (hw : ∀ r ∈ l, ∀ t ∈ r, ∀ x ∈ t, x < 256) {o : Bool} :
    PSpec Tryd.prog 11 [.lst s xs o] (.tup [bV (wrS l).1 false, .int .i64 ((wrS l).2 : Nat)]) := by
  intro H
  have hxl : xs.length = l.length := by rw [hx]; simp [rowsC]
  have hit := chkR_iter (s := s) (l := xs) (o := false) (hs.imp id fun h => by omega) (by omega) 3 (by omega) (by omega)
  have hmp : ((chk 3 xs).map fun p => [PV.lst 1 p false]) = (chk 3 l).map chV := by
    rw [hx, rowsC, chk_map _ (by omega) _ l (Nat.le_refl _), List.map_map]
    rfl
  rw [hmp] at hit
  obtain ⟨cf1, cf2⟩ := chk_facts (m := 3) (by omega) _ l (Nat.le_refl _)
  have hfl := chk_flat (m := 3) (by omega) _ l (Nat.le_refl _)
  have hmem : ∀ p ∈ chk 3 l, ∀ r ∈ p, r ∈ l := fun p hp r hr => by rw [← hfl]; exact List.mem_flatten.2 ⟨p, hp, hr⟩
  have hcl : (chk 3 l).length ≤ 1000000 := by rw [cf2]; omega
  have hgood : (∀ p ∈ chk 3 l, ∀ r ∈ p, okR r = true) → wrS l = (fileS l, 0) := fun h => by
    unfold wrS
    rw [if_pos (List.all_eq_true.2 fun r hr => by
      rw [← hfl] at hr
      obtain ⟨p, hp, hr⟩ := List.mem_flatten.1 hr
      exact h p hp r hr)]
  have hbad : (∃ p ∈ chk 3 l, ∃ r ∈ p, okR r = false) → wrS l = ([], 10) := fun ⟨p, hp, r, hr, he⟩ => by
    unfold wrS
    rw [if_neg (fun h => by
      have := List.all_eq_true.1 h r (hmem p hp r hr)
      rw [he] at this
      cases this)]
  have hbad2 : ∀ p ∈ chk 3 l, ∀ r ∈ p, okR r = false → ∃ p ∈ chk 3 l, ∃ r ∈ p, okR r = false := fun p hp r hr h => ⟨p, hp, r, hr, h⟩
  have hfile : fileS l = [84, 83, 81, 49] ++ (chk 3 l).flatMap blkW := rfl
  refine SpecH_mono (SpecH_lend (R := fun r H' => ∃ o, r = .tup [bV (wrS l).1 o, .int .i64 ((wrS l).2 : Nat)] ∧ H' = H) ?_) (by
    rintro r H' ⟨_, ⟨o, rfl, rfl⟩, rfl⟩
    exact ⟨by simp [lend, lendL], rfl⟩)
  refine spec_ofU t11 (by simp [p11]) ?_
  simp only [p11]
  first | refine pwp_sr ?_ | refine pwp_regionM ?_
  intro K hK
  simp (disch := first | (refine Ok.mk ?_; (try simp only [Lm, La, Lc, Ln, Lt, Ld, Lr, Li, true_or, or_true, true_and, and_true]); omega) | (simp <;> fail) | skip) [runM_nil]
  intro b2 h_b2
  try simp (disch := first | (refine Ok.mk ?_; (try simp only [Lm, La, Lc, Ln, Lt, Ld, Lr, Li, true_or, or_true, true_and, and_true]); omega) | (simp <;> fail) | skip) [runM_nil]
  intro b3 h_b3
  have d_b3_b2 : ¬ b2 = b3 := fun e => by subst e; simp [hget] at h_b3
  try simp (disch := first | (refine Ok.mk ?_; (try simp only [Lm, La, Lc, Ln, Lt, Ld, Lr, Li, true_or, or_true, true_and, and_true]); omega) | (simp <;> fail) | skip) [runM_nil, d_b3_b2, Ne.symm d_b3_b2]
  refine hK _ _ ?_
  clear hK K
  first | refine pwp_sr ?_ | refine pwp_regionM ?_
  intro K hK
  simp (disch := first | (refine Ok.mk ?_; (try simp only [Lm, La, Lc, Ln, Lt, Ld, Lr, Li, true_or, or_true, true_and, and_true]); omega) | (simp <;> fail) | skip) [runM_nil, d_b3_b2, Ne.symm d_b3_b2]
  refine useP (table_ok) ?_
  simp (disch := first | (refine Ok.mk ?_; (try simp only [Lm, La, Lc, Ln, Lt, Ld, Lr, Li, true_or, or_true, true_and, and_true]); omega) | (simp <;> fail) | skip) [runM_nil, d_b3_b2, Ne.symm d_b3_b2]
  intro b4 h_b4
  have d_b4_b2 : ¬ b2 = b4 := fun e => by subst e; simp [hget, d_b3_b2, Ne.symm d_b3_b2] at h_b4
  have d_b4_b3 : ¬ b3 = b4 := fun e => by subst e; simp [hget, d_b3_b2, Ne.symm d_b3_b2] at h_b4
  try simp (disch := first | (refine Ok.mk ?_; (try simp only [Lm, La, Lc, Ln, Lt, Ld, Lr, Li, true_or, or_true, true_and, and_true]); omega) | (simp <;> fail) | skip) [runM_nil, d_b3_b2, Ne.symm d_b3_b2, d_b4_b2, Ne.symm d_b4_b2, d_b4_b3, Ne.symm d_b4_b3]
  intro b5 h_b5
  have d_b5_b2 : ¬ b2 = b5 := fun e => by subst e; simp [hget, d_b3_b2, Ne.symm d_b3_b2, d_b4_b2, Ne.symm d_b4_b2, d_b4_b3, Ne.symm d_b4_b3] at h_b5
  have d_b5_b3 : ¬ b3 = b5 := fun e => by subst e; simp [hget, d_b3_b2, Ne.symm d_b3_b2, d_b4_b2, Ne.symm d_b4_b2, d_b4_b3, Ne.symm d_b4_b3] at h_b5
  have d_b5_b4 : ¬ b4 = b5 := fun e => by subst e; simp [hget, d_b3_b2, Ne.symm d_b3_b2, d_b4_b2, Ne.symm d_b4_b2, d_b4_b3, Ne.symm d_b4_b3] at h_b5
  try simp (disch := first | (refine Ok.mk ?_; (try simp only [Lm, La, Lc, Ln, Lt, Ld, Lr, Li, true_or, or_true, true_and, and_true]); omega) | (simp <;> fail) | skip) [runM_nil, d_b3_b2, Ne.symm d_b3_b2, d_b4_b2, Ne.symm d_b4_b2, d_b4_b3, Ne.symm d_b4_b3, d_b5_b2, Ne.symm d_b5_b2, d_b5_b3, Ne.symm d_b5_b3, d_b5_b4, Ne.symm d_b5_b4]
  refine hK _ _ ?_
  clear hK K
  refine pwp_seq (pwp_seq ?_)
  first | refine pwp_sr ?_ | refine pwp_regionM ?_
  intro K hK
  simp (disch := first | (refine Ok.mk ?_; (try simp only [Lm, La, Lc, Ln, Lt, Ld, Lr, Li, true_or, or_true, true_and, and_true]); omega) | (simp <;> fail) | skip) [runM_nil, d_b3_b2, Ne.symm d_b3_b2, d_b4_b2, Ne.symm d_b4_b2, d_b4_b3, Ne.symm d_b4_b3, d_b5_b2, Ne.symm d_b5_b2, d_b5_b3, Ne.symm d_b5_b3, d_b5_b4, Ne.symm d_b5_b4]
  refine useP (chkR_ok 3 (by omega) (by omega)) ?_
  simp (disch := first | (refine Ok.mk ?_; (try simp only [Lm, La, Lc, Ln, Lt, Ld, Lr, Li, true_or, or_true, true_and, and_true]); omega) | (simp <;> fail) | skip) [runM_nil, d_b3_b2, Ne.symm d_b3_b2, d_b4_b2, Ne.symm d_b4_b2, d_b4_b3, Ne.symm d_b4_b3, d_b5_b2, Ne.symm d_b5_b2, d_b5_b3, Ne.symm d_b5_b3, d_b5_b4, Ne.symm d_b5_b4]
  refine hK _ _ ?_
  clear hK K
  refine pwp_block ?_
  refine pwp_kept (keep := [2, 3, 4, 5, 14]) (by simp [keepA, getS]; rfl) ?_
  generalize chk 3 l = C at *
  refine pwp_rangeM chV chV_inj C (by simp [runM_nil]) hit (fun a _ => rfl)
    (fun pre H' => (∀ p ∈ pre, p ∈ C) ∧ (∀ p ∈ pre, ∀ r ∈ p, okR r = true) ∧ ∃ ow, ((b5, [.lst 1 (tbl.map u32) false]) :: (b4, [bV ([84, 83, 81, 49] ++ pre.flatMap blkW) ow]) :: (b3, [.int .i64 0]) :: (b2, [.lst 0 [] true]) :: H).Sublist H')
    (fun pre e H' => e = .ret ∧ (∃ p ∈ C, ∃ r ∈ p, okR r = false) ∧ ∃ X Y, H' = (b5, X) :: (b4, Y) :: (b3, [.int .i64 10]) :: (b2, [.lst 0 [] true]) :: H) ⟨by simp, by simp, false, .refl _⟩ ?_ ?_ ?_
  · rintro pre p H' hp hlt ⟨hpC, hok, ow, hsub⟩
    refine pwp_drop hsub ?_
    have hsum := vb_sum_len (fun q hq => (cf1 q (hpC q hq)).2) hok
    obtain ⟨p1, p3⟩ := cf1 p hp
    have hrl : (rowsC p).length = p.length := by simp [rowsC]
    have hge : ∀ i (h : i < p.length), (rowsC p)[i]? = some (.lst 1 (p[i].map sV) false) := fun i h => by rw [rowsC, List.getElem?_map, List.getElem?_eq_getElem h]; rfl
    have cput := put_ok (s := 0) (xs := []) (o := false) (b := []) rfl (.inr rfl) p.length (by omega) (by simp)
    rw [List.nil_append] at cput
    simp only [setA, chV, lendA, lend]
    generalize hA : [84, 83, 81, 49] ++ pre.flatMap blkW = A at *
    have hAl : A.length ≤ 13000 * 1000000 + 4 := by rw [← hA]; simp only [List.length_append, List.length_cons, List.length_nil]; omega
    first | refine pwp_sr ?_ | refine pwp_regionM ?_
    intro K hK
    simp (disch := first | (refine Ok.mk ?_; (try simp only [Lm, La, Lc, Ln, Lt, Ld, Lr, Li, true_or, or_true, true_and, and_true]); omega) | (simp <;> fail) | skip) [runM_nil, d_b3_b2, Ne.symm d_b3_b2, d_b4_b2, Ne.symm d_b4_b2, d_b4_b3, Ne.symm d_b4_b3, d_b5_b2, Ne.symm d_b5_b2, d_b5_b3, Ne.symm d_b5_b3, d_b5_b4, Ne.symm d_b5_b4]
    refine hK _ _ ?_
    clear hK K
    refine ⟨rfl, ?_⟩
    refine pwp_block ?_
    first | refine pwp_sr ?_ | refine pwp_regionM ?_
    intro K hK
    simp (disch := first | (refine Ok.mk ?_; (try simp only [Lm, La, Lc, Ln, Lt, Ld, Lr, Li, true_or, or_true, true_and, and_true]); omega) | (simp <;> fail) | skip) [runM_nil, hrl, d_b3_b2, Ne.symm d_b3_b2, d_b4_b2, Ne.symm d_b4_b2, d_b4_b3, Ne.symm d_b4_b3, d_b5_b2, Ne.symm d_b5_b2, d_b5_b3, Ne.symm d_b5_b3, d_b5_b4, Ne.symm d_b5_b4]
    refine useP (cput) ?_
    simp (disch := first | (refine Ok.mk ?_; (try simp only [Lm, La, Lc, Ln, Lt, Ld, Lr, Li, true_or, or_true, true_and, and_true]); omega) | (simp <;> fail) | skip) [runM_nil, hrl, d_b3_b2, Ne.symm d_b3_b2, d_b4_b2, Ne.symm d_b4_b2, d_b4_b3, Ne.symm d_b4_b3, d_b5_b2, Ne.symm d_b5_b2, d_b5_b3, Ne.symm d_b5_b3, d_b5_b4, Ne.symm d_b5_b4]
    refine hK _ _ ?_
    clear hK K
    refine pwp_seq (pwp_seq ?_)
    first | refine pwp_sr ?_ | refine pwp_regionM ?_
    intro K hK
    simp (disch := first | (refine Ok.mk ?_; (try simp only [Lm, La, Lc, Ln, Lt, Ld, Lr, Li, true_or, or_true, true_and, and_true]); omega) | (simp <;> fail) | skip) [runM_nil, hrl, d_b3_b2, Ne.symm d_b3_b2, d_b4_b2, Ne.symm d_b4_b2, d_b4_b3, Ne.symm d_b4_b3, d_b5_b2, Ne.symm d_b5_b2, d_b5_b3, Ne.symm d_b5_b3, d_b5_b4, Ne.symm d_b5_b4]
    refine hK _ _ ?_
    clear hK K
    refine pwp_block ?_
    have es0 : rowSt p 0 = vb p.length := by simp [rowSt]
    refine pwp_loopK [2, 3, 4, 5, 6, 7, 20, 21, 22] (fun m st H2 => ∃ i : Nat, i ≤ p.length ∧ (∀ r ∈ p.take i, okR r = true) ∧ m = p.length - i ∧ H2 = (b5, [.lst 1 (tbl.map u32) false]) :: (b4, [bV A ow]) :: (b3, [.int .i64 0]) :: (b2, [.lst 0 [] true]) :: H ∧
        st = MS 53 [(2, .ptr (some (b2, 0))), (3, .ptr (some (b3, 0))), (4, .ptr (some (b4, 0))), (5, .ptr (some (b5, 0))), (6, .lst 1 (rowsC p) false), (7, bV (rowSt p i) true), (20, .lst 1 (rowsC p) false), (21, .int .i64 p.length), (22, .int .i64 i)]) (n := p.length)
      ⟨_, .refl _, 0, by omega, by simp, rfl, rfl, by simp [keepL_MS, keepA, getS, es0]⟩ ?_
    rintro m st _ ⟨i, hi, hoki, rfl, rfl, rfl⟩
    have hsl := rowS_len (p := p) (by omega) i hi hoki
    by_cases hlt2 : i < p.length
    · have hg := hge i hlt2
      have hrp := hr p[i] (hmem p hp _ (List.getElem_mem hlt2))
      have cp := isPair_ok p[i] hrp (o := false)
      have hbad2 := hbad2 p hp p[i] (List.getElem_mem hlt2)
      have hoki2 : okR p[i] = true → ∀ r ∈ p.take (i + 1), okR r = true := fun h r hr => by
        rw [List.take_succ_eq_append_getElem hlt2] at hr
        rcases List.mem_append.1 hr with hr | hr
        · exact hoki r hr
        · rw [List.mem_singleton.1 hr]; exact h
      have hsu := fun k v => rowSt_succ hlt2 (k := k) (v := v)
      generalize p[i] = r at *
      first | refine pwp_sr ?_ | refine pwp_regionM ?_
      intro K hK
      simp (disch := first | (refine Ok.mk ?_; (try simp only [Lm, La, Lc, Ln, Lt, Ld, Lr, Li, true_or, or_true, true_and, and_true]); omega) | (simp <;> fail) | skip) [runM_nil, d_b3_b2, Ne.symm d_b3_b2, d_b4_b2, Ne.symm d_b4_b2, d_b4_b3, Ne.symm d_b4_b3, d_b5_b2, Ne.symm d_b5_b2, d_b5_b3, Ne.symm d_b5_b3, d_b5_b4, Ne.symm d_b5_b4]
      refine hK _ _ ?_
      clear hK K
      refine pwp_seq (pwp_cT (by simp [hlt2]) (pwp_skip ?_))
      refine pwp_seq (pwp_block ?_)
      first | refine pwp_sr ?_ | refine pwp_regionM ?_
      intro K hK
      simp (disch := first | (refine Ok.mk ?_; (try simp only [Lm, La, Lc, Ln, Lt, Ld, Lr, Li, true_or, or_true, true_and, and_true]); omega) | (simp <;> fail) | skip) [runM_nil, hg, hrl, d_b3_b2, Ne.symm d_b3_b2, d_b4_b2, Ne.symm d_b4_b2, d_b4_b3, Ne.symm d_b4_b3, d_b5_b2, Ne.symm d_b5_b2, d_b5_b3, Ne.symm d_b5_b3, d_b5_b4, Ne.symm d_b5_b4]
      refine hK _ _ ?_
      clear hK K
      cases hk : okR r with
      | false =>
        rw [hk] at cp
        first | refine pwp_rif ?_ | refine pwp_rifE ?_
        intro K hK
        simp (disch := first | (refine Ok.mk ?_; (try simp only [Lm, La, Lc, Ln, Lt, Ld, Lr, Li, true_or, or_true, true_and, and_true]); omega) | (simp <;> fail) | skip) [runM_nil, d_b3_b2, Ne.symm d_b3_b2, d_b4_b2, Ne.symm d_b4_b2, d_b4_b3, Ne.symm d_b4_b3, d_b5_b2, Ne.symm d_b5_b2, d_b5_b3, Ne.symm d_b5_b3, d_b5_b4, Ne.symm d_b5_b4]
        refine useP (cp) ?_
        simp (disch := first | (refine Ok.mk ?_; (try simp only [Lm, La, Lc, Ln, Lt, Ld, Lr, Li, true_or, or_true, true_and, and_true]); omega) | (simp <;> fail) | skip) [runM_nil, d_b3_b2, Ne.symm d_b3_b2, d_b4_b2, Ne.symm d_b4_b2, d_b4_b3, Ne.symm d_b4_b3, d_b5_b2, Ne.symm d_b5_b2, d_b5_b3, Ne.symm d_b5_b3, d_b5_b4, Ne.symm d_b5_b4]
        refine hK _ _ ?_
        clear hK K
        refine ifT (by simp (disch := first | (refine Ok.mk ?_; (try simp only [Lm, La, Lc, Ln, Lt, Ld, Lr, Li, true_or, or_true, true_and, and_true]); omega) | (simp <;> fail) | skip) [runM_nil]) ?_
        first | refine pwp_sr ?_ | refine pwp_regionM ?_
        intro K hK
        simp (disch := first | (refine Ok.mk ?_; (try simp only [Lm, La, Lc, Ln, Lt, Ld, Lr, Li, true_or, or_true, true_and, and_true]); omega) | (simp <;> fail) | skip) [runM_nil, d_b3_b2, Ne.symm d_b3_b2, d_b4_b2, Ne.symm d_b4_b2, d_b4_b3, Ne.symm d_b4_b3, d_b5_b2, Ne.symm d_b5_b2, d_b5_b3, Ne.symm d_b5_b3, d_b5_b4, Ne.symm d_b5_b4]
        refine hK _ _ ?_
        clear hK K
        exact pwp_ret (.inr ⟨by simp, rfl, hbad2 hk, _, _, rfl⟩)
      | true =>
        rw [hk] at cp
        obtain ⟨k, v, rfl, hk1, hv1⟩ := okR_iff.1 hk
        have hsu := hsu k v rfl
        have c2 := pair_ok (s := 1) (xs := (rowSt p i).map u8) (o := false) rfl (.inl rfl) k v (by omega)
        rw [← hsu] at c2
        have hoki2 := hoki2 hk
        generalize rowSt p i = T at *
        generalize hT2 : rowSt p (i + 1) = T2 at *
        first | refine pwp_rif ?_ | refine pwp_rifE ?_
        intro K hK
        simp (disch := first | (refine Ok.mk ?_; (try simp only [Lm, La, Lc, Ln, Lt, Ld, Lr, Li, true_or, or_true, true_and, and_true]); omega) | (simp <;> fail) | skip) [runM_nil, d_b3_b2, Ne.symm d_b3_b2, d_b4_b2, Ne.symm d_b4_b2, d_b4_b3, Ne.symm d_b4_b3, d_b5_b2, Ne.symm d_b5_b2, d_b5_b3, Ne.symm d_b5_b3, d_b5_b4, Ne.symm d_b5_b4]
        refine useP (cp) ?_
        simp (disch := first | (refine Ok.mk ?_; (try simp only [Lm, La, Lc, Ln, Lt, Ld, Lr, Li, true_or, or_true, true_and, and_true]); omega) | (simp <;> fail) | skip) [runM_nil, d_b3_b2, Ne.symm d_b3_b2, d_b4_b2, Ne.symm d_b4_b2, d_b4_b3, Ne.symm d_b4_b3, d_b5_b2, Ne.symm d_b5_b2, d_b5_b3, Ne.symm d_b5_b3, d_b5_b4, Ne.symm d_b5_b4]
        refine hK _ _ ?_
        clear hK K
        refine ifF (by simp (disch := first | (refine Ok.mk ?_; (try simp only [Lm, La, Lc, Ln, Lt, Ld, Lr, Li, true_or, or_true, true_and, and_true]); omega) | (simp <;> fail) | skip) [runM_nil]) (pwp_skip ?_)
        first | refine pwp_sd hmix ?_ | refine pwp_drawM hmix ?_
        intro K hK
        simp (disch := first | (refine Ok.mk ?_; (try simp only [Lm, La, Lc, Ln, Lt, Ld, Lr, Li, true_or, or_true, true_and, and_true]); omega) | (simp <;> fail) | skip) [runM_nil, sV, d_b3_b2, Ne.symm d_b3_b2, d_b4_b2, Ne.symm d_b4_b2, d_b4_b3, Ne.symm d_b4_b3, d_b5_b2, Ne.symm d_b5_b2, d_b5_b3, Ne.symm d_b5_b3, d_b5_b4, Ne.symm d_b5_b4]
        refine useD (c2) ?_
        simp (disch := first | (refine Ok.mk ?_; (try simp only [Lm, La, Lc, Ln, Lt, Ld, Lr, Li, true_or, or_true, true_and, and_true]); omega) | (simp <;> fail) | skip) [runM_nil, sV, d_b3_b2, Ne.symm d_b3_b2, d_b4_b2, Ne.symm d_b4_b2, d_b4_b3, Ne.symm d_b4_b3, d_b5_b2, Ne.symm d_b5_b2, d_b5_b3, Ne.symm d_b5_b3, d_b5_b4, Ne.symm d_b5_b4]
        refine hK _ _ ?_
        clear hK K
        first | refine pwp_sr ?_ | refine pwp_regionM ?_
        intro K hK
        simp (disch := first | (refine Ok.mk ?_; (try simp only [Lm, La, Lc, Ln, Lt, Ld, Lr, Li, true_or, or_true, true_and, and_true]); omega) | (simp <;> fail) | skip) [runM_nil, d_b3_b2, Ne.symm d_b3_b2, d_b4_b2, Ne.symm d_b4_b2, d_b4_b3, Ne.symm d_b4_b3, d_b5_b2, Ne.symm d_b5_b2, d_b5_b3, Ne.symm d_b5_b3, d_b5_b4, Ne.symm d_b5_b4]
        refine hK _ _ ?_
        clear hK K
        exact ⟨p.length - (i + 1), by omega, _, .refl _, i + 1, by omega, hoki2, rfl, rfl, by simp [keepL_MS, keepA, getS, hT2]⟩
    · obtain rfl : i = p.length := by omega
      have e : rowSt p p.length = rowS p := by unfold rowSt rowS; rw [List.take_length]
      rw [e] at hsl ⊢
      rw [List.take_length] at hoki
      have hrw : ∀ x ∈ rowS p, x < 256 := by
        intro x hx
        unfold rowS at hx
        rcases List.mem_append.1 hx with hx | hx
        · exact vb_lt _ x hx
        · obtain ⟨r, hr, hx⟩ := List.mem_flatMap.1 hx
          obtain ⟨k, v, rfl, _, _⟩ := okR_iff.1 (hoki r hr)
          have hkw := hw _ (hmem p hp _ hr) k (by simp)
          have hvw := hw _ (hmem p hp _ hr) v (by simp)
          simp only [List.getD_cons_zero, List.getD_cons_succ, List.mem_append] at hx
          rcases hx with ((hx | hx) | hx) | hx
          · exact vb_lt _ x hx
          · exact hkw x hx
          · exact vb_lt _ x hx
          · exact hvw x hx
      have cse := seal_ok tbl_length tbl_lt (ot := false) (o := false) (s := 1) (xs := (rowS p).map u8) rfl (.inl rfl) hrw (by omega)
      have hZl := sealed_length tbl (rowS p)
      have hZw := sealed_lt tbl hrw
      have hblk : blkW p = 255 :: 83 :: escB (sealed tbl (rowS p)) := rfl
      have hAp : [84, 83, 81, 49] ++ (pre ++ [p]).flatMap blkW = A ++ 255 :: 83 :: escB (sealed tbl (rowS p)) := by rw [← hA, List.flatMap_append, List.append_assoc, ← hblk]; simp
      generalize rowS p = Rw at *
      generalize sealed tbl Rw = Z at *
      have ces := escape_ok (s := 1) (xs := Z.map u8) (o := false) rfl (.inl rfl) hZw (by omega)
      have hEl := escB_len Z
      generalize escB Z = E at *
      have cc := concat_ok (es := [bV A false, .lst 1 [.int .u8 255, .int .u8 83] false, bV E false]) (o := false) [(1, A), (1, [255, 83]), (1, E)] rfl (by simp) (by simp) (by simp; omega)
      have hcc : [(1, A), (1, [255, 83]), (1, E)].flatMap (·.2) = A ++ 255 :: 83 :: E := by simp
      rw [hcc] at cc
      have hok2 : ∀ q ∈ pre ++ [p], ∀ r ∈ q, okR r = true := fun q hq => (List.mem_append.1 hq).elim (hok q) fun h => by rw [List.mem_singleton.1 h]; exact hoki
      have hpC2 : ∀ q ∈ pre ++ [p], q ∈ C := fun q hq => (List.mem_append.1 hq).elim (hpC q) fun h => by rw [List.mem_singleton.1 h]; exact hp
      rw [← hAp] at cc
      generalize [84, 83, 81, 49] ++ (pre ++ [p]).flatMap blkW = A2 at *
      first | refine pwp_sr ?_ | refine pwp_regionM ?_
      intro K hK
      simp (disch := first | (refine Ok.mk ?_; (try simp only [Lm, La, Lc, Ln, Lt, Ld, Lr, Li, true_or, or_true, true_and, and_true]); omega) | (simp <;> fail) | skip) [runM_nil, d_b3_b2, Ne.symm d_b3_b2, d_b4_b2, Ne.symm d_b4_b2, d_b4_b3, Ne.symm d_b4_b3, d_b5_b2, Ne.symm d_b5_b2, d_b5_b3, Ne.symm d_b5_b3, d_b5_b4, Ne.symm d_b5_b4]
      refine hK _ _ ?_
      clear hK K
      refine pwp_seq (pwp_cF (by simp) (pwp_exit ?_))
      first | refine pwp_sr ?_ | refine pwp_regionM ?_
      intro K hK
      simp (disch := first | (refine Ok.mk ?_; (try simp only [Lm, La, Lc, Ln, Lt, Ld, Lr, Li, true_or, or_true, true_and, and_true]); omega) | (simp <;> fail) | skip) [runM_nil, d_b3_b2, Ne.symm d_b3_b2, d_b4_b2, Ne.symm d_b4_b2, d_b4_b3, Ne.symm d_b4_b3, d_b5_b2, Ne.symm d_b5_b2, d_b5_b3, Ne.symm d_b5_b3, d_b5_b4, Ne.symm d_b5_b4]
      refine useP (cse) ?_
      simp (disch := first | (refine Ok.mk ?_; (try simp only [Lm, La, Lc, Ln, Lt, Ld, Lr, Li, true_or, or_true, true_and, and_true]); omega) | (simp <;> fail) | skip) [runM_nil, d_b3_b2, Ne.symm d_b3_b2, d_b4_b2, Ne.symm d_b4_b2, d_b4_b3, Ne.symm d_b4_b3, d_b5_b2, Ne.symm d_b5_b2, d_b5_b3, Ne.symm d_b5_b3, d_b5_b4, Ne.symm d_b5_b4]
      refine hK _ _ ?_
      clear hK K
      first | refine pwp_ss hmix ?_ | refine pwp_drawS hmix ?_
      intro K hK
      simp (disch := first | (refine Ok.mk ?_; (try simp only [Lm, La, Lc, Ln, Lt, Ld, Lr, Li, true_or, or_true, true_and, and_true]); omega) | (simp <;> fail) | skip) [runM_nil, planS_nil, d_b3_b2, Ne.symm d_b3_b2, d_b4_b2, Ne.symm d_b4_b2, d_b4_b3, Ne.symm d_b4_b3, d_b5_b2, Ne.symm d_b5_b2, d_b5_b3, Ne.symm d_b5_b3, d_b5_b4, Ne.symm d_b5_b4]
      refine useDS (ces) ?_
      simp (disch := first | (refine Ok.mk ?_; (try simp only [Lm, La, Lc, Ln, Lt, Ld, Lr, Li, true_or, or_true, true_and, and_true]); omega) | (simp <;> fail) | skip) [runM_nil, planS_nil, d_b3_b2, Ne.symm d_b3_b2, d_b4_b2, Ne.symm d_b4_b2, d_b4_b3, Ne.symm d_b4_b3, d_b5_b2, Ne.symm d_b5_b2, d_b5_b3, Ne.symm d_b5_b3, d_b5_b4, Ne.symm d_b5_b4]
      refine useDS (cc) ?_
      simp (disch := first | (refine Ok.mk ?_; (try simp only [Lm, La, Lc, Ln, Lt, Ld, Lr, Li, true_or, or_true, true_and, and_true]); omega) | (simp <;> fail) | skip) [runM_nil, planS_nil, d_b3_b2, Ne.symm d_b3_b2, d_b4_b2, Ne.symm d_b4_b2, d_b4_b3, Ne.symm d_b4_b3, d_b5_b2, Ne.symm d_b5_b2, d_b5_b3, Ne.symm d_b5_b3, d_b5_b4, Ne.symm d_b5_b4]
      refine hK _ _ ?_
      clear hK K
      exact .inl ⟨rfl, hpC2, hok2, true, .refl _⟩
  · rintro H' ⟨_, hok, ow, hsub⟩
    refine pwp_drop hsub ?_
    rw [hgood hok, hfile]
    generalize [84, 83, 81, 49] ++ C.flatMap blkW = A at *
    first | refine pwp_sr ?_ | refine pwp_regionM ?_
    intro K hK
    simp (disch := first | (refine Ok.mk ?_; (try simp only [Lm, La, Lc, Ln, Lt, Ld, Lr, Li, true_or, or_true, true_and, and_true]); omega) | (simp <;> fail) | skip) [runM_nil, d_b3_b2, Ne.symm d_b3_b2, d_b4_b2, Ne.symm d_b4_b2, d_b4_b3, Ne.symm d_b4_b3, d_b5_b2, Ne.symm d_b5_b2, d_b5_b3, Ne.symm d_b5_b3, d_b5_b4, Ne.symm d_b5_b4]
    refine hK _ _ ?_
    clear hK K
    refine pwp_ret (And.intro (.inr rfl) ⟨_, _, _, (by simp [runM_nil, resL, d_b3_b2, Ne.symm d_b3_b2, d_b4_b2, Ne.symm d_b4_b2, d_b4_b3, Ne.symm d_b4_b3, d_b5_b2, Ne.symm d_b5_b2, d_b5_b3, Ne.symm d_b5_b3, d_b5_b4, Ne.symm d_b5_b4]; rfl), (.cons _ (.cons _ (.cons _ (.cons _ (.refl _))))), Up_refl _ _, false, (by simp [resV]), rfl⟩)
  · rintro pre e H' _ _ ⟨rfl, hb, X, Y, rfl⟩
    rw [hbad hb]
    refine (And.intro (.inr rfl) ⟨_, _, _, (by simp [runM_nil, resL, d_b3_b2, Ne.symm d_b3_b2, d_b4_b2, Ne.symm d_b4_b2, d_b4_b3, Ne.symm d_b4_b3, d_b5_b2, Ne.symm d_b5_b2, d_b5_b3, Ne.symm d_b5_b3, d_b5_b4, Ne.symm d_b5_b4]; rfl), (.cons _ (.cons _ (.cons _ (.cons _ (.refl _))))), (show Up true _ (.tup [.lst 1 [] false, .int .i64 10]) by simp [resV]), false, (by simp), rfl⟩)
end Go.Proofs.YtjcjbpbkakfjdaaDoor.E
/- A split's blocks are those of the right part that begin in it. -/
namespace Go.Proofs.YtjcjbpbkakfjdaaDoor.E
open Go Go.RowKit Go.Proofs
set_option linter.unusedVariables false
set_option linter.unusedSimpArgs false
def ofW (l : List (Nat × List Rc)) (f t : Nat) : List Rc := (l.filter fun p => decide (f ≤ p.1 ∧ p.1 < t)).flatMap (·.2)
theorem mkB_mid {b : List Nat} : ∀ (d k f : Nat), f = k + d → f ≤ mkB b k → mkB b f = mkB b k
  | 0, k, f, h, _ => by rw [h]; rfl
  | d + 1, k, f, h, hle => by
    have h1 := (mkB_le b k).1
    have hn : ¬ [255, 83].isPrefixOf (b.drop k) = true := fun hp => by rw [mkB_here hp] at hle; omega
    have h2 := mkB_next (show k < b.length by omega) hn
    rw [h2] at hle ⊢
    exact mkB_mid d (k + 1) f (by omega) hle
theorem blkB_pre {b : List Nat} {k : Nat} (h : (blkB b k).2.2.2 = 0) : [255, 83].isPrefixOf (b.drop k) = true ∧ (blkB b k).2.2.1 = mkB b (k + 2) := by
  unfold blkB at *
  by_cases h0 : [255, 83].isPrefixOf (b.drop k) = false
  · rw [if_pos h0] at h; cases h
  · rw [if_neg h0] at h ⊢
    refine ⟨by simpa using h0, ?_⟩
    by_cases h1 : (unaB (rawB b k)).2 ≠ 0
    · rw [if_pos h1] at h; exact absurd h h1
    · rw [if_neg h1] at h ⊢
      by_cases h2 : (opened tbl (unaB (rawB b k)).1).2 ≠ 0
      · rw [if_pos h2] at h; exact absurd h h2
      · rw [if_neg h2]
theorem mkB_in {b : List Nat} {k f : Nat} (hp : [255, 83].isPrefixOf (b.drop k) = true) (h1 : k < f) (h2 : f ≤ mkB b (k + 2)) : mkB b f = mkB b (k + 2) := by
  by_cases h : f = k + 1
  · subst h
    obtain ⟨hl, _, h83⟩ := pre2_iff.1 hp
    refine mkB_next hl fun h => ?_
    obtain ⟨_, h255, _⟩ := pre2_iff.1 h
    omega
  · exact mkB_mid (f - (k + 2)) (k + 2) f (by omega) h2
theorem lastE_ge : ∀ (l : List Bk) (k : Nat), (∀ p ∈ l, k ≤ p.1) → l.Pairwise (fun p q => p.1 ≤ q.1) → k ≤ lastE k l ∧ ∀ p ∈ l, p.1 ≤ lastE k l
  | [], k, _, _ => ⟨Nat.le_refl _, fun p hp => by cases hp⟩
  | a :: l, k, h, hp => by
    obtain ⟨hp1, hp2⟩ := List.pairwise_cons.1 hp
    obtain ⟨i1, i2⟩ := lastE_ge l a.1 hp1 hp2
    have ha := h a (List.mem_cons_self ..)
    refine ⟨Nat.le_trans ha i1, fun p hp => ?_⟩
    rcases List.mem_cons.1 hp with rfl | hp
    · exact i1
    · exact i2 p hp
theorem blks_ends (b : List Nat) : ∀ (n k : Nat), (blks n b k).Pairwise (fun p q => p.1 ≤ q.1)
  | 0, k => by simp [blks]
  | n + 1, k => by
    rw [blks]
    split
    · rename_i hc
      refine List.Pairwise.cons (fun p hp => ?_) (blks_ends b n _)
      obtain ⟨_, q2, q3, _⟩ := (blks_facts b n _).2.1 p hp
      show (blkB b k).2.2.1 ≤ p.1
      omega
    · simp
theorem blk_good (b : List Nat) (k : Nat) (hk : k ≤ b.length) : (∀ p ∈ blkAt b k, p.2.1 < lastE k (blkAt b k)) ∧ k ≤ lastE k (blkAt b k) ∧ lastE k (blkAt b k) ≤ b.length := by
  have f2 := (blks_facts b (b.length - k) k).2.1
  have he := blks_ends b (b.length - k) k
  obtain ⟨g1, g2⟩ := lastE_ge (blkAt b k) k (fun p hp => by have := f2 p hp; omega) he
  refine ⟨fun p hp => ?_, g1, ?_⟩
  · have h1 := g2 p hp
    have h2 := (f2 p hp).2.2.1
    omega
  · rcases List.eq_nil_or_concat (blkAt b k) with h | ⟨l, a, h⟩
    · rw [h]; exact hk
    · rw [h, List.concat_eq_append, lastE_snoc]
      exact (f2 a (by show a ∈ blkAt b k; rw [h, List.concat_eq_append]; simp)).2.2.2
theorem tw_filter {f t g : Nat} : ∀ {l : List Bk}, l.Pairwise (fun p q => p.2.1 < q.2.1) → (∀ p ∈ l, p.2.1 < g ∧ f ≤ p.2.1) → l.takeWhile (inB t g) = l.filter fun p => decide (f ≤ p.2.1 ∧ p.2.1 < t)
  | [], _, _ => rfl
  | a :: l, hp, h => by
    obtain ⟨hp1, hp2⟩ := List.pairwise_cons.1 hp
    obtain ⟨ha1, ha2⟩ := h a (List.mem_cons_self ..)
    by_cases hc : a.2.1 < t
    · rw [List.takeWhile_cons_of_pos (by simp [inB, hc, ha1]), List.filter_cons_of_pos (by simp [hc, ha2]), tw_filter hp2 fun p hp => h p (List.mem_cons_of_mem _ hp)]
    · rw [List.takeWhile_cons_of_neg (by simp [inB, hc]), List.filter_cons_of_neg (by simp [hc])]
      symm
      rw [List.filter_eq_nil_iff]
      intro p hp
      have := hp1 p hp
      simp
      omega
theorem split_blk {b : List Nat} {t : Nat} : ∀ (n k f : Nat), b.length - k ≤ n → k ≤ b.length → k ≤ mkB b f → (f ≤ k → k < b.length → (blkB b k).2.2.2 = 0 → mkB b f = k) →
    (blkAt b (mkB b f)).takeWhile (inB t (lastE k (blkAt b k))) = (blkAt b k).filter fun p => decide (f ≤ p.2.1 ∧ p.2.1 < t)
  | n, k, f, hn, hk, hm, hf => by
    by_cases hc : k < b.length ∧ (blkB b k).2.2.2 = 0
    · obtain ⟨hp, hen⟩ := blkB_pre hc.2
      by_cases hfk : f ≤ k
      · rw [hf hfk hc.1 hc.2]
        obtain ⟨f1, f2, f3⟩ := blks_facts b (b.length - k) k
        exact tw_filter f3 fun p hp => ⟨(blk_good b k hk).1 p hp, by have := (f2 p hp).2.1; omega⟩
      · obtain ⟨_, q1, q2⟩ := blkB_ok hc.2
        have hst := blkAt_step hc.1 hc.2
        rw [hst]
        rw [hen] at q1 q2 ⊢
        rw [List.filter_cons_of_neg (by simp; omega)]
        have hmm := (mkB_le b f).2
        cases n with
        | zero => omega
        | succ n =>
          refine split_blk n (mkB b (k + 2)) f (by omega) q2 ?_ ?_
          · by_cases hfe : f ≤ mkB b (k + 2)
            · rw [mkB_in hp (by omega) hfe]; omega
            · omega
          · intro hfe _ _
            exact mkB_in hp (by omega) hfe
    · rw [blkAt_stop hc]
      show (blkAt b (mkB b f)).takeWhile (inB t k) = []
      by_cases hc2 : mkB b f < b.length ∧ (blkB b (mkB b f)).2.2.2 = 0
      · rw [blkAt_step hc2.1 hc2.2, List.takeWhile_cons_of_neg (by simp [inB]; omega)]
      · rw [blkAt_stop hc2]; rfl
theorem head_mk {b : List Nat} (h : [84, 83, 81, 49].isPrefixOf b = true) {f : Nat} (hf : f ≤ 4) : mkB b f = mkB b 4 := by
  obtain ⟨t, rfl⟩ := List.isPrefixOf_iff_prefix.1 h
  have nx : ∀ k, k < 4 → mkB ([84, 83, 81, 49] ++ t) k = mkB ([84, 83, 81, 49] ++ t) (k + 1) := fun k hk => by
    refine mkB_next (by simp; omega) fun hp => ?_
    obtain ⟨_, h1, _⟩ := pre2_iff.1 hp
    match k, hk with
    | 0, _ => simp at h1
    | 1, _ => simp at h1
    | 2, _ => simp at h1
    | 3, _ => simp at h1
  match f, hf with
  | 0, _ => rw [nx 0 (by omega), nx 1 (by omega), nx 2 (by omega), nx 3 (by omega)]
  | 1, _ => rw [nx 1 (by omega), nx 2 (by omega), nx 3 (by omega)]
  | 2, _ => rw [nx 2 (by omega), nx 3 (by omega)]
  | 3, _ => rw [nx 3 (by omega)]
  | 4, _ => rfl
theorem rd_split {b : List Nat} {f t : Nat} : rdS b f t (scanS b).2.1 = ofW (scanS b).1 f t := by
  unfold rdS scanS
  by_cases h : [84, 83, 81, 49].isPrefixOf b = true
  · have h4 : 4 ≤ b.length := by simpa using (List.isPrefixOf_iff_prefix.1 h).length_le
    rw [if_pos h]
    dsimp only
    have hm4 := (mkB_le b 4).2
    have hsp := split_blk (b := b) (t := t) _ 4 f (Nat.le_refl _) h4 (by
      have := (mkB_le b f).2
      by_cases hf : f ≤ 4
      · rw [head_mk h hf]; omega
      · omega) (fun hf _ he => by rw [head_mk h hf, mkB_here (blkB_pre he).1])
    rw [hsp]
    unfold ofW
    rw [List.filter_map, List.flatMap_map]
    rfl
  · rw [if_neg h]
    dsimp only
    have : ∀ l : List Bk, l.takeWhile (inB t 0) = [] := fun l => by
      cases l with
      | nil => rfl
      | cons a l => exact List.takeWhile_cons_of_neg (by simp [inB])
    rw [this]
    rfl
def RcG (r : Rc) : Prop := okR r = true ∧ ∀ t ∈ r, ∀ x ∈ t, x < 256
theorem vframe_len (b : List Nat) : (vframe b 1000).1.length ≤ 1000 := by
  unfold vframe
  split
  · simp
  · split
    · simp
    · split
      · simp
      · rename_i h _
        show (List.take _ _).length ≤ _
        rw [List.length_take]
        omega
theorem vpair_ok {b : List Nat} (hw : ∀ x ∈ b, x < 256) : RcG [(vpair b).1.1, (vpair b).1.2] := by
  obtain ⟨x1, x2, _⟩ := vpair_wf hw
  refine ⟨?_, fun t ht => ?_⟩
  · have h1 : (vpair b).1.1.length ≤ 1000 ∧ (vpair b).1.2.length ≤ 1000 := by
      unfold vpair
      split
      · simp
      · split
        · simp
        · exact ⟨vframe_len _, vframe_len _⟩
    simp [okR, h1]
  · rcases List.mem_cons.1 ht with rfl | ht
    · exact x1
    · rw [List.mem_singleton.1 ht]; exact x2
theorem recL_ok : ∀ (n : Nat) (acc : List Rc) (b : List Nat), (∀ x ∈ b, x < 256) → (∀ r ∈ acc, RcG r) → ∀ r ∈ (recL n acc b).1, RcG r
  | 0, acc, b, _, h => h
  | n + 1, acc, b, hw, h => by
    rw [recL]
    split
    · simp
    · refine recL_ok n _ _ (vpair_wf hw).2.2.1 fun r hr => ?_
      rcases List.mem_append.1 hr with hr | hr
      · exact h r hr
      · rw [List.mem_singleton.1 hr]; exact vpair_ok hw
theorem recsB_ok {b : List Nat} (hw : ∀ x ∈ b, x < 256) : ∀ r ∈ (recsB b).1, RcG r := by
  unfold recsB
  split
  · simp
  · split
    · simp
    · split
      · simp
      · exact recL_ok _ _ _ (vtake_wf hw) (by simp)
theorem raw_wf {b : List Nat} (hw : ∀ x ∈ b, x < 256) (k : Nat) : ∀ x ∈ rawB b k, x < 256 := fun x hx => hw x (List.mem_of_mem_take (List.mem_of_mem_drop hx))
theorem blkB_recs {b : List Nat} (hw : ∀ x ∈ b, x < 256) (k : Nat) : ∀ r ∈ (blkB b k).2.1, RcG r := by
  unfold blkB
  split
  · simp
  · split
    · simp
    · split
      · simp
      · exact recsB_ok (opened_wf (unaB_wf (raw_wf hw k)).1).1
theorem blks_recs {b : List Nat} (hw : ∀ x ∈ b, x < 256) : ∀ (n k : Nat), ∀ p ∈ blks n b k, ∀ r ∈ p.2.2, RcG r
  | 0, k, p, hp => by simp [blks] at hp
  | n + 1, k, p, hp => by
    rw [blks] at hp
    split at hp
    · rcases List.mem_cons.1 hp with rfl | hp
      · exact blkB_recs hw k
      · exact blks_recs hw n _ p hp
    · cases hp
theorem scanS_facts {b : List Nat} (hw : ∀ x ∈ b, x < 256) : (scanS b).1.length ≤ b.length ∧ (∀ p ∈ (scanS b).1, p.2.length ≤ 100 ∧ ∀ r ∈ p.2, RcG r) ∧ (scanS b).2.1 ≤ b.length := by
  unfold scanS
  split
  · rename_i h
    have h4 : 4 ≤ b.length := by simpa using (List.isPrefixOf_iff_prefix.1 h).length_le
    obtain ⟨f1, f2, _⟩ := blks_facts b (b.length - 4) 4
    refine ⟨by rw [List.length_map]; exact Nat.le_trans f1 (by omega), fun p hp => ?_, (blk_good b 4 h4).2.2⟩
    obtain ⟨q, hq, rfl⟩ := List.mem_map.1 hp
    exact ⟨(f2 q hq).1, blks_recs hw _ _ q hq⟩
  · simp
theorem flatW_len {l : List (Nat × List Rc)} (h : ∀ p ∈ l, p.2.length ≤ 100) : (l.flatMap (·.2)).length ≤ 100 * l.length := by
  induction l with
  | nil => simp
  | cons a l ih =>
    have h1 := h a (List.mem_cons_self ..)
    have h2 := ih fun p hp => h p (List.mem_cons_of_mem _ hp)
    rw [List.flatMap_cons, List.length_append, List.length_cons]
    omega
theorem ofW_facts {b : List Nat} (hw : ∀ x ∈ b, x < 256) (f t : Nat) : (ofW (scanS b).1 f t).length ≤ 100 * b.length ∧ ∀ r ∈ ofW (scanS b).1 f t, RcG r := by
  obtain ⟨s1, s2, _⟩ := scanS_facts hw
  unfold ofW
  refine ⟨?_, fun r hr => ?_⟩
  · have h1 := flatW_len (l := (scanS b).1.filter fun p => decide (f ≤ p.1 ∧ p.1 < t)) fun p hp => (s2 p (List.mem_filter.1 hp).1).1
    have h2 := List.length_filter_le (fun p : Nat × List Rc => decide (f ≤ p.1 ∧ p.1 < t)) (scanS b).1
    omega
  · obtain ⟨p, hp, hr⟩ := List.mem_flatMap.1 hr
    exact (s2 p (List.mem_filter.1 hp).1).2 r hr
theorem RcG.two {r : Rc} (h : RcG r) : r.length = 2 := by
  obtain ⟨k, v, rfl, _⟩ := okR_iff.1 h.1
  rfl
end Go.Proofs.YtjcjbpbkakfjdaaDoor.E
/- The records of pieces; the same pieces; the document's split; the live question. -/
namespace Go.Proofs.YtjcjbpbkakfjdaaDoor.E
open Go Go.RowKit Go.Proofs
set_option linter.unusedVariables false
set_option linter.unusedSimpArgs false
theorem all_ok {l : List (Nat × List Rc)} (hl : l.length ≤ 1000000) (hr : ∀ p ∈ l, p.2.length ≤ 100) {o : Bool} : PSpec Tryd.prog 18 [.lst 2 (l.map pcW) o] (.lst 1 (rowsC (l.flatMap (·.2))) true) := by
  intro H
  have hpl : (l.map pcW).length = l.length := List.length_map _
  have hge : ∀ i (h : i < l.length), (l.map pcW)[i]? = some (.agg [.int .i64 l[i].1, .lst 1 (rowsC l[i].2) false]) := fun i h => by rw [List.getElem?_map, List.getElem?_eq_getElem h]; rfl
  refine spec_of t18 (by simp [p18]) ?_
  simp only [p18]
  generalize l.map pcW = es at *
  first | refine pwp_sr ?_ | refine pwp_regionM ?_
  intro K hK
  simp (disch := first | (refine Ok.mk ?_; (try simp only [Lm, La, Lc, Ln, Lt, Ld, Lr, Li, true_or, or_true, true_and, and_true]); omega) | (simp <;> fail) | skip) [runM_nil]
  refine hK _ _ ?_
  clear hK K
  first | refine pwp_sr ?_ | refine pwp_regionM ?_
  intro K hK
  simp (disch := first | (refine Ok.mk ?_; (try simp only [Lm, La, Lc, Ln, Lt, Ld, Lr, Li, true_or, or_true, true_and, and_true]); omega) | (simp <;> fail) | skip) [runM_nil]
  refine hK _ _ ?_
  clear hK K
  refine pwp_seq (pwp_seq ?_)
  first | refine pwp_sr ?_ | refine pwp_regionM ?_
  intro K hK
  simp (disch := first | (refine Ok.mk ?_; (try simp only [Lm, La, Lc, Ln, Lt, Ld, Lr, Li, true_or, or_true, true_and, and_true]); omega) | (simp <;> fail) | skip) [runM_nil]
  refine hK _ _ ?_
  clear hK K
  refine pwp_block ?_
  refine pwp_loopK [0, 3, 4] (fun m st H' => ∃ i, i ≤ l.length ∧ m = l.length - i ∧ H' = H ∧ st = MS 20 [(0, .lst 2 es o), (3, .lst 1 (rowsC ((l.take i).flatMap (·.2))) true), (4, .int .i64 i)]) (n := l.length)
    ⟨_, .refl _, 0, Nat.zero_le _, rfl, rfl, by simp [keepL_MS, keepA, getS, rowsC]⟩ ?_
  rintro m st H1 ⟨i, hi, rfl, rfl, rfl⟩
  refine pwp_seq ?_
  by_cases hlt : i < l.length
  · have g1 := hge i hlt
    have hs : (l.take (i + 1)).flatMap (·.2) = (l.take i).flatMap (·.2) ++ l[i].2 := by rw [List.take_succ_eq_append_getElem hlt, List.flatMap_append]; simp
    have hrl : (rowsC ((l.take i).flatMap (·.2))).length ≤ 100 * i := by
      have h2 := flatW_len (l := l.take i) fun p hp => hr p (List.mem_of_mem_take hp)
      rw [List.length_take] at h2
      have e : (rowsC ((l.take i).flatMap (·.2))).length = ((l.take i).flatMap (·.2)).length := by simp [rowsC]
      rw [e]
      omega
    have hel := hr l[i] (List.getElem_mem hlt)
    have hrr : (rowsC l[i].2).length = l[i].2.length := by simp [rowsC]
    generalize (l.take i).flatMap (·.2) = A at *
    generalize l[i] = e at *
    obtain ⟨k, r⟩ := e
    dsimp only at *
    first | refine pwp_sr ?_ | refine pwp_regionM ?_
    intro K hK
    simp (disch := first | (refine Ok.mk ?_; (try simp only [Lm, La, Lc, Ln, Lt, Ld, Lr, Li, true_or, or_true, true_and, and_true]); omega) | (simp <;> fail) | skip) [runM_nil, hpl]
    refine hK _ _ ?_
    clear hK K
    refine pwp_cT (by simp) (pwp_skip ?_)
    refine pwp_seq (pwp_block ?_)
    first | refine pwp_sr ?_ | refine pwp_regionM ?_
    intro K hK
    simp (disch := first | (refine Ok.mk ?_; (try simp only [Lm, La, Lc, Ln, Lt, Ld, Lr, Li, true_or, or_true, true_and, and_true]); omega) | (simp <;> fail) | skip) [runM_nil, g1, hpl, hrr]
    refine hK _ _ ?_
    clear hK K
    first | refine pwp_sr ?_ | refine pwp_regionM ?_
    intro K hK
    simp (disch := first | (refine Ok.mk ?_; (try simp only [Lm, La, Lc, Ln, Lt, Ld, Lr, Li, true_or, or_true, true_and, and_true]); omega) | (simp <;> fail) | skip) [runM_nil]
    refine hK _ _ ?_
    clear hK K
    exact ⟨l.length - (i + 1), by omega, _, .refl _, i + 1, by omega, rfl, rfl, by simp [keepL_MS, keepA, getS, hs, rowsC]⟩
  · obtain rfl : i = l.length := by omega
    rw [List.take_length]
    first | refine pwp_sr ?_ | refine pwp_regionM ?_
    intro K hK
    simp (disch := first | (refine Ok.mk ?_; (try simp only [Lm, La, Lc, Ln, Lt, Ld, Lr, Li, true_or, or_true, true_and, and_true]); omega) | (simp <;> fail) | skip) [runM_nil, hpl]
    refine hK _ _ ?_
    clear hK K
    refine pwp_cF (by simp) (pwp_exit ?_)
    first | refine pwp_sr ?_ | refine pwp_regionM ?_
    intro K hK
    simp (disch := first | (refine Ok.mk ?_; (try simp only [Lm, La, Lc, Ln, Lt, Ld, Lr, Li, true_or, or_true, true_and, and_true]); omega) | (simp <;> fail) | skip) [runM_nil]
    refine hK _ _ ?_
    clear hK K
    refine pwp_ret ⟨.inr rfl, _, _, (by simp (disch := first | (refine Ok.mk ?_; (try simp only [Lm, La, Lc, Ln, Lt, Ld, Lr, Li, true_or, or_true, true_and, and_true]); omega) | (simp <;> fail) | skip) [runM_nil, resL]; rfl), .refl _, by simp (disch := first | (refine Ok.mk ?_; (try simp only [Lm, La, Lc, Ln, Lt, Ld, Lr, Li, true_or, or_true, true_and, and_true]); omega) | (simp <;> fail) | skip) [resV], rfl⟩
end Go.Proofs.YtjcjbpbkakfjdaaDoor.E
/- The live question. -/
namespace Go.Proofs.YtjcjbpbkakfjdaaDoor.E
open Go Go.RowKit Go.Proofs
set_option linter.unusedVariables false
set_option linter.unusedSimpArgs false
def Z7 : List Nat := fileS [[[97], [255, 83]]]
theorem wrS_alive : wrS [[[97], [255, 83]]] = (Z7, 0) := by
  unfold wrS
  rw [if_pos (by decide)]
  rfl
theorem scanS_alive : scanS Z7 = ([(4, [[[97], [255, 83]]])], Z7.length, 0) := by decide +kernel
theorem alive_w : ∃ Z : List Nat, wrS [[[97], [255, 83]]] = (Z, 0) ∧ scanS Z = ([(4, [[[97], [255, 83]]])], Z.length, 0) ∧ Z.length ≤ 100 ∧ ∀ x ∈ Z, x < 256 :=
  ⟨Z7, wrS_alive, scanS_alive, by decide +kernel, by decide +kernel⟩
theorem alive_nil : wrS [] = ([84, 83, 81, 49], 0) := by decide +kernel
theorem alive_in : ∀ r ∈ [[[97], [255, 83]]], ∀ t ∈ r, ∀ x ∈ t, x < 256 := by decide
theorem alive_ok : PSpec Tryd.prog 10 [] (.bool true) := by
  intro H
  have c1 := write_ok (l := []) (s := 0) (xs := []) (o := false) rfl (.inr rfl) (by simp) (by simp) (by simp)
  obtain ⟨Z, e2, e3, hzl, hzw⟩ := alive_w
  have c2 := write_ok (l := [[[97], [255, 83]]]) (s := 1) (xs := rowsC [[[97], [255, 83]]]) (o := false) rfl (.inl rfl) (by simp) (by simp) alive_in
  have c3 := scan_ok (s := 1) (xs := Z.map u8) (o := false) (b := Z) rfl (.inl rfl) hzw (by omega)
  rw [alive_nil] at c1
  rw [e2] at c2
  rw [e3] at c3
  clear e2 e3
  simp only [scW, scWo, rowsC, sV, ci, pcW, List.map_cons, List.map_nil, Int.cast_ofNat_Int] at c2 c3
  dsimp only at c1 c2 c3
  refine spec_of t10 (by simp [p10]) ?_
  simp only [p10]
  first | refine pwp_sr ?_ | refine pwp_regionM ?_
  intro K hK
  simp (disch := first | (refine Ok.mk ?_; (try simp only [Lm, La, Lc, Ln, Lt, Ld, Lr, Li, true_or, or_true, true_and, and_true]); omega) | (simp <;> fail) | skip) [runM_nil]
  refine hK _ _ ?_
  clear hK K
  first | refine pwp_sr ?_ | refine pwp_regionM ?_
  intro K hK
  simp (disch := first | (refine Ok.mk ?_; (try simp only [Lm, La, Lc, Ln, Lt, Ld, Lr, Li, true_or, or_true, true_and, and_true]); omega) | (simp <;> fail) | skip) [runM_nil]
  refine useP (c1) ?_
  simp (disch := first | (refine Ok.mk ?_; (try simp only [Lm, La, Lc, Ln, Lt, Ld, Lr, Li, true_or, or_true, true_and, and_true]); omega) | (simp <;> fail) | skip) [runM_nil]
  refine hK _ _ ?_
  clear hK K
  first | refine pwp_sr ?_ | refine pwp_regionM ?_
  intro K hK
  simp (disch := first | (refine Ok.mk ?_; (try simp only [Lm, La, Lc, Ln, Lt, Ld, Lr, Li, true_or, or_true, true_and, and_true]); omega) | (simp <;> fail) | skip) [runM_nil]
  refine useP (c2) ?_
  simp (disch := first | (refine Ok.mk ?_; (try simp only [Lm, La, Lc, Ln, Lt, Ld, Lr, Li, true_or, or_true, true_and, and_true]); omega) | (simp <;> fail) | skip) [runM_nil]
  refine hK _ _ ?_
  clear hK K
  first | refine pwp_sr ?_ | refine pwp_regionM ?_
  intro K hK
  simp (disch := first | (refine Ok.mk ?_; (try simp only [Lm, La, Lc, Ln, Lt, Ld, Lr, Li, true_or, or_true, true_and, and_true]); omega) | (simp <;> fail) | skip) [runM_nil]
  refine useP (c3) ?_
  simp (disch := first | (refine Ok.mk ?_; (try simp only [Lm, La, Lc, Ln, Lt, Ld, Lr, Li, true_or, or_true, true_and, and_true]); omega) | (simp <;> fail) | skip) [runM_nil]
  refine hK _ _ ?_
  clear hK K
  have hcv : cvSP (.lst 1 [.int .u8 84, .int .u8 83, .int .u8 81, .int .u8 49] false) = some (.str [84, 83, 81, 49]) := rfl
  refine pwp_kept (keep := [1, 2, 3, 4, 5, 6, 7]) (by simp [keepA, getS]; rfl) ?_
  first | refine pwp_sr ?_ | refine pwp_regionM ?_
  intro K hK
  simp (disch := first | (refine Ok.mk ?_; (try simp only [Lm, La, Lc, Ln, Lt, Ld, Lr, Li, true_or, or_true, true_and, and_true]); omega) | (simp <;> fail) | skip) [runM_nil, strP, hcv]
  refine hK _ _ ?_
  clear hK K
  refine pwp_ret ⟨.inr rfl, _, _, (by simp (disch := first | (refine Ok.mk ?_; (try simp only [Lm, La, Lc, Ln, Lt, Ld, Lr, Li, true_or, or_true, true_and, and_true]); omega) | (simp <;> fail) | skip) [runM_nil, resL]; rfl), .refl _, by simp (disch := first | (refine Ok.mk ?_; (try simp only [Lm, La, Lc, Ln, Lt, Ld, Lr, Li, true_or, or_true, true_and, and_true]); omega) | (simp <;> fail) | skip) [resV], rfl⟩
end Go.Proofs.YtjcjbpbkakfjdaaDoor.E
/- What the splits of a file read, in order, is its right part. -/
namespace Go.Proofs.YtjcjbpbkakfjdaaDoor.E
open Go Go.RowKit Go.Proofs
set_option linter.unusedVariables false
set_option linter.unusedSimpArgs false
def cutsTo (l : List Int) (k : Nat) : List Nat := 0 :: (List.range k).filter fun j => decide (0 < j ∧ (j : Int) ∈ l)
def cutsB (n : Nat) (l : List Int) : List Nat := cutsTo l n ++ if 0 < n then [n] else []
theorem cutsTo_one (l : List Int) {k : Nat} (h : k ≤ 1) : cutsTo l k = [0] := by
  unfold cutsTo
  rw [List.cons.injEq]
  refine ⟨rfl, ?_⟩
  rw [List.filter_eq_nil_iff]
  intro j hj
  have := List.mem_range.1 hj
  simp
  omega
theorem cutsTo_succ (l : List Int) {k : Nat} (h : 0 < k) : cutsTo l (k + 1) = cutsTo l k ++ if (k : Int) ∈ l then [k] else [] := by
  unfold cutsTo
  rw [List.range_succ, List.filter_append, List.cons_append]
  congr 2
  by_cases hm : (k : Int) ∈ l
  · simp [hm, h]
  · simp [hm]
theorem cutsTo_len (l : List Int) (k : Nat) : (cutsTo l k).length ≤ k + 1 := by
  unfold cutsTo
  rw [List.length_cons]
  have := List.length_filter_le (fun j : Nat => decide (0 < j ∧ (j : Int) ∈ l)) (List.range k)
  rw [List.length_range] at this
  omega
def nV (n : Nat) : PV := .int .i64 n
def zV (n : Int) : PV := .int .i64 n
theorem cuts_ok (n : Nat) (hn : n ≤ 1000000) {l : List Int} (hll : l.length ≤ 1000000) {o : Bool} : PSpec Tryd.prog 25 [.int .i64 n, .lst 1 (l.map zV) o] (.lst 1 ((cutsB n l).map nV) true) := by
  intro H
  have hpl : (l.map zV).length = l.length := List.length_map _
  have hge : ∀ i (h : i < l.length), (l.map zV)[i]? = some (.int .i64 l[i]) := fun i h => by rw [List.getElem?_map, List.getElem?_eq_getElem h]; rfl
  refine spec_of t25 (by simp [p25]) ?_
  simp only [p25]
  generalize l.map zV = es at *
  first | refine pwp_sr ?_ | refine pwp_regionM ?_
  intro K hK
  simp (disch := first | (refine Ok.mk ?_; (try simp only [Lm, La, Lc, Ln, Lt, Ld, Lr, Li, true_or, or_true, true_and, and_true]); omega) | (simp <;> fail) | skip) [runM_nil]
  refine hK _ _ ?_
  clear hK K
  first | refine pwp_sr ?_ | refine pwp_regionM ?_
  intro K hK
  simp (disch := first | (refine Ok.mk ?_; (try simp only [Lm, La, Lc, Ln, Lt, Ld, Lr, Li, true_or, or_true, true_and, and_true]); omega) | (simp <;> fail) | skip) [runM_nil]
  refine hK _ _ ?_
  clear hK K
  refine pwp_seq (pwp_seq ?_)
  first | refine pwp_sr ?_ | refine pwp_regionM ?_
  intro K hK
  simp (disch := first | (refine Ok.mk ?_; (try simp only [Lm, La, Lc, Ln, Lt, Ld, Lr, Li, true_or, or_true, true_and, and_true]); omega) | (simp <;> fail) | skip) [runM_nil]
  refine hK _ _ ?_
  clear hK K
  refine pwp_block ?_
  refine pwp_loopK [0, 1, 5, 6] (fun q st H' => ∃ k : Nat, 1 ≤ k ∧ (n = 0 ∧ k = 1 ∨ k ≤ n) ∧ q = n - k ∧ H' = H ∧ st = MS 37 [(0, .int .i64 n), (1, .lst 1 es o), (5, .lst 1 ((cutsTo l k).map nV) true), (6, .int .i64 k)]) (n := n - 1)
    ⟨_, .refl _, 1, Nat.le_refl _, by omega, rfl, rfl, by simp [keepL_MS, keepA, getS, cutsTo_one, nV]⟩ ?_
  rintro q st H' ⟨k, hk1, hkn, rfl, hH, rfl⟩
  subst hH
  refine pwp_seq ?_
  have hlen := cutsTo_len l k
  by_cases hlt : k < n
  · have hsu := cutsTo_succ l (show 0 < k by omega)
    generalize cutsTo l k = A at *
    first | refine pwp_sr ?_ | refine pwp_regionM ?_
    intro K hK
    simp (disch := first | (refine Ok.mk ?_; (try simp only [Lm, La, Lc, Ln, Lt, Ld, Lr, Li, true_or, or_true, true_and, and_true]); omega) | (simp <;> fail) | skip) [runM_nil]
    refine hK _ _ ?_
    clear hK K
    refine pwp_cT (by simp) (pwp_skip ?_)
    refine pwp_seq (pwp_block ?_)
    first | refine pwp_sr ?_ | refine pwp_regionM ?_
    intro K hK
    simp (disch := first | (refine Ok.mk ?_; (try simp only [Lm, La, Lc, Ln, Lt, Ld, Lr, Li, true_or, or_true, true_and, and_true]); omega) | (simp <;> fail) | skip) [runM_nil]
    refine hK _ _ ?_
    clear hK K
    refine pwp_block ?_
    refine pwp_loopK [0, 1, 5, 6, 7] (fun q st H2 => ∃ i : Nat, i ≤ l.length ∧ (k : Int) ∉ l.take i ∧ q = l.length - i ∧ H2 = H' ∧ st = MS 37 [(0, .int .i64 n), (1, .lst 1 es o), (5, .lst 1 (A.map nV) true), (6, .int .i64 k), (7, .int .i64 i)]) (n := l.length)
      ⟨_, .refl _, 0, Nat.zero_le _, by simp, rfl, rfl, by simp [keepL_MS, keepA, getS]⟩ ?_
    rintro q st H2 ⟨i, hi, hni, rfl, hH, rfl⟩
    subst hH
    refine pwp_seq ?_
    by_cases hil : i < l.length
    · have g1 := hge i hil
      have hts := List.take_succ_eq_append_getElem hil
      have hmem := List.getElem_mem hil
      generalize l[i] = e at *
      first | refine pwp_sr ?_ | refine pwp_regionM ?_
      intro K hK
      simp (disch := first | (refine Ok.mk ?_; (try simp only [Lm, La, Lc, Ln, Lt, Ld, Lr, Li, true_or, or_true, true_and, and_true]); omega) | (simp <;> fail) | skip) [runM_nil, hpl]
      refine hK _ _ ?_
      clear hK K
      refine pwp_cT (by simp) (pwp_skip ?_)
      refine pwp_seq (pwp_block ?_)
      by_cases he : e = k
      · subst he
        rw [if_pos hmem] at hsu
        first | refine pwp_rif ?_ | refine pwp_rifE ?_
        intro K hK
        simp (disch := first | (refine Ok.mk ?_; (try simp only [Lm, La, Lc, Ln, Lt, Ld, Lr, Li, true_or, or_true, true_and, and_true]); omega) | (simp <;> fail) | skip) [runM_nil, g1, hpl]
        refine hK _ _ ?_
        clear hK K
        refine ifT (by simp [runM_nil]) ?_
        first | refine pwp_sr ?_ | refine pwp_regionM ?_
        intro K hK
        simp (disch := first | (refine Ok.mk ?_; (try simp only [Lm, La, Lc, Ln, Lt, Ld, Lr, Li, true_or, or_true, true_and, and_true]); omega) | (simp <;> fail) | skip) [runM_nil]
        refine hK _ _ ?_
        clear hK K
        refine pwp_exit ?_
        first | refine pwp_sr ?_ | refine pwp_regionM ?_
        intro K hK
        simp (disch := first | (refine Ok.mk ?_; (try simp only [Lm, La, Lc, Ln, Lt, Ld, Lr, Li, true_or, or_true, true_and, and_true]); omega) | (simp <;> fail) | skip) [runM_nil]
        refine hK _ _ ?_
        clear hK K
        exact ⟨n - (k + 1), by omega, _, .refl _, k + 1, by omega, by omega, rfl, rfl, by simp [keepL_MS, keepA, getS, hsu, nV]⟩
      · first | refine pwp_rif ?_ | refine pwp_rifE ?_
        intro K hK
        simp (disch := first | (refine Ok.mk ?_; (try simp only [Lm, La, Lc, Ln, Lt, Ld, Lr, Li, true_or, or_true, true_and, and_true]); omega) | (simp <;> fail) | skip) [runM_nil, g1, hpl, he]
        refine hK _ _ ?_
        clear hK K
        refine ifF (by simp [runM_nil, he]) (pwp_skip ?_)
        first | refine pwp_sr ?_ | refine pwp_regionM ?_
        intro K hK
        simp (disch := first | (refine Ok.mk ?_; (try simp only [Lm, La, Lc, Ln, Lt, Ld, Lr, Li, true_or, or_true, true_and, and_true]); omega) | (simp <;> fail) | skip) [runM_nil]
        refine hK _ _ ?_
        clear hK K
        refine ⟨l.length - (i + 1), by omega, _, .refl _, i + 1, by omega, ?_, rfl, rfl, by simp [keepL_MS, keepA, getS]⟩
        rw [hts]
        intro hm
        rcases List.mem_append.1 hm with hm | hm
        · exact hni hm
        · simp only [List.mem_singleton] at hm
          exact he hm.symm
    · obtain rfl : i = l.length := by omega
      rw [List.take_length] at hni
      rw [if_neg hni, List.append_nil] at hsu
      first | refine pwp_sr ?_ | refine pwp_regionM ?_
      intro K hK
      simp (disch := first | (refine Ok.mk ?_; (try simp only [Lm, La, Lc, Ln, Lt, Ld, Lr, Li, true_or, or_true, true_and, and_true]); omega) | (simp <;> fail) | skip) [runM_nil, hpl]
      refine hK _ _ ?_
      clear hK K
      refine pwp_cF (by simp) (pwp_exit ?_)
      first | refine pwp_sr ?_ | refine pwp_regionM ?_
      intro K hK
      simp (disch := first | (refine Ok.mk ?_; (try simp only [Lm, La, Lc, Ln, Lt, Ld, Lr, Li, true_or, or_true, true_and, and_true]); omega) | (simp <;> fail) | skip) [runM_nil]
      refine hK _ _ ?_
      clear hK K
      exact ⟨n - (k + 1), by omega, _, .refl _, k + 1, by omega, by omega, rfl, rfl, by simp [keepL_MS, keepA, getS, hsu]⟩
  · first | refine pwp_sr ?_ | refine pwp_regionM ?_
    intro K hK
    simp (disch := first | (refine Ok.mk ?_; (try simp only [Lm, La, Lc, Ln, Lt, Ld, Lr, Li, true_or, or_true, true_and, and_true]); omega) | (simp <;> fail) | skip) [runM_nil]
    refine hK _ _ ?_
    clear hK K
    refine pwp_cF (by simp) (pwp_exit ?_)
    rcases Nat.eq_zero_or_pos n with h0 | h0
    · subst h0
      obtain rfl : k = 1 := by omega
      have hc : cutsB 0 l = cutsTo l 1 := by rw [cutsB, cutsTo_one l (by omega), cutsTo_one l (by omega)]; simp
      first | refine pwp_rif ?_ | refine pwp_rifE ?_
      intro K hK
      simp (disch := first | (refine Ok.mk ?_; (try simp only [Lm, La, Lc, Ln, Lt, Ld, Lr, Li, true_or, or_true, true_and, and_true]); omega) | (simp <;> fail) | skip) [runM_nil]
      refine hK _ _ ?_
      clear hK K
      refine ifF (by simp [runM_nil]) (pwp_skip ?_)
      first | refine pwp_sr ?_ | refine pwp_regionM ?_
      intro K hK
      simp (disch := first | (refine Ok.mk ?_; (try simp only [Lm, La, Lc, Ln, Lt, Ld, Lr, Li, true_or, or_true, true_and, and_true]); omega) | (simp <;> fail) | skip) [runM_nil]
      refine hK _ _ ?_
      clear hK K
      refine pwp_ret ⟨.inr rfl, _, _, (by simp (disch := first | (refine Ok.mk ?_; (try simp only [Lm, La, Lc, Ln, Lt, Ld, Lr, Li, true_or, or_true, true_and, and_true]); omega) | (simp <;> fail) | skip) [runM_nil, resL, hc]; rfl), .refl _, by simp (disch := first | (refine Ok.mk ?_; (try simp only [Lm, La, Lc, Ln, Lt, Ld, Lr, Li, true_or, or_true, true_and, and_true]); omega) | (simp <;> fail) | skip) [resV, hc], rfl⟩
    · obtain rfl : k = n := by omega
      have hc : cutsB k l = cutsTo l k ++ [k] := by rw [cutsB, if_pos h0]
      have h00 : (0 : Int) < k := by omega
      first | refine pwp_rif ?_ | refine pwp_rifE ?_
      intro K hK
      simp (disch := first | (refine Ok.mk ?_; (try simp only [Lm, La, Lc, Ln, Lt, Ld, Lr, Li, true_or, or_true, true_and, and_true]); omega) | (simp <;> fail) | skip) [runM_nil, h00]
      refine hK _ _ ?_
      clear hK K
      refine ifT (by simp [runM_nil, h00]) ?_
      first | refine pwp_sr ?_ | refine pwp_regionM ?_
      intro K hK
      simp (disch := first | (refine Ok.mk ?_; (try simp only [Lm, La, Lc, Ln, Lt, Ld, Lr, Li, true_or, or_true, true_and, and_true]); omega) | (simp <;> fail) | skip) [runM_nil]
      refine hK _ _ ?_
      clear hK K
      first | refine pwp_sr ?_ | refine pwp_regionM ?_
      intro K hK
      simp (disch := first | (refine Ok.mk ?_; (try simp only [Lm, La, Lc, Ln, Lt, Ld, Lr, Li, true_or, or_true, true_and, and_true]); omega) | (simp <;> fail) | skip) [runM_nil]
      refine hK _ _ ?_
      clear hK K
      refine pwp_ret ⟨.inr rfl, _, _, (by simp (disch := first | (refine Ok.mk ?_; (try simp only [Lm, La, Lc, Ln, Lt, Ld, Lr, Li, true_or, or_true, true_and, and_true]); omega) | (simp <;> fail) | skip) [runM_nil, resL, hc, nV]; rfl), .refl _, by simp (disch := first | (refine Ok.mk ?_; (try simp only [Lm, La, Lc, Ln, Lt, Ld, Lr, Li, true_or, or_true, true_and, and_true]); omega) | (simp <;> fail) | skip) [resV, hc, nV], rfl⟩
theorem cutsB_facts (n : Nat) (l : List Int) : (cutsB n l).Pairwise (· ≤ ·) ∧ (∀ x ∈ cutsB n l, x ≤ n) ∧ (cutsB n l)[0]? = some 0 ∧ (cutsB n l)[(cutsB n l).length - 1]? = some n ∧ 1 ≤ (cutsB n l).length ∧ (cutsB n l).length ≤ n + 2 := by
  have h1 : ∀ k, (cutsTo l k).Pairwise (· ≤ ·) := fun k => by
    refine .cons (fun x _ => Nat.zero_le x) ?_
    exact (List.Pairwise.filter _ List.pairwise_lt_range).imp fun h => Nat.le_of_lt h
  have h2 : ∀ k, ∀ x ∈ cutsTo l k, x ≤ k := fun k x hx => by
    rcases List.mem_cons.1 hx with rfl | hx
    · exact Nat.zero_le _
    · exact Nat.le_of_lt (List.mem_range.1 (List.mem_filter.1 hx).1)
  have hl := cutsTo_len l n
  unfold cutsB
  by_cases hn : 0 < n
  · rw [if_pos hn]
    refine ⟨List.pairwise_append.2 ⟨h1 n, List.pairwise_singleton _ _, fun x hx y hy => ?_⟩, fun x hx => ?_, rfl, ?_, ?_, ?_⟩
    · simp only [List.mem_singleton] at hy
      rw [hy]
      exact h2 n x hx
    · rcases List.mem_append.1 hx with hx | hx
      · exact h2 n x hx
      · simp only [List.mem_singleton] at hx
        omega
    · rw [List.length_append, List.length_singleton, Nat.add_sub_cancel, List.getElem?_append_right (Nat.le_refl _), Nat.sub_self]
      rfl
    · rw [List.length_append, List.length_singleton]
      omega
    · rw [List.length_append, List.length_singleton]
      omega
  · have h0 : n = 0 := by omega
    subst h0
    rw [if_neg (by omega), List.append_nil, cutsTo_one l (by omega)]
    simp
theorem ofW_nil {l : List (Nat × List Rc)} {f t : Nat} (h : ∀ p ∈ l, ¬ (f ≤ p.1 ∧ p.1 < t)) : ofW l f t = [] := by
  unfold ofW
  rw [List.filter_eq_nil_iff.2]
  · rfl
  · intro p hp
    simpa using h p hp
theorem ofW_join : ∀ (l : List (Nat × List Rc)), l.Pairwise (fun p q => p.1 < q.1) → ∀ a c : Nat, a ≤ c → ofW l 0 a ++ ofW l a c = ofW l 0 c
  | [], _, a, c, h => rfl
  | p :: l, hp, a, c, h => by
    obtain ⟨h1, h2⟩ := List.pairwise_cons.1 hp
    have ih := ofW_join l h2 a c h
    have e : ∀ f t : Nat, ofW (p :: l) f t = if f ≤ p.1 ∧ p.1 < t then p.2 ++ ofW l f t else ofW l f t := fun f t => by
      unfold ofW
      by_cases hc : f ≤ p.1 ∧ p.1 < t
      · rw [if_pos hc, List.filter_cons_of_pos (by simpa using hc)]
        rfl
      · rw [if_neg hc, List.filter_cons_of_neg (by simpa using hc)]
    rw [e, e, e]
    by_cases ha : p.1 < a
    · rw [if_pos ⟨Nat.zero_le _, ha⟩, if_neg (by omega), if_pos ⟨Nat.zero_le _, by omega⟩, List.append_assoc, ih]
    · have hn : ofW l 0 a = [] := ofW_nil fun q hq => by have := h1 q hq; omega
      rw [if_neg (by omega), hn, List.nil_append]
      rw [hn, List.nil_append] at ih
      by_cases hc : p.1 < c
      · rw [if_pos ⟨by omega, hc⟩, if_pos ⟨Nat.zero_le _, hc⟩, ih]
      · rw [if_neg (by omega), if_neg (by omega), ih]
theorem ofW_all {l : List (Nat × List Rc)} {n : Nat} (h : ∀ p ∈ l, p.1 < n) : ofW l 0 n = l.flatMap (·.2) := by
  unfold ofW
  rw [List.filter_eq_self.2]
  intro p hp
  have := h p hp
  simpa using this
theorem scanS_sorted (b : List Nat) : (scanS b).1.Pairwise (fun p q => p.1 < q.1) := by
  unfold scanS
  split
  · exact List.pairwise_map.2 (blks_facts b (b.length - 4) 4).2.2
  · simp
theorem scanS_lt {b : List Nat} : ∀ p ∈ (scanS b).1, p.1 < b.length := by
  unfold scanS
  split
  · intro p hp
    obtain ⟨q, hq, rfl⟩ := List.mem_map.1 hp
    obtain ⟨_, _, h1, h2⟩ := (blks_facts b (b.length - 4) 4).2.1 q hq
    show q.2.1 < _
    omega
  · simp
theorem scanS_err {b : List Nat} (hb : 0 < b.length) : (scanS b).2.2 = 0 ↔ (scanS b).2.1 = b.length := by
  unfold scanS
  split
  · rename_i h
    have h4 : 4 ≤ b.length := by simpa using (List.isPrefixOf_iff_prefix.1 h).length_le
    have := (blk_good b 4 h4).2.2
    dsimp only
    split <;> omega
  · dsimp only
    omega
theorem seqSplits_ok {o q : Bool} {b : List Nat} (hw : ∀ x ∈ b, x < 256) (hl0 : b.length ≤ 140737488351232) {cs : List Int} (hcl : cs.length ≤ 140737488351232) :
    PSpec Tryd.prog 8 [.lst 1 (b.map u8) o, .lst 1 (cs.map zV) q] (.bool true) := by
  intro H
  have ca := alive_ok
  have hzl : (cs.map zV).length = cs.length := List.length_map _
  have cc := fun (h : b.length ≤ 1000000) (h2 : cs.length ≤ 1000000) => cuts_ok b.length h h2 (o := false)
  refine spec_of t8 (by simp [p8]) ?_
  simp only [p8]
  generalize cs.map zV = zs at *
  first | refine pwp_sr ?_ | refine pwp_regionM ?_
  intro K hK
  simp (disch := first | (refine Ok.mk ?_; (try simp only [Lm, La, Lc, Ln, Lt, Ld, Lr, Li, true_or, or_true, true_and, and_true]); omega) | (simp <;> fail) | skip) [runM_nil]
  refine hK _ _ ?_
  clear hK K
  rcases (show 3000 < b.length ∨ ¬ 3000 < b.length ∧ 100 < cs.length ∨ ¬ 3000 < b.length ∧ ¬ 100 < cs.length ∧ b.length = 0 ∨ ¬ 3000 < b.length ∧ ¬ 100 < cs.length ∧ ¬ b.length = 0 by omega) with h1 | ⟨h1, h2⟩ | ⟨h1, h2, h3⟩ | ⟨h1, h2, h3⟩
  · first | refine pwp_rif ?_ | refine pwp_rifE ?_
    intro K hK
    simp (disch := first | (refine Ok.mk ?_; (try simp only [Lm, La, Lc, Ln, Lt, Ld, Lr, Li, true_or, or_true, true_and, and_true]); omega) | (simp <;> fail) | skip) [runM_nil, h1]
    refine hK _ _ ?_
    clear hK K
    refine ifT (by simp (disch := first | (refine Ok.mk ?_; (try simp only [Lm, La, Lc, Ln, Lt, Ld, Lr, Li, true_or, or_true, true_and, and_true]); omega) | (simp <;> fail) | skip) [runM_nil]) ?_
    first | refine pwp_sr ?_ | refine pwp_regionM ?_
    intro K hK
    simp (disch := first | (refine Ok.mk ?_; (try simp only [Lm, La, Lc, Ln, Lt, Ld, Lr, Li, true_or, or_true, true_and, and_true]); omega) | (simp <;> fail) | skip) [runM_nil]
    refine useP (ca) ?_
    simp (disch := first | (refine Ok.mk ?_; (try simp only [Lm, La, Lc, Ln, Lt, Ld, Lr, Li, true_or, or_true, true_and, and_true]); omega) | (simp <;> fail) | skip) [runM_nil]
    refine hK _ _ ?_
    clear hK K
    refine pwp_retT ⟨.inr rfl, _, _, (by simp (disch := first | (refine Ok.mk ?_; (try simp only [Lm, La, Lc, Ln, Lt, Ld, Lr, Li, true_or, or_true, true_and, and_true]); omega) | (simp <;> fail) | skip) [runM_nil, resL]; rfl), .refl _, by simp (disch := first | (refine Ok.mk ?_; (try simp only [Lm, La, Lc, Ln, Lt, Ld, Lr, Li, true_or, or_true, true_and, and_true]); omega) | (simp <;> fail) | skip) [resV], rfl⟩
  · first | refine pwp_rif ?_ | refine pwp_rifE ?_
    intro K hK
    simp (disch := first | (refine Ok.mk ?_; (try simp only [Lm, La, Lc, Ln, Lt, Ld, Lr, Li, true_or, or_true, true_and, and_true]); omega) | (simp <;> fail) | skip) [runM_nil, h1, h2, hzl]
    refine hK _ _ ?_
    clear hK K
    refine ifT (by simp (disch := first | (refine Ok.mk ?_; (try simp only [Lm, La, Lc, Ln, Lt, Ld, Lr, Li, true_or, or_true, true_and, and_true]); omega) | (simp <;> fail) | skip) [runM_nil]) ?_
    first | refine pwp_sr ?_ | refine pwp_regionM ?_
    intro K hK
    simp (disch := first | (refine Ok.mk ?_; (try simp only [Lm, La, Lc, Ln, Lt, Ld, Lr, Li, true_or, or_true, true_and, and_true]); omega) | (simp <;> fail) | skip) [runM_nil]
    refine useP (ca) ?_
    simp (disch := first | (refine Ok.mk ?_; (try simp only [Lm, La, Lc, Ln, Lt, Ld, Lr, Li, true_or, or_true, true_and, and_true]); omega) | (simp <;> fail) | skip) [runM_nil]
    refine hK _ _ ?_
    clear hK K
    refine pwp_retT ⟨.inr rfl, _, _, (by simp (disch := first | (refine Ok.mk ?_; (try simp only [Lm, La, Lc, Ln, Lt, Ld, Lr, Li, true_or, or_true, true_and, and_true]); omega) | (simp <;> fail) | skip) [runM_nil, resL]; rfl), .refl _, by simp (disch := first | (refine Ok.mk ?_; (try simp only [Lm, La, Lc, Ln, Lt, Ld, Lr, Li, true_or, or_true, true_and, and_true]); omega) | (simp <;> fail) | skip) [resV], rfl⟩
  · have h3' : (b.length : Int) = 0 := by omega
    have h3b : b = [] := List.eq_nil_of_length_eq_zero h3
    first | refine pwp_rif ?_ | refine pwp_rifE ?_
    intro K hK
    simp (disch := first | (refine Ok.mk ?_; (try simp only [Lm, La, Lc, Ln, Lt, Ld, Lr, Li, true_or, or_true, true_and, and_true]); omega) | (simp <;> fail) | skip) [runM_nil, h1, h2, hzl, h3, h3', h3b]
    refine hK _ _ ?_
    clear hK K
    refine ifT (by simp (disch := first | (refine Ok.mk ?_; (try simp only [Lm, La, Lc, Ln, Lt, Ld, Lr, Li, true_or, or_true, true_and, and_true]); omega) | (simp <;> fail) | skip) [runM_nil]) ?_
    first | refine pwp_sr ?_ | refine pwp_regionM ?_
    intro K hK
    simp (disch := first | (refine Ok.mk ?_; (try simp only [Lm, La, Lc, Ln, Lt, Ld, Lr, Li, true_or, or_true, true_and, and_true]); omega) | (simp <;> fail) | skip) [runM_nil]
    refine useP (ca) ?_
    simp (disch := first | (refine Ok.mk ?_; (try simp only [Lm, La, Lc, Ln, Lt, Ld, Lr, Li, true_or, or_true, true_and, and_true]); omega) | (simp <;> fail) | skip) [runM_nil]
    refine hK _ _ ?_
    clear hK K
    refine pwp_retT ⟨.inr rfl, _, _, (by simp (disch := first | (refine Ok.mk ?_; (try simp only [Lm, La, Lc, Ln, Lt, Ld, Lr, Li, true_or, or_true, true_and, and_true]); omega) | (simp <;> fail) | skip) [runM_nil, resL]; rfl), .refl _, by simp (disch := first | (refine Ok.mk ?_; (try simp only [Lm, La, Lc, Ln, Lt, Ld, Lr, Li, true_or, or_true, true_and, and_true]); omega) | (simp <;> fail) | skip) [resV], rfl⟩
  have h3' : ¬ (b.length : Int) = 0 := by omega
  have h3b : ¬ b = [] := fun h => h3 (by rw [h]; rfl)
  first | refine pwp_rif ?_ | refine pwp_rifE ?_
  intro K hK
  simp (disch := first | (refine Ok.mk ?_; (try simp only [Lm, La, Lc, Ln, Lt, Ld, Lr, Li, true_or, or_true, true_and, and_true]); omega) | (simp <;> fail) | skip) [runM_nil, h1, h2, hzl, h3', h3, h3b]
  refine hK _ _ ?_
  clear hK K
  refine ifF (by simp [runM_nil, h3', h3, h3b]) (pwp_skip ?_)
  have c1 := scan_ok (s := 1) (xs := b.map u8) (o := false) (b := b) rfl (.inl rfl) hw (by omega)
  obtain ⟨s1, s2, hg2⟩ := scanS_facts hw
  have hso := scanS_sorted b
  have her := scanS_err (b := b) (by omega)
  have hall := all_ok (l := (scanS b).1) (by omega) (fun p hp => (s2 p hp).1) (o := false)
  have hread : ∀ f t : Nat, f ≤ t → t ≤ b.length → PSpec Tryd.prog 23 [.lst 1 (b.map u8) false, .int .i64 f, .int .i64 t, .int .i64 (scanS b).2.1] (.tup [.lst 1 (rowsC (ofW (scanS b).1 f t)) false, .int .i64 (if (scanS b).2.1 < t then 3 else 0)]) := fun f t h1 h2 => by
    have := read_ok (s := 1) (xs := b.map u8) (o := false) (b := b) rfl (.inl rfl) hw (by omega) f t (scanS b).2.1 h1 h2 hg2
    rw [rd_split] at this
    exact this
  have hr50 : ∀ r ∈ ofW (scanS b).1 0 b.length, r.length ≤ 50 := fun r hr => by have := ((ofW_facts hw 0 b.length).2 r hr).two; omega
  have hola : ∀ f t, (ofW (scanS b).1 f t).length ≤ 1000000 := fun f t => by have := (ofW_facts hw f t).1; omega
  have hoa : ofW (scanS b).1 0 b.length = (scanS b).1.flatMap (·.2) := ofW_all fun p hp => scanS_lt p hp
  have cc := cc (by omega) (by omega)
  obtain ⟨k1, k2, k3, k4, k5, k6⟩ := cutsB_facts b.length cs
  simp only [scW, scWo] at c1
  generalize scanS b = S at *
  obtain ⟨L, g, e⟩ := S
  dsimp only at *
  generalize hC : cutsB b.length cs = C at *
  have hCl : (C.map nV).length = C.length := List.length_map _
  have hge : ∀ i (h : i < C.length), (C.map nV)[i]? = some (.int .i64 C[i]) := fun i h => by rw [List.getElem?_map, List.getElem?_eq_getElem h]; rfl
  generalize C.map nV = es at *
  first | refine pwp_sr ?_ | refine pwp_regionM ?_
  intro K hK
  simp (disch := first | (refine Ok.mk ?_; (try simp only [Lm, La, Lc, Ln, Lt, Ld, Lr, Li, true_or, or_true, true_and, and_true]); omega) | (simp <;> fail) | skip) [runM_nil]
  refine useP (c1) ?_
  simp (disch := first | (refine Ok.mk ?_; (try simp only [Lm, La, Lc, Ln, Lt, Ld, Lr, Li, true_or, or_true, true_and, and_true]); omega) | (simp <;> fail) | skip) [runM_nil]
  refine hK _ _ ?_
  clear hK K
  first | refine pwp_sr ?_ | refine pwp_regionM ?_
  intro K hK
  simp (disch := first | (refine Ok.mk ?_; (try simp only [Lm, La, Lc, Ln, Lt, Ld, Lr, Li, true_or, or_true, true_and, and_true]); omega) | (simp <;> fail) | skip) [runM_nil]
  refine useP (cc) ?_
  simp (disch := first | (refine Ok.mk ?_; (try simp only [Lm, La, Lc, Ln, Lt, Ld, Lr, Li, true_or, or_true, true_and, and_true]); omega) | (simp <;> fail) | skip) [runM_nil]
  refine hK _ _ ?_
  clear hK K
  first | refine pwp_sr ?_ | refine pwp_regionM ?_
  intro K hK
  simp (disch := first | (refine Ok.mk ?_; (try simp only [Lm, La, Lc, Ln, Lt, Ld, Lr, Li, true_or, or_true, true_and, and_true]); omega) | (simp <;> fail) | skip) [runM_nil]
  refine hK _ _ ?_
  clear hK K
  first | refine pwp_sr ?_ | refine pwp_regionM ?_
  intro K hK
  simp (disch := first | (refine Ok.mk ?_; (try simp only [Lm, La, Lc, Ln, Lt, Ld, Lr, Li, true_or, or_true, true_and, and_true]); omega) | (simp <;> fail) | skip) [runM_nil]
  refine hK _ _ ?_
  clear hK K
  refine pwp_seq (pwp_seq ?_)
  first | refine pwp_sr ?_ | refine pwp_regionM ?_
  intro K hK
  simp (disch := first | (refine Ok.mk ?_; (try simp only [Lm, La, Lc, Ln, Lt, Ld, Lr, Li, true_or, or_true, true_and, and_true]); omega) | (simp <;> fail) | skip) [runM_nil]
  refine hK _ _ ?_
  clear hK K
  refine pwp_block ?_
  refine pwp_loopK [0, 5, 6, 7, 8, 9, 10, 11] (fun q st H' => ∃ (i p : Nat), 1 ≤ i ∧ i ≤ C.length ∧ C[i - 1]? = some p ∧ q = C.length - i ∧ H' = H ∧ st = MS 96 [(0, .lst 1 (b.map u8) o), (5, .lst 2 (L.map pcW) false), (6, .int .i64 g), (7, .int .i64 e), (8, .lst 1 es true),
      (9, .lst 1 (rowsC (ofW L 0 p)) true), (10, .bool (decide (g < p))), (11, .int .i64 i)]) (n := C.length - 1)
    ⟨_, .refl _, 1, 0, Nat.le_refl _, k5, k3, rfl, rfl, by simp [keepL_MS, keepA, getS, ofW_nil, rowsC]⟩ ?_
  rintro qq st H' ⟨i, p, hi1, hi, hp, rfl, hH, rfl⟩
  subst hH
  have hpb : p ≤ b.length := k2 p (List.mem_of_getElem? hp)
  have hpl : (ofW L 0 p).length ≤ 1000000 := hola 0 p
  have hrl : (rowsC (ofW L 0 p)).length = (ofW L 0 p).length := by simp [rowsC]
  refine pwp_seq ?_
  by_cases hlt : i < C.length
  · obtain ⟨hlt0, hp0⟩ := List.getElem?_eq_some_iff.1 hp
    have g0 := hge (i - 1) hlt0
    have g1 := hge i hlt
    have hle : C[i - 1] ≤ C[i] := List.pairwise_iff_getElem.1 k1 (i - 1) i hlt0 hlt (by omega)
    have hcb : C[i] ≤ b.length := k2 _ (List.getElem_mem hlt)
    have hgt : C[i]? = some C[i] := List.getElem?_eq_getElem hlt
    rw [hp0] at g0 hle
    generalize C[i] = t at *
    have hj := ofW_join L hso p t hle
    have c3 := hread p t hle hcb
    have hol : (ofW L p t).length ≤ 1000000 := hola p t
    have hrl2 : (rowsC (ofW L p t)).length = (ofW L p t).length := by simp [rowsC]
    have hjr : rowsC (ofW L 0 p) ++ rowsC (ofW L p t) = rowsC (ofW L 0 t) := by rw [← hj]; simp [rowsC]
    generalize rowsC (ofW L p t) = X2 at *
    generalize rowsC (ofW L 0 p) = X1 at *
    have e1 : ((i : Int) - 1).toNat = i - 1 := by omega
    first | refine pwp_sr ?_ | refine pwp_regionM ?_
    intro K hK
    simp (disch := first | (refine Ok.mk ?_; (try simp only [Lm, La, Lc, Ln, Lt, Ld, Lr, Li, true_or, or_true, true_and, and_true]); omega) | (simp <;> fail) | skip) [runM_nil, hCl]
    refine hK _ _ ?_
    clear hK K
    refine pwp_cT (by simp) (pwp_skip ?_)
    refine pwp_seq (pwp_block ?_)
    by_cases hgt2 : g < t
    · rw [if_pos hgt2] at c3
      first | refine pwp_sd hmix ?_ | refine pwp_drawM hmix ?_
      intro K hK
      simp (disch := first | (refine Ok.mk ?_; (try simp only [Lm, La, Lc, Ln, Lt, Ld, Lr, Li, true_or, or_true, true_and, and_true]); omega) | (simp <;> fail) | skip) [runM_nil, hCl, g0, g1, e1]
      refine useD (c3) ?_
      simp (disch := first | (refine Ok.mk ?_; (try simp only [Lm, La, Lc, Ln, Lt, Ld, Lr, Li, true_or, or_true, true_and, and_true]); omega) | (simp <;> fail) | skip) [runM_nil, hCl, g0, g1, e1]
      refine hK _ _ ?_
      clear hK K
      first | refine pwp_rif ?_ | refine pwp_rifE ?_
      intro K hK
      simp (disch := first | (refine Ok.mk ?_; (try simp only [Lm, La, Lc, Ln, Lt, Ld, Lr, Li, true_or, or_true, true_and, and_true]); omega) | (simp <;> fail) | skip) [runM_nil]
      refine hK _ _ ?_
      clear hK K
      refine ifF (by simp [runM_nil]) (pwp_skip ?_)
      cases hd : decide (g < p) with
      | true =>
        first | refine pwp_sr ?_ | refine pwp_regionM ?_
        intro K hK
        simp (disch := first | (refine Ok.mk ?_; (try simp only [Lm, La, Lc, Ln, Lt, Ld, Lr, Li, true_or, or_true, true_and, and_true]); omega) | (simp <;> fail) | skip) [runM_nil]
        refine hK _ _ ?_
        clear hK K
        first | refine pwp_sr ?_ | refine pwp_regionM ?_
        intro K hK
        simp (disch := first | (refine Ok.mk ?_; (try simp only [Lm, La, Lc, Ln, Lt, Ld, Lr, Li, true_or, or_true, true_and, and_true]); omega) | (simp <;> fail) | skip) [runM_nil, hrl, hrl2, hjr]
        refine hK _ _ ?_
        clear hK K
        first | refine pwp_sr ?_ | refine pwp_regionM ?_
        intro K hK
        simp (disch := first | (refine Ok.mk ?_; (try simp only [Lm, La, Lc, Ln, Lt, Ld, Lr, Li, true_or, or_true, true_and, and_true]); omega) | (simp <;> fail) | skip) [runM_nil]
        refine hK _ _ ?_
        clear hK K
        exact ⟨C.length - (i + 1), by omega, _, .refl _, i + 1, t, by omega, by omega, by simpa using hgt, rfl, rfl, by simp [keepL_MS, keepA, getS, hjr, hgt2]⟩
      | false =>
        first | refine pwp_sr ?_ | refine pwp_regionM ?_
        intro K hK
        simp (disch := first | (refine Ok.mk ?_; (try simp only [Lm, La, Lc, Ln, Lt, Ld, Lr, Li, true_or, or_true, true_and, and_true]); omega) | (simp <;> fail) | skip) [runM_nil]
        refine hK _ _ ?_
        clear hK K
        first | refine pwp_sr ?_ | refine pwp_regionM ?_
        intro K hK
        simp (disch := first | (refine Ok.mk ?_; (try simp only [Lm, La, Lc, Ln, Lt, Ld, Lr, Li, true_or, or_true, true_and, and_true]); omega) | (simp <;> fail) | skip) [runM_nil, hrl, hrl2, hjr]
        refine hK _ _ ?_
        clear hK K
        first | refine pwp_sr ?_ | refine pwp_regionM ?_
        intro K hK
        simp (disch := first | (refine Ok.mk ?_; (try simp only [Lm, La, Lc, Ln, Lt, Ld, Lr, Li, true_or, or_true, true_and, and_true]); omega) | (simp <;> fail) | skip) [runM_nil]
        refine hK _ _ ?_
        clear hK K
        exact ⟨C.length - (i + 1), by omega, _, .refl _, i + 1, t, by omega, by omega, by simpa using hgt, rfl, rfl, by simp [keepL_MS, keepA, getS, hjr, hgt2]⟩
    · rw [if_neg hgt2] at c3
      have hgp : ¬ g < p := by omega
      first | refine pwp_sd hmix ?_ | refine pwp_drawM hmix ?_
      intro K hK
      simp (disch := first | (refine Ok.mk ?_; (try simp only [Lm, La, Lc, Ln, Lt, Ld, Lr, Li, true_or, or_true, true_and, and_true]); omega) | (simp <;> fail) | skip) [runM_nil, hCl, g0, g1, e1]
      refine useD (c3) ?_
      simp (disch := first | (refine Ok.mk ?_; (try simp only [Lm, La, Lc, Ln, Lt, Ld, Lr, Li, true_or, or_true, true_and, and_true]); omega) | (simp <;> fail) | skip) [runM_nil, hCl, g0, g1, e1]
      refine hK _ _ ?_
      clear hK K
      first | refine pwp_rif ?_ | refine pwp_rifE ?_
      intro K hK
      simp (disch := first | (refine Ok.mk ?_; (try simp only [Lm, La, Lc, Ln, Lt, Ld, Lr, Li, true_or, or_true, true_and, and_true]); omega) | (simp <;> fail) | skip) [runM_nil]
      refine hK _ _ ?_
      clear hK K
      refine ifF (by simp [runM_nil]) (pwp_skip ?_)
      first | refine pwp_sr ?_ | refine pwp_regionM ?_
      intro K hK
      simp (disch := first | (refine Ok.mk ?_; (try simp only [Lm, La, Lc, Ln, Lt, Ld, Lr, Li, true_or, or_true, true_and, and_true]); omega) | (simp <;> fail) | skip) [runM_nil, hgp]
      refine hK _ _ ?_
      clear hK K
      first | refine pwp_sr ?_ | refine pwp_regionM ?_
      intro K hK
      simp (disch := first | (refine Ok.mk ?_; (try simp only [Lm, La, Lc, Ln, Lt, Ld, Lr, Li, true_or, or_true, true_and, and_true]); omega) | (simp <;> fail) | skip) [runM_nil, hrl, hrl2, hjr]
      refine hK _ _ ?_
      clear hK K
      first | refine pwp_sr ?_ | refine pwp_regionM ?_
      intro K hK
      simp (disch := first | (refine Ok.mk ?_; (try simp only [Lm, La, Lc, Ln, Lt, Ld, Lr, Li, true_or, or_true, true_and, and_true]); omega) | (simp <;> fail) | skip) [runM_nil]
      refine hK _ _ ?_
      clear hK K
      exact ⟨C.length - (i + 1), by omega, _, .refl _, i + 1, t, by omega, by omega, by simpa using hgt, rfl, rfl, by simp [keepL_MS, keepA, getS, hjr, hgt2]⟩
  · obtain rfl : i = C.length := by omega
    rw [k4] at hp
    obtain rfl : b.length = p := Option.some.inj hp
    have cr := recsSame_ok (l := ofW L 0 b.length) hpl (fun r hr => by have := hr50 r hr; omega) (o := false) (q := false)
    rw [hoa] at cr ⊢
    generalize rowsC (L.flatMap (·.2)) = X at *
    first | refine pwp_sr ?_ | refine pwp_regionM ?_
    intro K hK
    simp (disch := first | (refine Ok.mk ?_; (try simp only [Lm, La, Lc, Ln, Lt, Ld, Lr, Li, true_or, or_true, true_and, and_true]); omega) | (simp <;> fail) | skip) [runM_nil, hCl]
    refine hK _ _ ?_
    clear hK K
    refine pwp_cF (by simp) (pwp_exit ?_)
    by_cases he : e = 0
    · have hgb : g = b.length := her.1 he
      subst he
      subst hgb
      first | refine pwp_sr ?_ | refine pwp_regionM ?_
      intro K hK
      simp (disch := first | (refine Ok.mk ?_; (try simp only [Lm, La, Lc, Ln, Lt, Ld, Lr, Li, true_or, or_true, true_and, and_true]); omega) | (simp <;> fail) | skip) [runM_nil]
      refine useP (ca) ?_
      simp (disch := first | (refine Ok.mk ?_; (try simp only [Lm, La, Lc, Ln, Lt, Ld, Lr, Li, true_or, or_true, true_and, and_true]); omega) | (simp <;> fail) | skip) [runM_nil]
      refine useP (hall) ?_
      simp (disch := first | (refine Ok.mk ?_; (try simp only [Lm, La, Lc, Ln, Lt, Ld, Lr, Li, true_or, or_true, true_and, and_true]); omega) | (simp <;> fail) | skip) [runM_nil]
      refine useP (cr) ?_
      simp (disch := first | (refine Ok.mk ?_; (try simp only [Lm, La, Lc, Ln, Lt, Ld, Lr, Li, true_or, or_true, true_and, and_true]); omega) | (simp <;> fail) | skip) [runM_nil]
      refine hK _ _ ?_
      clear hK K
      refine pwp_ret ⟨.inr rfl, _, _, (by simp (disch := first | (refine Ok.mk ?_; (try simp only [Lm, La, Lc, Ln, Lt, Ld, Lr, Li, true_or, or_true, true_and, and_true]); omega) | (simp <;> fail) | skip) [runM_nil, resL]; rfl), .refl _, by simp (disch := first | (refine Ok.mk ?_; (try simp only [Lm, La, Lc, Ln, Lt, Ld, Lr, Li, true_or, or_true, true_and, and_true]); omega) | (simp <;> fail) | skip) [resV], rfl⟩
    · have hgb : ¬ g = b.length := fun h => he (her.2 h)
      have hlt3 : g < b.length := by omega
      have ge : ¬ (e : Int) = 0 := by omega
      have gb : ¬ (g : Int) = b.length := by omega
      first | refine pwp_sr ?_ | refine pwp_regionM ?_
      intro K hK
      simp (disch := first | (refine Ok.mk ?_; (try simp only [Lm, La, Lc, Ln, Lt, Ld, Lr, Li, true_or, or_true, true_and, and_true]); omega) | (simp <;> fail) | skip) [runM_nil, he, ge, gb, hgb, hlt3]
      refine useP (ca) ?_
      simp (disch := first | (refine Ok.mk ?_; (try simp only [Lm, La, Lc, Ln, Lt, Ld, Lr, Li, true_or, or_true, true_and, and_true]); omega) | (simp <;> fail) | skip) [runM_nil, he, ge, gb, hgb, hlt3]
      refine useP (hall) ?_
      simp (disch := first | (refine Ok.mk ?_; (try simp only [Lm, La, Lc, Ln, Lt, Ld, Lr, Li, true_or, or_true, true_and, and_true]); omega) | (simp <;> fail) | skip) [runM_nil, he, ge, gb, hgb, hlt3]
      refine useP (cr) ?_
      simp (disch := first | (refine Ok.mk ?_; (try simp only [Lm, La, Lc, Ln, Lt, Ld, Lr, Li, true_or, or_true, true_and, and_true]); omega) | (simp <;> fail) | skip) [runM_nil, he, ge, gb, hgb, hlt3]
      refine hK _ _ ?_
      clear hK K
      refine pwp_ret ⟨.inr rfl, _, _, (by simp (disch := first | (refine Ok.mk ?_; (try simp only [Lm, La, Lc, Ln, Lt, Ld, Lr, Li, true_or, or_true, true_and, and_true]); omega) | (simp <;> fail) | skip) [runM_nil, resL]; rfl), .refl _, by simp (disch := first | (refine Ok.mk ?_; (try simp only [Lm, La, Lc, Ln, Lt, Ld, Lr, Li, true_or, or_true, true_and, and_true]); omega) | (simp <;> fail) | skip) [resV], rfl⟩
end Go.Proofs.YtjcjbpbkakfjdaaDoor.E
/- What a row hands over, as bytes and numbers. -/
namespace Go.Proofs.YtjcjbpbkakfjdaaDoor.E
open Go Go.RowKit Go.Proofs Go.ChangeShapes Go.WideShapes
set_option linter.unusedVariables false
set_option linter.unusedSimpArgs false
theorem bytes_of {xs : List PV} (h : ∀ x ∈ xs, el false (fun ps => ∃ n : Int, ps = [.int .u8 n] ∧ (Lit.int .u8 n).wf = true) x) : ∃ l : List Nat, xs = l.map u8 ∧ ∀ x ∈ l, x < 256 := by
  induction xs with
  | nil => exact ⟨[], rfl, fun c hc => by cases hc⟩
  | cons x xs ih =>
    obtain ⟨l, rfl, hl⟩ := ih fun y hy => h y (List.mem_cons_of_mem _ hy)
    obtain ⟨n, e, hn⟩ := h x (List.mem_cons_self ..)
    cases e
    have hw : 0 ≤ n ∧ n ≤ 255 := by simpa [Lit.wf, IntKind.min, IntKind.max, IntKind.signed, IntKind.bits] using hn
    refine ⟨n.toNat :: l, ?_, fun c hc => ?_⟩
    · have : ((n.toNat : Nat) : Int) = n := by omega
      simp [u8, this]
    · rcases List.mem_cons.1 hc with rfl | hc
      · omega
      · exact hl c hc
theorem openBytes : OpnV Tryd.prog 23 1 (fun ps => ∃ l : List Nat, ps = [.lst 1 (l.map u8) false] ∧ (∀ x ∈ l, x < 256) ∧ l.length ≤ 140737488351232) :=
  (OpnV.slice (B := 1) false Tryd.underlying23 (by kernel_rfl) (by kernel_rfl) (OpnV.int Tryd.underlying5 (by kernel_rfl)) (fun _ => rfl) (by omega)).weaken (by
    rintro _ ⟨xs, rfl, h1, _, h2⟩
    obtain ⟨l, rfl, h3⟩ := bytes_of h2
    rw [List.length_map] at h1
    exact ⟨l, rfl, h3, by omega⟩)
theorem openIntB : OpnV Tryd.prog 3 1 (fun ps => ∃ n : Int, ps = [.int .i64 n] ∧ -9223372036854775808 ≤ n ∧ n ≤ 9223372036854775807) := (OpnV.int Tryd.underlying3 (by kernel_rfl)).weaken (by
  rintro _ ⟨n, rfl, h⟩
  have hw : -9223372036854775808 ≤ n ∧ n ≤ 9223372036854775807 := by simpa [Lit.wf, IntKind.min, IntKind.max, IntKind.signed, IntKind.bits] using h
  exact ⟨n, rfl, hw⟩)
end Go.Proofs.YtjcjbpbkakfjdaaDoor.E
/- What a row hands over, as rows of numbers. -/
namespace Go.Proofs.YtjcjbpbkakfjdaaDoor.E
open Go Go.RowKit Go.Proofs Go.ChangeShapes Go.WideShapes
set_option linter.unusedVariables false
set_option linter.unusedSimpArgs false
theorem ints_of {xs : List PV} (h : ∀ x ∈ xs, el false (fun ps => ∃ n : Int, ps = [.int .i64 n] ∧ -9223372036854775808 ≤ n ∧ n ≤ 9223372036854775807) x) : ∃ l : List Int, xs = l.map (fun n => PV.int .i64 n) := by
  induction xs with
  | nil => exact ⟨[], rfl⟩
  | cons x xs ih =>
    obtain ⟨l, rfl⟩ := ih fun y hy => h y (List.mem_cons_of_mem _ hy)
    obtain ⟨n, e, hn⟩ := h x (List.mem_cons_self ..)
    cases e
    exact ⟨n :: l, rfl⟩
theorem openInts : OpnV Tryd.prog 46 1 (fun ps => ∃ l : List Int, ps = [.lst 1 (l.map fun n => PV.int .i64 n) false] ∧ l.length ≤ 140737488351232) :=
  (OpnV.slice (B := 8) false Tryd.underlying46 (by kernel_rfl) (by kernel_rfl) openIntB (fun _ => rfl) (by omega)).weaken (by
    rintro _ ⟨xs, rfl, h1, _, h2⟩
    obtain ⟨l, rfl⟩ := ints_of h2
    rw [List.length_map] at h1
    exact ⟨l, rfl, by omega⟩)
end Go.Proofs.YtjcjbpbkakfjdaaDoor.E
