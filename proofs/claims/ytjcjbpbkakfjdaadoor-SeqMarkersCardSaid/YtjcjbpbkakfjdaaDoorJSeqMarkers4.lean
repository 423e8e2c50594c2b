/- Part 4 of the proof of SeqMarkers: what the program's functions come to. -/
import Derived.Test.YtjcjbpbkakfjdaaDoorJSeqMarkers2
import Derived.Test.YtjcjbpbkakfjdaaDoorJSeqMarkers3
import Derived.Test.YtjcjbpbkakfjdaaDoorL2
import Derived.Test.YtjcjbpbkakfjdaaDoorProg
/- Few: how many records there are, and of how many bytes. -/
namespace Go.Proofs.YtjcjbpbkakfjdaaDoor.E
open Go Go.RowKit Go.Proofs
set_option linter.unusedVariables false
set_option linter.unusedSimpArgs false
def recW (r : List (List Nat)) : Nat := (r.map fun t => 1 + t.length).sum
def fewN (l : List (List (List Nat))) : Nat := (l.map recW).sum
theorem sum_take_succ {α : Type} (f : α → Nat) (l : List α) (i : Nat) (h : i < l.length) : ((l.take (i + 1)).map f).sum = ((l.take i).map f).sum + f l[i] := by
  rw [List.take_succ_eq_append_getElem h]
  simp only [List.map_append, List.sum_append, List.map_cons, List.map_nil, List.sum_cons, List.sum_nil, Nat.add_zero]
theorem sum_take_le {α : Type} (f : α → Nat) (l : List α) (i : Nat) : ((l.take i).map f).sum ≤ (l.map f).sum := by
  conv => rhs; rw [← List.take_append_drop i l]
  simp only [List.map_append, List.sum_append]
  omega
theorem few_ok {l : List (List (List Nat))} {many long : Nat} (hl : l.length ≤ 1000000000000000) (hr : ∀ r ∈ l, r.length ≤ 1000000000000000) (ht : ∀ r ∈ l, ∀ t ∈ r, t.length ≤ 1000000000000000) (hm : many ≤ 1000000) (hg : long ≤ 1000000) {o : Bool} :
    PSpec Tryd.prog 9 [.lst 1 (rowsC l) o, .int .i64 many, .int .i64 long] (.bool (decide (fewN l ≤ long) && decide (l.length ≤ many))) := by
  intro H
  have hrl : (rowsC l).length = l.length := by simp [rowsC]
  have hge : ∀ i (h : i < l.length), (rowsC l)[i]? = some (.lst 1 (l[i].map sV) false) := fun i h => by rw [rowsC, List.getElem?_map, List.getElem?_eq_getElem h]; rfl
  refine spec_of t9 (by simp [p9]) ?_
  simp only [p9]
  generalize rowsC l = es at *
  first | refine pwp_sr ?_ | refine pwp_regionM ?_
  intro K hK
  simp (disch := first | (refine Ok.mk ?_; (try simp only [Lm, La, Lc, Ln, Lt, Ld, Lr, Li, true_or, or_true, true_and, and_true]); omega) | (simp <;> fail) | skip) [runM_nil]
  refine hK _ _ ?_
  clear hK K
  refine pwp_seq ?_
  first | refine pwp_sr ?_ | refine pwp_regionM ?_
  intro K hK
  simp (disch := first | (refine Ok.mk ?_; (try simp only [Lm, La, Lc, Ln, Lt, Ld, Lr, Li, true_or, or_true, true_and, and_true]); omega) | (simp <;> fail) | skip) [runM_nil]
  refine hK _ _ ?_
  clear hK K
  refine pwp_seq (pwp_seq ?_)
  first | refine pwp_sr ?_ | refine pwp_regionM ?_
  intro K hK
  simp (disch := first | (refine Ok.mk ?_; (try simp only [Lm, La, Lc, Ln, Lt, Ld, Lr, Li, true_or, or_true, true_and, and_true]); omega) | (simp <;> fail) | skip) [runM_nil]
  refine hK _ _ ?_
  clear hK K
  refine pwp_block ?_
  refine pwp_loopK [0, 1, 2, 7, 8] (fun q st H' => ∃ i, i ≤ l.length ∧ fewN (l.take i) ≤ long ∧ q = l.length - i ∧ H' = H ∧ st = MS 43 [(0, .lst 1 es o), (1, .int .i64 many), (2, .int .i64 long), (7, .int .i64 (fewN (l.take i) : Nat)), (8, .int .i64 i)]) (n := l.length)
    ⟨_, .refl _, 0, Nat.zero_le _, by simp [fewN], rfl, rfl, by simp [keepL_MS, keepA, getS, fewN]⟩ ?_
  rintro q st H1 ⟨i, hi, hn, rfl, rfl, rfl⟩
  by_cases hlt : i < l.length
  · have g1 := hge i hlt
    have hri : l[i].length ≤ 1000000000000000 := hr _ (List.getElem_mem hlt)
    have hti : ∀ t ∈ l[i], t.length ≤ 1000000000000000 := ht _ (List.getElem_mem hlt)
    have hs1 : fewN (l.take (i + 1)) = fewN (l.take i) + recW l[i] := sum_take_succ _ _ _ hlt
    have hs2 : fewN (l.take (i + 1)) ≤ fewN l := sum_take_le _ _ _
    generalize hrr : l[i] = r at *
    generalize fewN (l.take i) = N at *
    refine pwp_seq (pwp_seq ?_)
    first | refine pwp_sr ?_ | refine pwp_regionM ?_
    intro K hK
    simp (disch := first | (refine Ok.mk ?_; (try simp only [Lm, La, Lc, Ln, Lt, Ld, Lr, Li, true_or, or_true, true_and, and_true]); omega) | (simp <;> fail) | skip) [runM_nil]
    refine hK _ _ ?_
    clear hK K
    refine pwp_cT (by simp) (pwp_skip ?_)
    refine pwp_seq (pwp_block ?_)
    refine pwp_seq ?_
    first | refine pwp_sr ?_ | refine pwp_regionM ?_
    intro K hK
    simp (disch := first | (refine Ok.mk ?_; (try simp only [Lm, La, Lc, Ln, Lt, Ld, Lr, Li, true_or, or_true, true_and, and_true]); omega) | (simp <;> fail) | skip) [runM_nil]
    refine hK _ _ ?_
    clear hK K
    refine pwp_block ?_
    have gk : ∀ k (h : k < r.length), (r.map sV)[k]? = some (sV r[k]) := fun k h => by rw [List.getElem?_map, List.getElem?_eq_getElem h]; rfl
    have hml : (r.map sV).length = r.length := List.length_map _
    refine pwp_loopK [0, 1, 2, 7, 8, 9] (fun q st H' => ∃ k, k ≤ r.length ∧ N + recW (r.take k) ≤ long ∧ q = r.length - k ∧ H' = H1 ∧ st = MS 43 [(0, .lst 1 es o), (1, .int .i64 many), (2, .int .i64 long), (7, .int .i64 (N + recW (r.take k) : Nat)), (8, .int .i64 i), (9, .int .i64 k)]) (n := r.length)
      ⟨_, .refl _, 0, Nat.zero_le _, by simpa [recW] using hn, rfl, rfl, by simp [keepL_MS, keepA, getS, recW]⟩ ?_
    rintro q st H2 ⟨k, hk, hkn, rfl, hH2, rfl⟩
    subst hH2
    by_cases hkl : k < r.length
    · have g2 := gk k hkl
      have htk : r[k].length ≤ 1000000000000000 := hti _ (List.getElem_mem hkl)
      have hs3 : recW (r.take (k + 1)) = recW (r.take k) + (1 + r[k].length) := sum_take_succ _ _ _ hkl
      have hs4 : recW (r.take (k + 1)) ≤ recW r := sum_take_le _ _ _
      generalize r[k] = t at *
      generalize recW (r.take k) = M at *
      generalize r.map sV = ts at *
      have hcl : (ci t).length = t.length := by simp [ci]
      refine pwp_seq (pwp_seq ?_)
      first | refine pwp_sr ?_ | refine pwp_regionM ?_
      intro K hK
      simp (disch := first | (refine Ok.mk ?_; (try simp only [Lm, La, Lc, Ln, Lt, Ld, Lr, Li, true_or, or_true, true_and, and_true]); omega) | (simp <;> fail) | skip) [runM_nil, g1, hml]
      refine hK _ _ ?_
      clear hK K
      refine pwp_cT (by simp) (pwp_skip ?_)
      refine pwp_seq (pwp_block ?_)
      first | refine pwp_sr ?_ | refine pwp_regionM ?_
      intro K hK
      simp (disch := first | (refine Ok.mk ?_; (try simp only [Lm, La, Lc, Ln, Lt, Ld, Lr, Li, true_or, or_true, true_and, and_true]); omega) | (simp <;> fail) | skip) [runM_nil, g1, g2, sV, hcl]
      refine hK _ _ ?_
      clear hK K
      have e7 : ((N : Int) + M + 1 + t.length) = (N : Int) + (recW (r.take (k + 1)) : Nat) := by omega
      by_cases hbig : N + recW (r.take (k + 1)) ≤ long
      · refine pwp_seq ?_
        first | refine pwp_sr ?_ | refine pwp_regionM ?_
        intro K hK
        simp (disch := first | (refine Ok.mk ?_; (try simp only [Lm, La, Lc, Ln, Lt, Ld, Lr, Li, true_or, or_true, true_and, and_true]); omega) | (simp <;> fail) | skip) [runM_nil]
        refine hK _ _ ?_
        clear hK K
        refine pwp_cF (by simp <;> omega) (pwp_skip ?_)
        first | refine pwp_sr ?_ | refine pwp_regionM ?_
        intro K hK
        simp (disch := first | (refine Ok.mk ?_; (try simp only [Lm, La, Lc, Ln, Lt, Ld, Lr, Li, true_or, or_true, true_and, and_true]); omega) | (simp <;> fail) | skip) [runM_nil]
        refine hK _ _ ?_
        clear hK K
        refine ⟨r.length - (k + 1), by omega, _, .refl _, k + 1, by omega, hbig, rfl, rfl, ?_⟩
        simp [keepL_MS, keepA, getS, e7]
      · refine pwp_seq ?_
        first | refine pwp_sr ?_ | refine pwp_regionM ?_
        intro K hK
        simp (disch := first | (refine Ok.mk ?_; (try simp only [Lm, La, Lc, Ln, Lt, Ld, Lr, Li, true_or, or_true, true_and, and_true]); omega) | (simp <;> fail) | skip) [runM_nil]
        refine hK _ _ ?_
        clear hK K
        refine pwp_cT (by simp <;> omega) ?_
        refine pwp_seq ?_
        first | refine pwp_sr ?_ | refine pwp_regionM ?_
        intro K hK
        simp (disch := first | (refine Ok.mk ?_; (try simp only [Lm, La, Lc, Ln, Lt, Ld, Lr, Li, true_or, or_true, true_and, and_true]); omega) | (simp <;> fail) | skip) [runM_nil]
        refine hK _ _ ?_
        clear hK K
        refine pwp_ret ⟨.inr rfl, _, _, (by simp [runM_nil, resL]; rfl), .refl _, ?_, rfl⟩
        have : ¬ fewN l ≤ long := by omega
        simp [resV, this]
    · obtain rfl : k = r.length := by omega
      generalize hts : r.map sV = ts at *
      refine pwp_seq (pwp_seq ?_)
      first | refine pwp_sr ?_ | refine pwp_regionM ?_
      intro K hK
      simp (disch := first | (refine Ok.mk ?_; (try simp only [Lm, La, Lc, Ln, Lt, Ld, Lr, Li, true_or, or_true, true_and, and_true]); omega) | (simp <;> fail) | skip) [runM_nil, g1, hml]
      refine hK _ _ ?_
      clear hK K
      refine pwp_cF (by simp) (pwp_exit ?_)
      first | refine pwp_sr ?_ | refine pwp_regionM ?_
      intro K hK
      simp (disch := first | (refine Ok.mk ?_; (try simp only [Lm, La, Lc, Ln, Lt, Ld, Lr, Li, true_or, or_true, true_and, and_true]); omega) | (simp <;> fail) | skip) [runM_nil]
      refine hK _ _ ?_
      clear hK K
      have htk : r.take r.length = r := List.take_of_length_le (Nat.le_refl _)
      rw [htk] at hkn
      refine ⟨l.length - (i + 1), by omega, _, .refl _, i + 1, by omega, by omega, rfl, rfl, ?_⟩
      simp [keepL_MS, keepA, getS, hs1]
  · obtain rfl : i = l.length := by omega
    refine pwp_seq (pwp_seq ?_)
    first | refine pwp_sr ?_ | refine pwp_regionM ?_
    intro K hK
    simp (disch := first | (refine Ok.mk ?_; (try simp only [Lm, La, Lc, Ln, Lt, Ld, Lr, Li, true_or, or_true, true_and, and_true]); omega) | (simp <;> fail) | skip) [runM_nil]
    refine hK _ _ ?_
    clear hK K
    refine pwp_cF (by simp) (pwp_exit ?_)
    first | refine pwp_sr ?_ | refine pwp_regionM ?_
    intro K hK
    simp (disch := first | (refine Ok.mk ?_; (try simp only [Lm, La, Lc, Ln, Lt, Ld, Lr, Li, true_or, or_true, true_and, and_true]); omega) | (simp <;> fail) | skip) [runM_nil]
    refine hK _ _ ?_
    clear hK K
    have htk : l.take l.length = l := List.take_of_length_le (Nat.le_refl _)
    rw [htk] at hn
    refine pwp_ret ⟨.inr rfl, _, _, (by simp [runM_nil, resL]; rfl), .refl _, by simp [resV, hn, hrl], rfl⟩
end Go.Proofs.YtjcjbpbkakfjdaaDoor.E
/- Records as a file, by the program. -/
namespace Go.Proofs.YtjcjbpbkakfjdaaDoor.E
open Go Go.RowKit Go.Proofs
set_option linter.unusedVariables false
set_option linter.unusedSimpArgs false
def okR : Rc → Bool
  | [k, v] => decide (k.length ≤ 1000) && decide (v.length ≤ 1000)
  | _ => false
theorem isPair_ok (r : Rc) (hr : r.length ≤ 1000000) {o : Bool} : PSpec Tryd.prog 29 [.lst 1 (r.map sV) o] (.bool (okR r)) := by
  intro H
  refine spec_of t29 (by simp [p29]) ?_
  simp only [p29]
  first | refine pwp_sr ?_ | refine pwp_regionM ?_
  intro K hK
  simp (disch := first | (refine Ok.mk ?_; (try simp only [Lm, La, Lc, Ln, Lt, Ld, Lr, Li, true_or, or_true, true_and, and_true]); omega) | (simp <;> fail) | skip) [runM_nil]
  refine hK _ _ ?_
  clear hK K
  match r, hr with
  | [], _ =>
    first | refine pwp_sr ?_ | refine pwp_regionM ?_
    intro K hK
    simp (disch := first | (refine Ok.mk ?_; (try simp only [Lm, La, Lc, Ln, Lt, Ld, Lr, Li, true_or, or_true, true_and, and_true]); omega) | (simp <;> fail) | skip) [runM_nil]
    refine hK _ _ ?_
    clear hK K
    refine pwp_ret ⟨.inr rfl, _, _, (by simp (disch := first | (refine Ok.mk ?_; (try simp only [Lm, La, Lc, Ln, Lt, Ld, Lr, Li, true_or, or_true, true_and, and_true]); omega) | (simp <;> fail) | skip) [runM_nil, resL, okR]; rfl), .refl _, by simp (disch := first | (refine Ok.mk ?_; (try simp only [Lm, La, Lc, Ln, Lt, Ld, Lr, Li, true_or, or_true, true_and, and_true]); omega) | (simp <;> fail) | skip) [resV, okR], rfl⟩
  | [a], _ =>
    first | refine pwp_sr ?_ | refine pwp_regionM ?_
    intro K hK
    simp (disch := first | (refine Ok.mk ?_; (try simp only [Lm, La, Lc, Ln, Lt, Ld, Lr, Li, true_or, or_true, true_and, and_true]); omega) | (simp <;> fail) | skip) [runM_nil]
    refine hK _ _ ?_
    clear hK K
    refine pwp_ret ⟨.inr rfl, _, _, (by simp (disch := first | (refine Ok.mk ?_; (try simp only [Lm, La, Lc, Ln, Lt, Ld, Lr, Li, true_or, or_true, true_and, and_true]); omega) | (simp <;> fail) | skip) [runM_nil, resL, okR]; rfl), .refl _, by simp (disch := first | (refine Ok.mk ?_; (try simp only [Lm, La, Lc, Ln, Lt, Ld, Lr, Li, true_or, or_true, true_and, and_true]); omega) | (simp <;> fail) | skip) [resV, okR], rfl⟩
  | [a, b], _ =>
    by_cases h1 : a.length ≤ 1000
    · by_cases h2 : b.length ≤ 1000
      · first | refine pwp_sr ?_ | refine pwp_regionM ?_
        intro K hK
        simp (disch := first | (refine Ok.mk ?_; (try simp only [Lm, La, Lc, Ln, Lt, Ld, Lr, Li, true_or, or_true, true_and, and_true]); omega) | (simp <;> fail) | skip) [runM_nil, sV, h1, h2]
        refine hK _ _ ?_
        clear hK K
        refine pwp_ret ⟨.inr rfl, _, _, (by simp (disch := first | (refine Ok.mk ?_; (try simp only [Lm, La, Lc, Ln, Lt, Ld, Lr, Li, true_or, or_true, true_and, and_true]); omega) | (simp <;> fail) | skip) [runM_nil, resL, okR, h1, h2]; rfl), .refl _, by simp (disch := first | (refine Ok.mk ?_; (try simp only [Lm, La, Lc, Ln, Lt, Ld, Lr, Li, true_or, or_true, true_and, and_true]); omega) | (simp <;> fail) | skip) [resV, okR, h1, h2], rfl⟩
      · first | refine pwp_sr ?_ | refine pwp_regionM ?_
        intro K hK
        simp (disch := first | (refine Ok.mk ?_; (try simp only [Lm, La, Lc, Ln, Lt, Ld, Lr, Li, true_or, or_true, true_and, and_true]); omega) | (simp <;> fail) | skip) [runM_nil, sV, h1, h2]
        refine hK _ _ ?_
        clear hK K
        refine pwp_ret ⟨.inr rfl, _, _, (by simp (disch := first | (refine Ok.mk ?_; (try simp only [Lm, La, Lc, Ln, Lt, Ld, Lr, Li, true_or, or_true, true_and, and_true]); omega) | (simp <;> fail) | skip) [runM_nil, resL, okR, h1, h2]; rfl), .refl _, by simp (disch := first | (refine Ok.mk ?_; (try simp only [Lm, La, Lc, Ln, Lt, Ld, Lr, Li, true_or, or_true, true_and, and_true]); omega) | (simp <;> fail) | skip) [resV, okR, h1, h2], rfl⟩
    · first | refine pwp_sr ?_ | refine pwp_regionM ?_
      intro K hK
      simp (disch := first | (refine Ok.mk ?_; (try simp only [Lm, La, Lc, Ln, Lt, Ld, Lr, Li, true_or, or_true, true_and, and_true]); omega) | (simp <;> fail) | skip) [runM_nil, sV, h1]
      refine hK _ _ ?_
      clear hK K
      refine pwp_ret ⟨.inr rfl, _, _, (by simp (disch := first | (refine Ok.mk ?_; (try simp only [Lm, La, Lc, Ln, Lt, Ld, Lr, Li, true_or, or_true, true_and, and_true]); omega) | (simp <;> fail) | skip) [runM_nil, resL, okR, h1]; rfl), .refl _, by simp (disch := first | (refine Ok.mk ?_; (try simp only [Lm, La, Lc, Ln, Lt, Ld, Lr, Li, true_or, or_true, true_and, and_true]); omega) | (simp <;> fail) | skip) [resV, okR, h1], rfl⟩
  | a :: b :: c :: l, hr =>
    have hn : ¬ ((l.length : Int) + 1 + 1 + 1 = 2) := by omega
    simp only [List.length_cons] at hr
    first | refine pwp_sr ?_ | refine pwp_regionM ?_
    intro K hK
    simp (disch := first | (refine Ok.mk ?_; (try simp only [Lm, La, Lc, Ln, Lt, Ld, Lr, Li, true_or, or_true, true_and, and_true]); omega) | (simp <;> fail) | skip) [runM_nil, hn]
    refine hK _ _ ?_
    clear hK K
    refine pwp_ret ⟨.inr rfl, _, _, (by simp (disch := first | (refine Ok.mk ?_; (try simp only [Lm, La, Lc, Ln, Lt, Ld, Lr, Li, true_or, or_true, true_and, and_true]); omega) | (simp <;> fail) | skip) [runM_nil, resL, okR]; rfl), .refl _, by simp (disch := first | (refine Ok.mk ?_; (try simp only [Lm, La, Lc, Ln, Lt, Ld, Lr, Li, true_or, or_true, true_and, and_true]); omega) | (simp <;> fail) | skip) [resV, okR], rfl⟩
theorem pair_ok {s : Nat} {xs : List PV} {o : Bool} {b : List Nat} (hx : xs = b.map u8) (hs : s = 1 ∨ b.length = 0) (k v : List Nat) (hl : b.length + k.length + v.length ≤ 1000000000) :
    PSpec Tryd.prog 30 [.lst s xs o, .agg [.str (ci k), .str (ci v)]] (bV (b ++ vb k.length ++ k ++ vb v.length ++ v) true) := by
  intro H
  have c1 := frame_ok (o := false) hx hs k (by omega)
  have hvk := vb_length_le10 (n := k.length) (by omega)
  have c2 := frame_ok (s := 1) (o := false) (xs := (b ++ vb k.length ++ k).map u8) rfl (.inl rfl) v (by simp only [List.length_append]; omega)
  generalize b ++ vb k.length ++ k = A at *
  generalize A ++ vb v.length ++ v = Z at *
  refine spec_of t30 (by simp [p30]) ?_
  simp only [p30]
  first | refine pwp_sr ?_ | refine pwp_regionM ?_
  intro K hK
  simp (disch := first | (refine Ok.mk ?_; (try simp only [Lm, La, Lc, Ln, Lt, Ld, Lr, Li, true_or, or_true, true_and, and_true]); omega) | (simp <;> fail) | skip) [runM_nil]
  refine hK _ _ ?_
  clear hK K
  first | refine pwp_sd hmix ?_ | refine pwp_drawM hmix ?_
  intro K hK
  simp (disch := first | (refine Ok.mk ?_; (try simp only [Lm, La, Lc, Ln, Lt, Ld, Lr, Li, true_or, or_true, true_and, and_true]); omega) | (simp <;> fail) | skip) [runM_nil]
  refine useD (c1) ?_
  simp (disch := first | (refine Ok.mk ?_; (try simp only [Lm, La, Lc, Ln, Lt, Ld, Lr, Li, true_or, or_true, true_and, and_true]); omega) | (simp <;> fail) | skip) [runM_nil]
  refine useD (c2) ?_
  simp (disch := first | (refine Ok.mk ?_; (try simp only [Lm, La, Lc, Ln, Lt, Ld, Lr, Li, true_or, or_true, true_and, and_true]); omega) | (simp <;> fail) | skip) [runM_nil]
  refine hK _ _ ?_
  clear hK K
  refine pwp_ret ⟨.inr rfl, _, _, (by simp (disch := first | (refine Ok.mk ?_; (try simp only [Lm, La, Lc, Ln, Lt, Ld, Lr, Li, true_or, or_true, true_and, and_true]); omega) | (simp <;> fail) | skip) [runM_nil, resL]; rfl), .refl _, by simp (disch := first | (refine Ok.mk ?_; (try simp only [Lm, La, Lc, Ln, Lt, Ld, Lr, Li, true_or, or_true, true_and, and_true]); omega) | (simp <;> fail) | skip) [resV], rfl⟩
def rowS (p : List Rc) : List Nat := vb p.length ++ p.flatMap fun r => vb (r.getD 0 []).length ++ r.getD 0 [] ++ vb (r.getD 1 []).length ++ r.getD 1 []
def blkW (p : List Rc) : List Nat := 255 :: 83 :: escB (sealed tbl (rowS p))
def fileS (l : List Rc) : List Nat := [84, 83, 81, 49] ++ (chk 3 l).flatMap blkW
def wrS (l : List Rc) : List Nat × Nat := if l.all okR = true then (fileS l, 0) else ([], 10)
def rowSt (p : List Rc) (i : Nat) : List Nat := vb p.length ++ (p.take i).flatMap fun r => vb (r.getD 0 []).length ++ r.getD 0 [] ++ vb (r.getD 1 []).length ++ r.getD 1 []
theorem okR_iff {r : Rc} : okR r = true ↔ ∃ k v, r = [k, v] ∧ k.length ≤ 1000 ∧ v.length ≤ 1000 := by
  match r with
  | [] => simp [okR]
  | [a] => simp [okR]
  | [a, b] =>
    simp only [okR, Bool.and_eq_true, decide_eq_true_iff]
    exact ⟨fun ⟨h1, h2⟩ => ⟨a, b, rfl, h1, h2⟩, fun ⟨k, v, e, h1, h2⟩ => by cases e; exact ⟨h1, h2⟩⟩
  | a :: b :: c :: l => simp [okR]
theorem rowSt_succ {p : List Rc} {i : Nat} (h : i < p.length) {k v : List Nat} (e : p[i] = [k, v]) : rowSt p (i + 1) = rowSt p i ++ vb k.length ++ k ++ vb v.length ++ v := by
  unfold rowSt
  rw [List.take_succ_eq_append_getElem h, List.flatMap_append, e]
  simp
theorem rowS_len {p : List Rc} (hp : p.length ≤ 100) : ∀ i, i ≤ p.length → (∀ r ∈ p.take i, okR r = true) → (rowSt p i).length ≤ 10 + 2020 * i
  | 0, _, _ => by
    have := vb_length_le10 (n := p.length) (by omega)
    simpa [rowSt] using this
  | i + 1, hi, hok => by
    have ih := rowS_len hp i (by omega) fun r hr => hok r (by rw [List.take_succ_eq_append_getElem (by omega)]; exact List.mem_append_left _ hr)
    obtain ⟨k, v, e, hk, hv⟩ := okR_iff.1 (hok p[i] (by rw [List.take_succ_eq_append_getElem (by omega)]; exact List.mem_append_right _ (List.mem_singleton.2 rfl)))
    rw [rowSt_succ (by omega) e]
    have h1 := vb_length_le10 (n := k.length) (by omega)
    have h2 := vb_length_le10 (n := v.length) (by omega)
    simp only [List.length_append]
    omega
theorem escB_len (b : List Nat) : (escB b).length ≤ 2 * b.length := by
  have h := rep_len (p := [255]) (n := [255, 0]) (by simp) _ b (Nat.le_refl _)
  have h2 := occ_le1 (p := [255]) (by simp) b
  simp only [List.length_cons, List.length_nil] at h
  unfold escB
  omega
def chV (p : List Rc) : List PV := [.lst 1 (rowsC p) false]
theorem chV_inj (a b : List Rc) (h : chV a = chV b) : a = b := by
  simp only [chV, List.cons.injEq, PV.lst.injEq, and_true, true_and] at h
  exact rowsC_inj h
theorem vb_sum_len {pre : List (List Rc)} (h3 : ∀ p ∈ pre, p.length ≤ 3) (h : ∀ p ∈ pre, ∀ r ∈ p, okR r = true) : (pre.flatMap blkW).length ≤ 13000 * pre.length := by
  induction pre with
  | nil => simp
  | cons p pre ih =>
    have h1 := ih (fun q hq => h3 q (List.mem_cons_of_mem _ hq)) fun q hq => h q (List.mem_cons_of_mem _ hq)
    have hp := h3 p (List.mem_cons_self ..)
    have h2 := rowS_len (p := p) (by omega) p.length (Nat.le_refl _) (by rw [List.take_length]; exact h p (List.mem_cons_self ..))
    have h4 := escB_len (sealed tbl (rowS p))
    rw [sealed_length] at h4
    have e : rowSt p p.length = rowS p := by unfold rowSt rowS; rw [List.take_length]
    rw [e] at h2
    rw [List.flatMap_cons, List.length_append, List.length_cons]
    unfold blkW at *
    simp only [List.length_cons] at *
    omega
set_option maxHeartbeats 1000000 in
theorem write_ok {l : List Rc} {s : Nat} {xs : List PV} (hx : xs = rowsC l) (hs : s = 1 ∨ l.length = 0) (hl : l.length ≤ 1000000) (hr : ∀ r ∈ l, r.length ≤ 1000000) (hw : ∀ r ∈ l, ∀ t ∈ r, ∀ x ∈ t, x < 256) {o : Bool} :
    PSpec Tryd.prog 11 [.lst s xs o] (.tup [bV (wrS l).1 false, .int .i64 ((wrS l).2 : Nat)]) := by
  intro H
  have hxl : xs.length = l.length := by rw [hx]; simp [rowsC]
  have hit := chkR_iter (s := s) (l := xs) (o := false) (hs.imp id fun h => by omega) (by omega) 3 (by omega) (by omega)
  have hmp : ((chk 3 xs).map fun p => [PV.lst 1 p false]) = (chk 3 l).map chV := by
    rw [hx, rowsC, chk_map _ (by omega) _ l (Nat.le_refl _), List.map_map]
    rfl
  rw [hmp] at hit
  obtain ⟨cf1, cf2⟩ := chk_facts (m := 3) (by omega) _ l (Nat.le_refl _)
  have hfl := chk_flat (m := 3) (by omega) _ l (Nat.le_refl _)
  have hmem : ∀ p ∈ chk 3 l, ∀ r ∈ p, r ∈ l := fun p hp r hr => by rw [← hfl]; exact List.mem_flatten.2 ⟨p, hp, hr⟩
  have hcl : (chk 3 l).length ≤ 1000000 := by rw [cf2]; omega
  have hgood : (∀ p ∈ chk 3 l, ∀ r ∈ p, okR r = true) → wrS l = (fileS l, 0) := fun h => by
    unfold wrS
    rw [if_pos (List.all_eq_true.2 fun r hr => by
      rw [← hfl] at hr
      obtain ⟨p, hp, hr⟩ := List.mem_flatten.1 hr
      exact h p hp r hr)]
  have hbad : (∃ p ∈ chk 3 l, ∃ r ∈ p, okR r = false) → wrS l = ([], 10) := fun ⟨p, hp, r, hr, he⟩ => by
    unfold wrS
    rw [if_neg (fun h => by
      have := List.all_eq_true.1 h r (hmem p hp r hr)
      rw [he] at this
      cases this)]
  have hbad2 : ∀ p ∈ chk 3 l, ∀ r ∈ p, okR r = false → ∃ p ∈ chk 3 l, ∃ r ∈ p, okR r = false := fun p hp r hr h => ⟨p, hp, r, hr, h⟩
  have hfile : fileS l = [84, 83, 81, 49] ++ (chk 3 l).flatMap blkW := rfl
  refine SpecH_mono (SpecH_lend (R := fun r H' => ∃ o, r = .tup [bV (wrS l).1 o, .int .i64 ((wrS l).2 : Nat)] ∧ H' = H) ?_) (by
    rintro r H' ⟨_, ⟨o, rfl, rfl⟩, rfl⟩
    exact ⟨by simp [lend, lendL], rfl⟩)
  refine spec_ofU t11 (by simp [p11]) ?_
  simp only [p11]
  first | refine pwp_sr ?_ | refine pwp_regionM ?_
  intro K hK
  simp (disch := first | (refine Ok.mk ?_; (try simp only [Lm, La, Lc, Ln, Lt, Ld, Lr, Li, true_or, or_true, true_and, and_true]); omega) | (simp <;> fail) | skip) [runM_nil]
  intro b2 h_b2
  try simp (disch := first | (refine Ok.mk ?_; (try simp only [Lm, La, Lc, Ln, Lt, Ld, Lr, Li, true_or, or_true, true_and, and_true]); omega) | (simp <;> fail) | skip) [runM_nil]
  intro b3 h_b3
  have d_b3_b2 : ¬ b2 = b3 := fun e => by subst e; simp [hget] at h_b3
  try simp (disch := first | (refine Ok.mk ?_; (try simp only [Lm, La, Lc, Ln, Lt, Ld, Lr, Li, true_or, or_true, true_and, and_true]); omega) | (simp <;> fail) | skip) [runM_nil, d_b3_b2, Ne.symm d_b3_b2]
  refine hK _ _ ?_
  clear hK K
  first | refine pwp_sr ?_ | refine pwp_regionM ?_
  intro K hK
  simp (disch := first | (refine Ok.mk ?_; (try simp only [Lm, La, Lc, Ln, Lt, Ld, Lr, Li, true_or, or_true, true_and, and_true]); omega) | (simp <;> fail) | skip) [runM_nil, d_b3_b2, Ne.symm d_b3_b2]
  refine useP (table_ok) ?_
  simp (disch := first | (refine Ok.mk ?_; (try simp only [Lm, La, Lc, Ln, Lt, Ld, Lr, Li, true_or, or_true, true_and, and_true]); omega) | (simp <;> fail) | skip) [runM_nil, d_b3_b2, Ne.symm d_b3_b2]
  intro b4 h_b4
  have d_b4_b2 : ¬ b2 = b4 := fun e => by subst e; simp [hget, d_b3_b2, Ne.symm d_b3_b2] at h_b4
  have d_b4_b3 : ¬ b3 = b4 := fun e => by subst e; simp [hget, d_b3_b2, Ne.symm d_b3_b2] at h_b4
  try simp (disch := first | (refine Ok.mk ?_; (try simp only [Lm, La, Lc, Ln, Lt, Ld, Lr, Li, true_or, or_true, true_and, and_true]); omega) | (simp <;> fail) | skip) [runM_nil, d_b3_b2, Ne.symm d_b3_b2, d_b4_b2, Ne.symm d_b4_b2, d_b4_b3, Ne.symm d_b4_b3]
  intro b5 h_b5
  have d_b5_b2 : ¬ b2 = b5 := fun e => by subst e; simp [hget, d_b3_b2, Ne.symm d_b3_b2, d_b4_b2, Ne.symm d_b4_b2, d_b4_b3, Ne.symm d_b4_b3] at h_b5
  have d_b5_b3 : ¬ b3 = b5 := fun e => by subst e; simp [hget, d_b3_b2, Ne.symm d_b3_b2, d_b4_b2, Ne.symm d_b4_b2, d_b4_b3, Ne.symm d_b4_b3] at h_b5
  have d_b5_b4 : ¬ b4 = b5 := fun e => by subst e; simp [hget, d_b3_b2, Ne.symm d_b3_b2, d_b4_b2, Ne.symm d_b4_b2, d_b4_b3, Ne.symm d_b4_b3] at h_b5
  try simp (disch := first | (refine Ok.mk ?_; (try simp only [Lm, La, Lc, Ln, Lt, Ld, Lr, Li, true_or, or_true, true_and, and_true]); omega) | (simp <;> fail) | skip) [runM_nil, d_b3_b2, Ne.symm d_b3_b2, d_b4_b2, Ne.symm d_b4_b2, d_b4_b3, Ne.symm d_b4_b3, d_b5_b2, Ne.symm d_b5_b2, d_b5_b3, Ne.symm d_b5_b3, d_b5_b4, Ne.symm d_b5_b4]
  refine hK _ _ ?_
  clear hK K
  refine pwp_seq (pwp_seq ?_)
  first | refine pwp_sr ?_ | refine pwp_regionM ?_
  intro K hK
  simp (disch := first | (refine Ok.mk ?_; (try simp only [Lm, La, Lc, Ln, Lt, Ld, Lr, Li, true_or, or_true, true_and, and_true]); omega) | (simp <;> fail) | skip) [runM_nil, d_b3_b2, Ne.symm d_b3_b2, d_b4_b2, Ne.symm d_b4_b2, d_b4_b3, Ne.symm d_b4_b3, d_b5_b2, Ne.symm d_b5_b2, d_b5_b3, Ne.symm d_b5_b3, d_b5_b4, Ne.symm d_b5_b4]
  refine useP (chkR_ok 3 (by omega) (by omega)) ?_
  simp (disch := first | (refine Ok.mk ?_; (try simp only [Lm, La, Lc, Ln, Lt, Ld, Lr, Li, true_or, or_true, true_and, and_true]); omega) | (simp <;> fail) | skip) [runM_nil, d_b3_b2, Ne.symm d_b3_b2, d_b4_b2, Ne.symm d_b4_b2, d_b4_b3, Ne.symm d_b4_b3, d_b5_b2, Ne.symm d_b5_b2, d_b5_b3, Ne.symm d_b5_b3, d_b5_b4, Ne.symm d_b5_b4]
  refine hK _ _ ?_
  clear hK K
  refine pwp_block ?_
  refine pwp_kept (keep := [2, 3, 4, 5, 14]) (by simp [keepA, getS]; rfl) ?_
  generalize chk 3 l = C at *
  refine pwp_rangeM chV chV_inj C (by simp [runM_nil]) hit (fun a _ => rfl)
    (fun pre H' => (∀ p ∈ pre, p ∈ C) ∧ (∀ p ∈ pre, ∀ r ∈ p, okR r = true) ∧ ∃ ow, ((b5, [.lst 1 (tbl.map u32) false]) :: (b4, [bV ([84, 83, 81, 49] ++ pre.flatMap blkW) ow]) :: (b3, [.int .i64 0]) :: (b2, [.lst 0 [] true]) :: H).Sublist H')
    (fun pre e H' => e = .ret ∧ (∃ p ∈ C, ∃ r ∈ p, okR r = false) ∧ ∃ X Y, H' = (b5, X) :: (b4, Y) :: (b3, [.int .i64 10]) :: (b2, [.lst 0 [] true]) :: H) ⟨by simp, by simp, false, .refl _⟩ ?_ ?_ ?_
  · rintro pre p H' hp hlt ⟨hpC, hok, ow, hsub⟩
    refine pwp_drop hsub ?_
    have hsum := vb_sum_len (fun q hq => (cf1 q (hpC q hq)).2) hok
    obtain ⟨p1, p3⟩ := cf1 p hp
    have hrl : (rowsC p).length = p.length := by simp [rowsC]
    have hge : ∀ i (h : i < p.length), (rowsC p)[i]? = some (.lst 1 (p[i].map sV) false) := fun i h => by rw [rowsC, List.getElem?_map, List.getElem?_eq_getElem h]; rfl
    have cput := put_ok (s := 0) (xs := []) (o := false) (b := []) rfl (.inr rfl) p.length (by omega) (by simp)
    rw [List.nil_append] at cput
    simp only [setA, chV, lendA, lend]
    generalize hA : [84, 83, 81, 49] ++ pre.flatMap blkW = A at *
    have hAl : A.length ≤ 13000 * 1000000 + 4 := by rw [← hA]; simp only [List.length_append, List.length_cons, List.length_nil]; omega
    first | refine pwp_sr ?_ | refine pwp_regionM ?_
    intro K hK
    simp (disch := first | (refine Ok.mk ?_; (try simp only [Lm, La, Lc, Ln, Lt, Ld, Lr, Li, true_or, or_true, true_and, and_true]); omega) | (simp <;> fail) | skip) [runM_nil, d_b3_b2, Ne.symm d_b3_b2, d_b4_b2, Ne.symm d_b4_b2, d_b4_b3, Ne.symm d_b4_b3, d_b5_b2, Ne.symm d_b5_b2, d_b5_b3, Ne.symm d_b5_b3, d_b5_b4, Ne.symm d_b5_b4]
    refine hK _ _ ?_
    clear hK K
    refine ⟨rfl, ?_⟩
    refine pwp_block ?_
    first | refine pwp_sr ?_ | refine pwp_regionM ?_
    intro K hK
    simp (disch := first | (refine Ok.mk ?_; (try simp only [Lm, La, Lc, Ln, Lt, Ld, Lr, Li, true_or, or_true, true_and, and_true]); omega) | (simp <;> fail) | skip) [runM_nil, hrl, d_b3_b2, Ne.symm d_b3_b2, d_b4_b2, Ne.symm d_b4_b2, d_b4_b3, Ne.symm d_b4_b3, d_b5_b2, Ne.symm d_b5_b2, d_b5_b3, Ne.symm d_b5_b3, d_b5_b4, Ne.symm d_b5_b4]
    refine useP (cput) ?_
    simp (disch := first | (refine Ok.mk ?_; (try simp only [Lm, La, Lc, Ln, Lt, Ld, Lr, Li, true_or, or_true, true_and, and_true]); omega) | (simp <;> fail) | skip) [runM_nil, hrl, d_b3_b2, Ne.symm d_b3_b2, d_b4_b2, Ne.symm d_b4_b2, d_b4_b3, Ne.symm d_b4_b3, d_b5_b2, Ne.symm d_b5_b2, d_b5_b3, Ne.symm d_b5_b3, d_b5_b4, Ne.symm d_b5_b4]
    refine hK _ _ ?_
    clear hK K
    refine pwp_seq (pwp_seq ?_)
    first | refine pwp_sr ?_ | refine pwp_regionM ?_
    intro K hK
    simp (disch := first | (refine Ok.mk ?_; (try simp only [Lm, La, Lc, Ln, Lt, Ld, Lr, Li, true_or, or_true, true_and, and_true]); omega) | (simp <;> fail) | skip) [runM_nil, hrl, d_b3_b2, Ne.symm d_b3_b2, d_b4_b2, Ne.symm d_b4_b2, d_b4_b3, Ne.symm d_b4_b3, d_b5_b2, Ne.symm d_b5_b2, d_b5_b3, Ne.symm d_b5_b3, d_b5_b4, Ne.symm d_b5_b4]
    refine hK _ _ ?_
    clear hK K
    refine pwp_block ?_
    have es0 : rowSt p 0 = vb p.length := by simp [rowSt]
    refine pwp_loopK [2, 3, 4, 5, 6, 7, 20, 21, 22] (fun m st H2 => ∃ i : Nat, i ≤ p.length ∧ (∀ r ∈ p.take i, okR r = true) ∧ m = p.length - i ∧ H2 = (b5, [.lst 1 (tbl.map u32) false]) :: (b4, [bV A ow]) :: (b3, [.int .i64 0]) :: (b2, [.lst 0 [] true]) :: H ∧
        st = MS 53 [(2, .ptr (some (b2, 0))), (3, .ptr (some (b3, 0))), (4, .ptr (some (b4, 0))), (5, .ptr (some (b5, 0))), (6, .lst 1 (rowsC p) false), (7, bV (rowSt p i) true), (20, .lst 1 (rowsC p) false), (21, .int .i64 p.length), (22, .int .i64 i)]) (n := p.length)
      ⟨_, .refl _, 0, by omega, by simp, rfl, rfl, by simp [keepL_MS, keepA, getS, es0]⟩ ?_
    rintro m st _ ⟨i, hi, hoki, rfl, rfl, rfl⟩
    have hsl := rowS_len (p := p) (by omega) i hi hoki
    by_cases hlt2 : i < p.length
    · have hg := hge i hlt2
      have hrp := hr p[i] (hmem p hp _ (List.getElem_mem hlt2))
      have cp := isPair_ok p[i] hrp (o := false)
      have hbad2 := hbad2 p hp p[i] (List.getElem_mem hlt2)
      have hoki2 : okR p[i] = true → ∀ r ∈ p.take (i + 1), okR r = true := fun h r hr => by
        rw [List.take_succ_eq_append_getElem hlt2] at hr
        rcases List.mem_append.1 hr with hr | hr
        · exact hoki r hr
        · rw [List.mem_singleton.1 hr]; exact h
      have hsu := fun k v => rowSt_succ hlt2 (k := k) (v := v)
      generalize p[i] = r at *
      first | refine pwp_sr ?_ | refine pwp_regionM ?_
      intro K hK
      simp (disch := first | (refine Ok.mk ?_; (try simp only [Lm, La, Lc, Ln, Lt, Ld, Lr, Li, true_or, or_true, true_and, and_true]); omega) | (simp <;> fail) | skip) [runM_nil, d_b3_b2, Ne.symm d_b3_b2, d_b4_b2, Ne.symm d_b4_b2, d_b4_b3, Ne.symm d_b4_b3, d_b5_b2, Ne.symm d_b5_b2, d_b5_b3, Ne.symm d_b5_b3, d_b5_b4, Ne.symm d_b5_b4]
      refine hK _ _ ?_
      clear hK K
      refine pwp_seq (pwp_cT (by simp [hlt2]) (pwp_skip ?_))
      refine pwp_seq (pwp_block ?_)
      first | refine pwp_sr ?_ | refine pwp_regionM ?_
      intro K hK
      simp (disch := first | (refine Ok.mk ?_; (try simp only [Lm, La, Lc, Ln, Lt, Ld, Lr, Li, true_or, or_true, true_and, and_true]); omega) | (simp <;> fail) | skip) [runM_nil, hg, hrl, d_b3_b2, Ne.symm d_b3_b2, d_b4_b2, Ne.symm d_b4_b2, d_b4_b3, Ne.symm d_b4_b3, d_b5_b2, Ne.symm d_b5_b2, d_b5_b3, Ne.symm d_b5_b3, d_b5_b4, Ne.symm d_b5_b4]
      refine hK _ _ ?_
      clear hK K
      cases hk : okR r with
      | false =>
        rw [hk] at cp
        first | refine pwp_rif ?_ | refine pwp_rifE ?_
        intro K hK
        simp (disch := first | (refine Ok.mk ?_; (try simp only [Lm, La, Lc, Ln, Lt, Ld, Lr, Li, true_or, or_true, true_and, and_true]); omega) | (simp <;> fail) | skip) [runM_nil, d_b3_b2, Ne.symm d_b3_b2, d_b4_b2, Ne.symm d_b4_b2, d_b4_b3, Ne.symm d_b4_b3, d_b5_b2, Ne.symm d_b5_b2, d_b5_b3, Ne.symm d_b5_b3, d_b5_b4, Ne.symm d_b5_b4]
        refine useP (cp) ?_
        simp (disch := first | (refine Ok.mk ?_; (try simp only [Lm, La, Lc, Ln, Lt, Ld, Lr, Li, true_or, or_true, true_and, and_true]); omega) | (simp <;> fail) | skip) [runM_nil, d_b3_b2, Ne.symm d_b3_b2, d_b4_b2, Ne.symm d_b4_b2, d_b4_b3, Ne.symm d_b4_b3, d_b5_b2, Ne.symm d_b5_b2, d_b5_b3, Ne.symm d_b5_b3, d_b5_b4, Ne.symm d_b5_b4]
        refine hK _ _ ?_
        clear hK K
        refine ifT (by simp (disch := first | (refine Ok.mk ?_; (try simp only [Lm, La, Lc, Ln, Lt, Ld, Lr, Li, true_or, or_true, true_and, and_true]); omega) | (simp <;> fail) | skip) [runM_nil]) ?_
        first | refine pwp_sr ?_ | refine pwp_regionM ?_
        intro K hK
        simp (disch := first | (refine Ok.mk ?_; (try simp only [Lm, La, Lc, Ln, Lt, Ld, Lr, Li, true_or, or_true, true_and, and_true]); omega) | (simp <;> fail) | skip) [runM_nil, d_b3_b2, Ne.symm d_b3_b2, d_b4_b2, Ne.symm d_b4_b2, d_b4_b3, Ne.symm d_b4_b3, d_b5_b2, Ne.symm d_b5_b2, d_b5_b3, Ne.symm d_b5_b3, d_b5_b4, Ne.symm d_b5_b4]
        refine hK _ _ ?_
        clear hK K
        exact pwp_ret (.inr ⟨by simp, rfl, hbad2 hk, _, _, rfl⟩)
      | true =>
        rw [hk] at cp
        obtain ⟨k, v, rfl, hk1, hv1⟩ := okR_iff.1 hk
        have hsu := hsu k v rfl
        have c2 := pair_ok (s := 1) (xs := (rowSt p i).map u8) (o := false) rfl (.inl rfl) k v (by omega)
        rw [← hsu] at c2
        have hoki2 := hoki2 hk
        generalize rowSt p i = T at *
        generalize hT2 : rowSt p (i + 1) = T2 at *
        first | refine pwp_rif ?_ | refine pwp_rifE ?_
        intro K hK
        simp (disch := first | (refine Ok.mk ?_; (try simp only [Lm, La, Lc, Ln, Lt, Ld, Lr, Li, true_or, or_true, true_and, and_true]); omega) | (simp <;> fail) | skip) [runM_nil, d_b3_b2, Ne.symm d_b3_b2, d_b4_b2, Ne.symm d_b4_b2, d_b4_b3, Ne.symm d_b4_b3, d_b5_b2, Ne.symm d_b5_b2, d_b5_b3, Ne.symm d_b5_b3, d_b5_b4, Ne.symm d_b5_b4]
        refine useP (cp) ?_
        simp (disch := first | (refine Ok.mk ?_; (try simp only [Lm, La, Lc, Ln, Lt, Ld, Lr, Li, true_or, or_true, true_and, and_true]); omega) | (simp <;> fail) | skip) [runM_nil, d_b3_b2, Ne.symm d_b3_b2, d_b4_b2, Ne.symm d_b4_b2, d_b4_b3, Ne.symm d_b4_b3, d_b5_b2, Ne.symm d_b5_b2, d_b5_b3, Ne.symm d_b5_b3, d_b5_b4, Ne.symm d_b5_b4]
        refine hK _ _ ?_
        clear hK K
        refine ifF (by simp (disch := first | (refine Ok.mk ?_; (try simp only [Lm, La, Lc, Ln, Lt, Ld, Lr, Li, true_or, or_true, true_and, and_true]); omega) | (simp <;> fail) | skip) [runM_nil]) (pwp_skip ?_)
        first | refine pwp_sd hmix ?_ | refine pwp_drawM hmix ?_
        intro K hK
        simp (disch := first | (refine Ok.mk ?_; (try simp only [Lm, La, Lc, Ln, Lt, Ld, Lr, Li, true_or, or_true, true_and, and_true]); omega) | (simp <;> fail) | skip) [runM_nil, sV, d_b3_b2, Ne.symm d_b3_b2, d_b4_b2, Ne.symm d_b4_b2, d_b4_b3, Ne.symm d_b4_b3, d_b5_b2, Ne.symm d_b5_b2, d_b5_b3, Ne.symm d_b5_b3, d_b5_b4, Ne.symm d_b5_b4]
        refine useD (c2) ?_
        simp (disch := first | (refine Ok.mk ?_; (try simp only [Lm, La, Lc, Ln, Lt, Ld, Lr, Li, true_or, or_true, true_and, and_true]); omega) | (simp <;> fail) | skip) [runM_nil, sV, d_b3_b2, Ne.symm d_b3_b2, d_b4_b2, Ne.symm d_b4_b2, d_b4_b3, Ne.symm d_b4_b3, d_b5_b2, Ne.symm d_b5_b2, d_b5_b3, Ne.symm d_b5_b3, d_b5_b4, Ne.symm d_b5_b4]
        refine hK _ _ ?_
        clear hK K
        first | refine pwp_sr ?_ | refine pwp_regionM ?_
        intro K hK
        simp (disch := first | (refine Ok.mk ?_; (try simp only [Lm, La, Lc, Ln, Lt, Ld, Lr, Li, true_or, or_true, true_and, and_true]); omega) | (simp <;> fail) | skip) [runM_nil, d_b3_b2, Ne.symm d_b3_b2, d_b4_b2, Ne.symm d_b4_b2, d_b4_b3, Ne.symm d_b4_b3, d_b5_b2, Ne.symm d_b5_b2, d_b5_b3, Ne.symm d_b5_b3, d_b5_b4, Ne.symm d_b5_b4]
        refine hK _ _ ?_
        clear hK K
        exact ⟨p.length - (i + 1), by omega, _, .refl _, i + 1, by omega, hoki2, rfl, rfl, by simp [keepL_MS, keepA, getS, hT2]⟩
    · obtain rfl : i = p.length := by omega
      have e : rowSt p p.length = rowS p := by unfold rowSt rowS; rw [List.take_length]
      rw [e] at hsl ⊢
      rw [List.take_length] at hoki
      have hrw : ∀ x ∈ rowS p, x < 256 := by
        intro x hx
        unfold rowS at hx
        rcases List.mem_append.1 hx with hx | hx
        · exact vb_lt _ x hx
        · obtain ⟨r, hr, hx⟩ := List.mem_flatMap.1 hx
          obtain ⟨k, v, rfl, _, _⟩ := okR_iff.1 (hoki r hr)
          have hkw := hw _ (hmem p hp _ hr) k (by simp)
          have hvw := hw _ (hmem p hp _ hr) v (by simp)
          simp only [List.getD_cons_zero, List.getD_cons_succ, List.mem_append] at hx
          rcases hx with ((hx | hx) | hx) | hx
          · exact vb_lt _ x hx
          · exact hkw x hx
          · exact vb_lt _ x hx
          · exact hvw x hx
      have cse := seal_ok tbl_length tbl_lt (ot := false) (o := false) (s := 1) (xs := (rowS p).map u8) rfl (.inl rfl) hrw (by omega)
      have hZl := sealed_length tbl (rowS p)
      have hZw := sealed_lt tbl hrw
      have hblk : blkW p = 255 :: 83 :: escB (sealed tbl (rowS p)) := rfl
      have hAp : [84, 83, 81, 49] ++ (pre ++ [p]).flatMap blkW = A ++ 255 :: 83 :: escB (sealed tbl (rowS p)) := by rw [← hA, List.flatMap_append, List.append_assoc, ← hblk]; simp
      generalize rowS p = Rw at *
      generalize sealed tbl Rw = Z at *
      have ces := escape_ok (s := 1) (xs := Z.map u8) (o := false) rfl (.inl rfl) hZw (by omega)
      have hEl := escB_len Z
      generalize escB Z = E at *
      have cc := concat_ok (es := [bV A false, .lst 1 [.int .u8 255, .int .u8 83] false, bV E false]) (o := false) [(1, A), (1, [255, 83]), (1, E)] rfl (by simp) (by simp) (by simp; omega)
      have hcc : [(1, A), (1, [255, 83]), (1, E)].flatMap (·.2) = A ++ 255 :: 83 :: E := by simp
      rw [hcc] at cc
      have hok2 : ∀ q ∈ pre ++ [p], ∀ r ∈ q, okR r = true := fun q hq => (List.mem_append.1 hq).elim (hok q) fun h => by rw [List.mem_singleton.1 h]; exact hoki
      have hpC2 : ∀ q ∈ pre ++ [p], q ∈ C := fun q hq => (List.mem_append.1 hq).elim (hpC q) fun h => by rw [List.mem_singleton.1 h]; exact hp
      rw [← hAp] at cc
      generalize [84, 83, 81, 49] ++ (pre ++ [p]).flatMap blkW = A2 at *
      first | refine pwp_sr ?_ | refine pwp_regionM ?_
      intro K hK
      simp (disch := first | (refine Ok.mk ?_; (try simp only [Lm, La, Lc, Ln, Lt, Ld, Lr, Li, true_or, or_true, true_and, and_true]); omega) | (simp <;> fail) | skip) [runM_nil, d_b3_b2, Ne.symm d_b3_b2, d_b4_b2, Ne.symm d_b4_b2, d_b4_b3, Ne.symm d_b4_b3, d_b5_b2, Ne.symm d_b5_b2, d_b5_b3, Ne.symm d_b5_b3, d_b5_b4, Ne.symm d_b5_b4]
      refine hK _ _ ?_
      clear hK K
      refine pwp_seq (pwp_cF (by simp) (pwp_exit ?_))
      first | refine pwp_sr ?_ | refine pwp_regionM ?_
      intro K hK
      simp (disch := first | (refine Ok.mk ?_; (try simp only [Lm, La, Lc, Ln, Lt, Ld, Lr, Li, true_or, or_true, true_and, and_true]); omega) | (simp <;> fail) | skip) [runM_nil, d_b3_b2, Ne.symm d_b3_b2, d_b4_b2, Ne.symm d_b4_b2, d_b4_b3, Ne.symm d_b4_b3, d_b5_b2, Ne.symm d_b5_b2, d_b5_b3, Ne.symm d_b5_b3, d_b5_b4, Ne.symm d_b5_b4]
      refine useP (cse) ?_
      simp (disch := first | (refine Ok.mk ?_; (try simp only [Lm, La, Lc, Ln, Lt, Ld, Lr, Li, true_or, or_true, true_and, and_true]); omega) | (simp <;> fail) | skip) [runM_nil, d_b3_b2, Ne.symm d_b3_b2, d_b4_b2, Ne.symm d_b4_b2, d_b4_b3, Ne.symm d_b4_b3, d_b5_b2, Ne.symm d_b5_b2, d_b5_b3, Ne.symm d_b5_b3, d_b5_b4, Ne.symm d_b5_b4]
      refine hK _ _ ?_
      clear hK K
      first | refine pwp_ss hmix ?_ | refine pwp_drawS hmix ?_
      intro K hK
      simp (disch := first | (refine Ok.mk ?_; (try simp only [Lm, La, Lc, Ln, Lt, Ld, Lr, Li, true_or, or_true, true_and, and_true]); omega) | (simp <;> fail) | skip) [runM_nil, planS_nil, d_b3_b2, Ne.symm d_b3_b2, d_b4_b2, Ne.symm d_b4_b2, d_b4_b3, Ne.symm d_b4_b3, d_b5_b2, Ne.symm d_b5_b2, d_b5_b3, Ne.symm d_b5_b3, d_b5_b4, Ne.symm d_b5_b4]
      refine useDS (ces) ?_
      simp (disch := first | (refine Ok.mk ?_; (try simp only [Lm, La, Lc, Ln, Lt, Ld, Lr, Li, true_or, or_true, true_and, and_true]); omega) | (simp <;> fail) | skip) [runM_nil, planS_nil, d_b3_b2, Ne.symm d_b3_b2, d_b4_b2, Ne.symm d_b4_b2, d_b4_b3, Ne.symm d_b4_b3, d_b5_b2, Ne.symm d_b5_b2, d_b5_b3, Ne.symm d_b5_b3, d_b5_b4, Ne.symm d_b5_b4]
      refine useDS (cc) ?_
      simp (disch := first | (refine Ok.mk ?_; (try simp only [Lm, La, Lc, Ln, Lt, Ld, Lr, Li, true_or, or_true, true_and, and_true]); omega) | (simp <;> fail) | skip) [runM_nil, planS_nil, d_b3_b2, Ne.symm d_b3_b2, d_b4_b2, Ne.symm d_b4_b2, d_b4_b3, Ne.symm d_b4_b3, d_b5_b2, Ne.symm d_b5_b2, d_b5_b3, Ne.symm d_b5_b3, d_b5_b4, Ne.symm d_b5_b4]
      refine hK _ _ ?_
      clear hK K
      exact .inl ⟨rfl, hpC2, hok2, true, .refl _⟩
  · rintro H' ⟨_, hok, ow, hsub⟩
    refine pwp_drop hsub ?_
    rw [hgood hok, hfile]
    generalize [84, 83, 81, 49] ++ C.flatMap blkW = A at *
    first | refine pwp_sr ?_ | refine pwp_regionM ?_
    intro K hK
    simp (disch := first | (refine Ok.mk ?_; (try simp only [Lm, La, Lc, Ln, Lt, Ld, Lr, Li, true_or, or_true, true_and, and_true]); omega) | (simp <;> fail) | skip) [runM_nil, d_b3_b2, Ne.symm d_b3_b2, d_b4_b2, Ne.symm d_b4_b2, d_b4_b3, Ne.symm d_b4_b3, d_b5_b2, Ne.symm d_b5_b2, d_b5_b3, Ne.symm d_b5_b3, d_b5_b4, Ne.symm d_b5_b4]
    refine hK _ _ ?_
    clear hK K
    refine pwp_ret (And.intro (.inr rfl) ⟨_, _, _, (by simp [runM_nil, resL, d_b3_b2, Ne.symm d_b3_b2, d_b4_b2, Ne.symm d_b4_b2, d_b4_b3, Ne.symm d_b4_b3, d_b5_b2, Ne.symm d_b5_b2, d_b5_b3, Ne.symm d_b5_b3, d_b5_b4, Ne.symm d_b5_b4]; rfl), (.cons _ (.cons _ (.cons _ (.cons _ (.refl _))))), Up_refl _ _, false, (by simp [resV]), rfl⟩)
  · rintro pre e H' _ _ ⟨rfl, hb, X, Y, rfl⟩
    rw [hbad hb]
    refine (And.intro (.inr rfl) ⟨_, _, _, (by simp [runM_nil, resL, d_b3_b2, Ne.symm d_b3_b2, d_b4_b2, Ne.symm d_b4_b2, d_b4_b3, Ne.symm d_b4_b3, d_b5_b2, Ne.symm d_b5_b2, d_b5_b3, Ne.symm d_b5_b3, d_b5_b4, Ne.symm d_b5_b4]; rfl), (.cons _ (.cons _ (.cons _ (.cons _ (.refl _))))), (show Up true _ (.tup [.lst 1 [] false, .int .i64 10]) by simp [resV]), false, (by simp), rfl⟩)
end Go.Proofs.YtjcjbpbkakfjdaaDoor.E
/- A split's blocks are those of the right part that begin in it. -/
namespace Go.Proofs.YtjcjbpbkakfjdaaDoor.E
open Go Go.RowKit Go.Proofs
set_option linter.unusedVariables false
set_option linter.unusedSimpArgs false
theorem mkB_mid {b : List Nat} : ∀ (d k f : Nat), f = k + d → f ≤ mkB b k → mkB b f = mkB b k
  | 0, k, f, h, _ => by rw [h]; rfl
  | d + 1, k, f, h, hle => by
    have h1 := (mkB_le b k).1
    have hn : ¬ [255, 83].isPrefixOf (b.drop k) = true := fun hp => by rw [mkB_here hp] at hle; omega
    have h2 := mkB_next (show k < b.length by omega) hn
    rw [h2] at hle ⊢
    exact mkB_mid d (k + 1) f (by omega) hle
theorem blkB_pre {b : List Nat} {k : Nat} (h : (blkB b k).2.2.2 = 0) : [255, 83].isPrefixOf (b.drop k) = true ∧ (blkB b k).2.2.1 = mkB b (k + 2) := by
  unfold blkB at *
  by_cases h0 : [255, 83].isPrefixOf (b.drop k) = false
  · rw [if_pos h0] at h; cases h
  · rw [if_neg h0] at h ⊢
    refine ⟨by simpa using h0, ?_⟩
    by_cases h1 : (unaB (rawB b k)).2 ≠ 0
    · rw [if_pos h1] at h; exact absurd h h1
    · rw [if_neg h1] at h ⊢
      by_cases h2 : (opened tbl (unaB (rawB b k)).1).2 ≠ 0
      · rw [if_pos h2] at h; exact absurd h h2
      · rw [if_neg h2]
theorem mkB_in {b : List Nat} {k f : Nat} (hp : [255, 83].isPrefixOf (b.drop k) = true) (h1 : k < f) (h2 : f ≤ mkB b (k + 2)) : mkB b f = mkB b (k + 2) := by
  by_cases h : f = k + 1
  · subst h
    obtain ⟨hl, _, h83⟩ := pre2_iff.1 hp
    refine mkB_next hl fun h => ?_
    obtain ⟨_, h255, _⟩ := pre2_iff.1 h
    omega
  · exact mkB_mid (f - (k + 2)) (k + 2) f (by omega) h2
theorem head_mk {b : List Nat} (h : [84, 83, 81, 49].isPrefixOf b = true) {f : Nat} (hf : f ≤ 4) : mkB b f = mkB b 4 := by
  obtain ⟨t, rfl⟩ := List.isPrefixOf_iff_prefix.1 h
  have nx : ∀ k, k < 4 → mkB ([84, 83, 81, 49] ++ t) k = mkB ([84, 83, 81, 49] ++ t) (k + 1) := fun k hk => by
    refine mkB_next (by simp; omega) fun hp => ?_
    obtain ⟨_, h1, _⟩ := pre2_iff.1 hp
    match k, hk with
    | 0, _ => simp at h1
    | 1, _ => simp at h1
    | 2, _ => simp at h1
    | 3, _ => simp at h1
  match f, hf with
  | 0, _ => rw [nx 0 (by omega), nx 1 (by omega), nx 2 (by omega), nx 3 (by omega)]
  | 1, _ => rw [nx 1 (by omega), nx 2 (by omega), nx 3 (by omega)]
  | 2, _ => rw [nx 2 (by omega), nx 3 (by omega)]
  | 3, _ => rw [nx 3 (by omega)]
  | 4, _ => rfl
def RcG (r : Rc) : Prop := okR r = true ∧ ∀ t ∈ r, ∀ x ∈ t, x < 256
theorem RcG.two {r : Rc} (h : RcG r) : r.length = 2 := by
  obtain ⟨k, v, rfl, _⟩ := okR_iff.1 h.1
  rfl
end Go.Proofs.YtjcjbpbkakfjdaaDoor.E
/- The records of pieces; the same pieces; the document's split; the live question. -/
namespace Go.Proofs.YtjcjbpbkakfjdaaDoor.E
open Go Go.RowKit Go.Proofs
set_option linter.unusedVariables false
set_option linter.unusedSimpArgs false
end Go.Proofs.YtjcjbpbkakfjdaaDoor.E
/- The live question. -/
namespace Go.Proofs.YtjcjbpbkakfjdaaDoor.E
open Go Go.RowKit Go.Proofs
set_option linter.unusedVariables false
set_option linter.unusedSimpArgs false
def Z7 : List Nat := fileS [[[97], [255, 83]]]
theorem wrS_alive : wrS [[[97], [255, 83]]] = (Z7, 0) := by
  unfold wrS
  rw [if_pos (by decide)]
  rfl
theorem scanS_alive : scanS Z7 = ([(4, [[[97], [255, 83]]])], Z7.length, 0) := by decide +kernel
theorem alive_w : ∃ Z : List Nat, wrS [[[97], [255, 83]]] = (Z, 0) ∧ scanS Z = ([(4, [[[97], [255, 83]]])], Z.length, 0) ∧ Z.length ≤ 100 ∧ ∀ x ∈ Z, x < 256 :=
  ⟨Z7, wrS_alive, scanS_alive, by decide +kernel, by decide +kernel⟩
theorem alive_nil : wrS [] = ([84, 83, 81, 49], 0) := by decide +kernel
theorem alive_in : ∀ r ∈ [[[97], [255, 83]]], ∀ t ∈ r, ∀ x ∈ t, x < 256 := by decide
theorem alive_ok : PSpec Tryd.prog 10 [] (.bool true) := by
  intro H
  have c1 := write_ok (l := []) (s := 0) (xs := []) (o := false) rfl (.inr rfl) (by simp) (by simp) (by simp)
  obtain ⟨Z, e2, e3, hzl, hzw⟩ := alive_w
  have c2 := write_ok (l := [[[97], [255, 83]]]) (s := 1) (xs := rowsC [[[97], [255, 83]]]) (o := false) rfl (.inl rfl) (by simp) (by simp) alive_in
  have c3 := scan_ok (s := 1) (xs := Z.map u8) (o := false) (b := Z) rfl (.inl rfl) hzw (by omega)
  rw [alive_nil] at c1
  rw [e2] at c2
  rw [e3] at c3
  clear e2 e3
  simp only [scW, scWo, rowsC, sV, ci, pcW, List.map_cons, List.map_nil, Int.cast_ofNat_Int] at c2 c3
  dsimp only at c1 c2 c3
  refine spec_of t10 (by simp [p10]) ?_
  simp only [p10]
  first | refine pwp_sr ?_ | refine pwp_regionM ?_
  intro K hK
  simp (disch := first | (refine Ok.mk ?_; (try simp only [Lm, La, Lc, Ln, Lt, Ld, Lr, Li, true_or, or_true, true_and, and_true]); omega) | (simp <;> fail) | skip) [runM_nil]
  refine hK _ _ ?_
  clear hK K
  first | refine pwp_sr ?_ | refine pwp_regionM ?_
  intro K hK
  simp (disch := first | (refine Ok.mk ?_; (try simp only [Lm, La, Lc, Ln, Lt, Ld, Lr, Li, true_or, or_true, true_and, and_true]); omega) | (simp <;> fail) | skip) [runM_nil]
  refine useP (c1) ?_
  simp (disch := first | (refine Ok.mk ?_; (try simp only [Lm, La, Lc, Ln, Lt, Ld, Lr, Li, true_or, or_true, true_and, and_true]); omega) | (simp <;> fail) | skip) [runM_nil]
  refine hK _ _ ?_
  clear hK K
  first | refine pwp_sr ?_ | refine pwp_regionM ?_
  intro K hK
  simp (disch := first | (refine Ok.mk ?_; (try simp only [Lm, La, Lc, Ln, Lt, Ld, Lr, Li, true_or, or_true, true_and, and_true]); omega) | (simp <;> fail) | skip) [runM_nil]
  refine useP (c2) ?_
  simp (disch := first | (refine Ok.mk ?_; (try simp only [Lm, La, Lc, Ln, Lt, Ld, Lr, Li, true_or, or_true, true_and, and_true]); omega) | (simp <;> fail) | skip) [runM_nil]
  refine hK _ _ ?_
  clear hK K
  first | refine pwp_sr ?_ | refine pwp_regionM ?_
  intro K hK
  simp (disch := first | (refine Ok.mk ?_; (try simp only [Lm, La, Lc, Ln, Lt, Ld, Lr, Li, true_or, or_true, true_and, and_true]); omega) | (simp <;> fail) | skip) [runM_nil]
  refine useP (c3) ?_
  simp (disch := first | (refine Ok.mk ?_; (try simp only [Lm, La, Lc, Ln, Lt, Ld, Lr, Li, true_or, or_true, true_and, and_true]); omega) | (simp <;> fail) | skip) [runM_nil]
  refine hK _ _ ?_
  clear hK K
  have hcv : cvSP (.lst 1 [.int .u8 84, .int .u8 83, .int .u8 81, .int .u8 49] false) = some (.str [84, 83, 81, 49]) := rfl
  refine pwp_kept (keep := [1, 2, 3, 4, 5, 6, 7]) (by simp [keepA, getS]; rfl) ?_
  first | refine pwp_sr ?_ | refine pwp_regionM ?_
  intro K hK
  simp (disch := first | (refine Ok.mk ?_; (try simp only [Lm, La, Lc, Ln, Lt, Ld, Lr, Li, true_or, or_true, true_and, and_true]); omega) | (simp <;> fail) | skip) [runM_nil, strP, hcv]
  refine hK _ _ ?_
  clear hK K
  refine pwp_ret ⟨.inr rfl, _, _, (by simp (disch := first | (refine Ok.mk ?_; (try simp only [Lm, La, Lc, Ln, Lt, Ld, Lr, Li, true_or, or_true, true_and, and_true]); omega) | (simp <;> fail) | skip) [runM_nil, resL]; rfl), .refl _, by simp (disch := first | (refine Ok.mk ?_; (try simp only [Lm, La, Lc, Ln, Lt, Ld, Lr, Li, true_or, or_true, true_and, and_true]); omega) | (simp <;> fail) | skip) [resV], rfl⟩
end Go.Proofs.YtjcjbpbkakfjdaaDoor.E
/- What was written is read, in plain terms. -/
namespace Go.Proofs.YtjcjbpbkakfjdaaDoor.E
open Go Go.RowKit Go.Proofs
set_option linter.unusedVariables false
set_option linter.unusedSimpArgs false
theorem una_ne {a : Nat} (h : a ≠ 255) : ∀ l : List Nat, una (a :: l) = (una l).map (a :: ·)
  | [] => by simp [una, h]
  | c :: l => by rw [una, if_neg h]
theorem una_esc : ∀ b : List Nat, una (b.flatMap esc1) = some b
  | [] => rfl
  | a :: b => by
    have ih := una_esc b
    rw [List.flatMap_cons]
    have e : esc1 a = if a = 255 then [255, 0] else [a] := rfl
    rw [e]
    by_cases ha : a = 255
    · subst ha
      rw [if_pos rfl]
      rw [List.cons_append, List.cons_append, List.nil_append]
      rw [una, if_pos rfl, if_pos rfl, ih]
      rfl
    · rw [if_neg ha]
      rw [List.singleton_append]
      rw [una_ne ha, ih]
      rfl
theorem unaB_esc (b : List Nat) : unaB (escB b) = (b, 0) := by rw [escB_flat]; exact unaB_some (una_esc b)
def MkR (r : List Nat) : Prop := r = [] ∨ [255, 83].isPrefixOf r = true
theorem dist_esc {r : List Nat} (hr : MkR r) : ∀ b : List Nat, dist [255, 83] (b.flatMap esc1 ++ r) = (b.flatMap esc1).length
  | [] => by
    rw [List.flatMap_nil, List.nil_append]
    rcases hr with rfl | hr
    · rfl
    · cases r with
      | nil => cases hr
      | cons a r => rw [dist, if_pos hr]; rfl
  | a :: b => by
    have ih := dist_esc hr b
    rw [List.flatMap_cons, List.append_assoc]
    have e : esc1 a = if a = 255 then [255, 0] else [a] := rfl
    rw [e]
    by_cases ha : a = 255
    · subst ha
      rw [if_pos rfl]
      rw [List.cons_append, List.cons_append, List.nil_append]
      rw [dist, if_neg (by simp), dist, if_neg (by simp), ih]
      simp
    · rw [if_neg ha]
      rw [List.singleton_append]
      rw [dist, if_neg (by simpa using fun h => absurd h.symm ha), ih]
      simp
theorem vframe_put (t r : List Nat) (ht : t.length ≤ 1000) : vframe (vb t.length ++ t ++ r) 1000 = (t, r, 0) := by
  have h := vtake_vb (n := t.length) (by omega) (t ++ r)
  unfold vframe
  rw [List.append_assoc, h]
  dsimp only
  rw [if_neg (by simp), if_neg (by omega), if_neg (by simp)]
  simp
theorem vpair_put (k v r : List Nat) (hk : k.length ≤ 1000) (hv : v.length ≤ 1000) : vpair (vb k.length ++ k ++ vb v.length ++ v ++ r) = ((k, v), r, 0) := by
  have e : vb k.length ++ k ++ vb v.length ++ v ++ r = vb k.length ++ k ++ (vb v.length ++ v ++ r) := by simp only [List.append_assoc]
  have h1 := vframe_put k (vb v.length ++ v ++ r) hk
  have h2 := vframe_put v r hv
  unfold vpair
  rw [e, h1]
  dsimp only
  rw [h2]
  simp
def prs (p : List Rc) : List Nat := p.flatMap fun r => vb (r.getD 0 []).length ++ r.getD 0 [] ++ vb (r.getD 1 []).length ++ r.getD 1 []
theorem recL_put : ∀ (p acc : List Rc), (∀ r ∈ p, okR r = true) → recL p.length acc (prs p) = (acc ++ p, [], 0)
  | [], acc, _ => by simp [recL, prs]
  | r :: p, acc, h => by
    obtain ⟨k, v, rfl, hk, hv⟩ := okR_iff.1 (h r (List.mem_cons_self ..))
    have e : prs ([k, v] :: p) = vb k.length ++ k ++ vb v.length ++ v ++ prs p := by simp [prs]
    rw [List.length_cons, recL, e, vpair_put k v _ hk hv, if_neg (by simp)]
    dsimp only
    rw [recL_put p _ fun r hr => h r (List.mem_cons_of_mem _ hr)]
    simp
theorem recsB_put {p : List Rc} (h : ∀ r ∈ p, okR r = true) (h1 : 1 ≤ p.length) (h3 : p.length ≤ 3) : recsB (rowS p) = (p, 0) := by
  have hv := vtake_vb (n := p.length) (by omega) (prs p)
  have e : rowS p = vb p.length ++ prs p := rfl
  unfold recsB
  rw [e, hv]
  dsimp only
  rw [if_neg (by omega), recL_put p [] h]
  simp
theorem blkB_put {pre r : List Nat} {p : List Rc} (h : ∀ r ∈ p, okR r = true) (h1 : 1 ≤ p.length) (h3 : p.length ≤ 3) (hr : MkR r) :
    blkB (pre ++ (blkW p ++ r)) pre.length = (pre.length, p, pre.length + (blkW p).length, 0) := by
  obtain ⟨Z, hZ⟩ : ∃ Z, Z = sealed tbl (rowS p) := ⟨_, rfl⟩
  have hw : blkW p = 255 :: 83 :: escB Z := by rw [hZ]; rfl
  have hd : (pre ++ (blkW p ++ r)).drop pre.length = 255 :: 83 :: (escB Z ++ r) := by rw [List.drop_left, hw]; rfl
  have hd2 : (pre ++ (blkW p ++ r)).drop (pre.length + 2) = escB Z ++ r := by rw [← List.drop_drop, hd]; rfl
  have hl : (pre ++ (blkW p ++ r)).length = pre.length + 2 + (escB Z).length + r.length := by rw [hw]; simp; omega
  have hm : mkB (pre ++ (blkW p ++ r)) (pre.length + 2) = pre.length + 2 + (escB Z).length := by
    unfold mkB
    rw [show min (pre.length + 2) (pre ++ (blkW p ++ r)).length = pre.length + 2 by omega, hd2]
    have := dist_esc hr Z
    rw [← escB_flat] at this
    rw [this]
  have hraw : rawB (pre ++ (blkW p ++ r)) pre.length = escB Z := by
    unfold rawB
    rw [hm, List.drop_take, hd2, show pre.length + 2 + (escB Z).length - (pre.length + 2) = (escB Z).length by omega, List.take_left]
  unfold blkB
  rw [hd, hraw, unaB_esc, hm]
  dsimp only
  rw [if_neg (by simp), if_neg (by simp), hZ, open_sealed]
  dsimp only
  rw [if_neg (by simp), recsB_put h h1 h3, ← hZ, hw]
  simp only [List.length_cons, Prod.mk.injEq, true_and, and_true]
  omega
theorem file_rest : ∀ C : List (List Rc), MkR (C.flatMap blkW)
  | [] => .inl rfl
  | p :: C => .inr (by rw [List.flatMap_cons]; simp [blkW])
theorem blks_put : ∀ (C : List (List Rc)) (pre : List Nat), (∀ p ∈ C, 1 ≤ p.length ∧ p.length ≤ 3 ∧ ∀ r ∈ p, okR r = true) →
    (blkAt (pre ++ C.flatMap blkW) pre.length).map (·.2.2) = C ∧ lastE pre.length (blkAt (pre ++ C.flatMap blkW) pre.length) = (pre ++ C.flatMap blkW).length
  | [], pre, _ => by
    rw [blkAt_stop (by simp)]
    simp [lastE]
  | p :: C, pre, h => by
    obtain ⟨h1, h3, hok⟩ := h p (List.mem_cons_self ..)
    have hb := blkB_put (pre := pre) (r := C.flatMap blkW) hok h1 h3 (file_rest C)
    have hl2 : 2 ≤ (blkW p).length := by simp [blkW]
    have hst := blkAt_step (b := pre ++ (blkW p ++ C.flatMap blkW)) (k := pre.length) (by simp only [List.length_append]; omega) (by rw [hb])
    rw [hb] at hst
    dsimp only at hst
    obtain ⟨i1, i2⟩ := blks_put C (pre ++ blkW p) fun q hq => h q (List.mem_cons_of_mem _ hq)
    rw [List.append_assoc, List.length_append] at i1 i2
    rw [List.flatMap_cons, hst]
    exact ⟨by rw [List.map_cons, i1], i2⟩
theorem chk_good {l : List Rc} (hok : l.all okR = true) : ∀ p ∈ chk 3 l, 1 ≤ p.length ∧ p.length ≤ 3 ∧ ∀ r ∈ p, okR r = true := fun p hp => by
  obtain ⟨c1, _⟩ := chk_facts (m := 3) (by omega) _ l (Nat.le_refl _)
  refine ⟨(c1 p hp).1, (c1 p hp).2, fun r hr => List.all_eq_true.1 hok r ?_⟩
  rw [← chk_flat (m := 3) (by omega) _ l (Nat.le_refl _)]
  exact List.mem_flatten.2 ⟨p, hp, hr⟩
theorem scan_file {l : List Rc} (hok : l.all okR = true) : (scanS (fileS l)).1.map (·.2) = chk 3 l ∧ (scanS (fileS l)).2.1 = (fileS l).length ∧ (scanS (fileS l)).2.2 = 0 ∧ scanS (fileS l) = ((blkAt (fileS l) 4).map (·.2), (fileS l).length, 0) ∧ lastE 4 (blkAt (fileS l) 4) = (fileS l).length := by
  obtain ⟨i1, i2⟩ := blks_put (chk 3 l) [84, 83, 81, 49] (chk_good hok)
  have hf : fileS l = [84, 83, 81, 49] ++ (chk 3 l).flatMap blkW := rfl
  rw [← hf] at i1 i2
  simp only [List.length_cons, List.length_nil] at i1 i2
  have hp : [84, 83, 81, 49].isPrefixOf (fileS l) = true := by rw [hf]; simp
  have hs : scanS (fileS l) = ((blkAt (fileS l) 4).map (·.2), (fileS l).length, 0) := by
    unfold scanS
    rw [if_pos hp]
    simp only [Nat.zero_add] at i2
    rw [i2, if_neg (by omega)]
  simp only [Nat.zero_add] at i1 i2
  rw [hs]
  exact ⟨by rw [List.map_map]; exact i1, rfl, rfl, rfl, i2⟩
end Go.Proofs.YtjcjbpbkakfjdaaDoor.E
/- Canonical files; there and back. -/
namespace Go.Proofs.YtjcjbpbkakfjdaaDoor.E
open Go Go.RowKit Go.Proofs
set_option linter.unusedVariables false
set_option linter.unusedSimpArgs false
theorem recW_mem {l : List Rc} {r : Rc} (h : r ∈ l) : recW r ≤ fewN l := by
  unfold fewN
  induction l with
  | nil => cases h
  | cons x l ih =>
    rw [List.map_cons, List.sum_cons]
    rcases List.mem_cons.1 h with rfl | h
    · omega
    · have := ih h; omega
theorem recW_len (r : Rc) : r.length ≤ recW r := by
  unfold recW
  induction r with
  | nil => simp
  | cons x l ih => rw [List.map_cons, List.sum_cons, List.length_cons]; omega
theorem rowS_w {p : List Rc} (hw : ∀ r ∈ p, ∀ t ∈ r, ∀ x ∈ t, x < 256) (hok : ∀ r ∈ p, okR r = true) : ∀ x ∈ rowS p, x < 256 := by
  intro x hx
  unfold rowS at hx
  rcases List.mem_append.1 hx with hx | hx
  · exact vb_lt _ x hx
  · obtain ⟨r, hr, hx⟩ := List.mem_flatMap.1 hx
    obtain ⟨k, v, rfl, _, _⟩ := okR_iff.1 (hok r hr)
    have hkw := hw _ hr k (by simp)
    have hvw := hw _ hr v (by simp)
    simp only [List.getD_cons_zero, List.getD_cons_succ, List.mem_append] at hx
    rcases hx with ((hx | hx) | hx) | hx
    · exact vb_lt _ x hx
    · exact hkw x hx
    · exact vb_lt _ x hx
    · exact hvw x hx
theorem escB_w {b : List Nat} (h : ∀ x ∈ b, x < 256) : ∀ x ∈ escB b, x < 256 := repW_lt (two_lt (by omega) (by omega)) _ b (Nat.le_refl _) h
theorem file_w {l : List Rc} (hw : ∀ r ∈ l, ∀ t ∈ r, ∀ x ∈ t, x < 256) (hok : l.all okR = true) : ∀ x ∈ fileS l, x < 256 := by
  intro x hx
  unfold fileS at hx
  rcases List.mem_append.1 hx with hx | hx
  · simp at hx; omega
  · obtain ⟨p, hp, hx⟩ := List.mem_flatMap.1 hx
    have hin : ∀ r ∈ p, r ∈ l := fun r hr => by
      rw [← chk_flat (m := 3) (by omega) _ l (Nat.le_refl _)]
      exact List.mem_flatten.2 ⟨p, hp, hr⟩
    unfold blkW at hx
    rcases List.mem_cons.1 hx with rfl | hx
    · omega
    · rcases List.mem_cons.1 hx with rfl | hx
      · omega
      · exact escB_w (sealed_lt tbl (rowS_w (fun r hr => hw r (hin r hr)) fun r hr => List.all_eq_true.1 hok r (hin r hr))) x hx
theorem file_len {l : List Rc} (hok : l.all okR = true) : (fileS l).length ≤ 13000 * ((l.length + 2) / 3) + 4 := by
  have hg := chk_good hok
  have h1 := vb_sum_len (pre := chk 3 l) (fun p hp => (hg p hp).2.1) fun p hp => (hg p hp).2.2
  have h2 := (chk_facts (m := 3) (by omega) _ l (Nat.le_refl _)).2
  unfold fileS
  rw [List.length_append]
  rw [show l.length + 3 - 1 = l.length + 2 by omega] at h2
  rw [h2] at h1
  simp only [List.length_cons, List.length_nil]
  omega
end Go.Proofs.YtjcjbpbkakfjdaaDoor.E
/- The laws of there and back, and of the markers. -/
namespace Go.Proofs.YtjcjbpbkakfjdaaDoor.E
open Go Go.RowKit Go.Proofs
set_option linter.unusedVariables false
set_option linter.unusedSimpArgs false
theorem seqMarkers_ok {o : Bool} {l : List Rc} (hl : l.length ≤ 140737488351232) (hr : ∀ r ∈ l, r.length ≤ 140737488351232) (ht : ∀ r ∈ l, ∀ t ∈ r, (∀ x ∈ t, x < 256) ∧ t.length ≤ 140737488351232) :
    PSpec Tryd.prog 5 [.lst 1 (rowsC l) o] (.bool true) := by
  intro H
  have ca := alive_ok
  have cf := few_ok (l := l) (many := 120) (long := 3000) (by omega) (fun r h => by have := hr r h; omega) (fun r h t h2 => by have := (ht r h t h2).2; omega) (by omega) (by omega) (o := false)
  refine spec_of t5 (by simp [p5]) ?_
  simp only [p5]
  first | refine pwp_sr ?_ | refine pwp_regionM ?_
  intro K hK
  simp (disch := first | (refine Ok.mk ?_; (try simp only [Lm, La, Lc, Ln, Lt, Ld, Lr, Li, true_or, or_true, true_and, and_true]); omega) | (simp <;> fail) | skip) [runM_nil]
  refine hK _ _ ?_
  clear hK K
  by_cases hf : (decide (fewN l ≤ 3000) && decide (l.length ≤ 120)) = true
  · rw [hf] at cf
    simp only [Bool.and_eq_true, decide_eq_true_eq] at hf
    obtain ⟨hf1, hf2⟩ := hf
    first | refine pwp_rif ?_ | refine pwp_rifE ?_
    intro K hK
    simp (disch := first | (refine Ok.mk ?_; (try simp only [Lm, La, Lc, Ln, Lt, Ld, Lr, Li, true_or, or_true, true_and, and_true]); omega) | (simp <;> fail) | skip) [runM_nil]
    refine useP (cf) ?_
    simp (disch := first | (refine Ok.mk ?_; (try simp only [Lm, La, Lc, Ln, Lt, Ld, Lr, Li, true_or, or_true, true_and, and_true]); omega) | (simp <;> fail) | skip) [runM_nil]
    refine hK _ _ ?_
    clear hK K
    refine ifF (by simp [runM_nil]) (pwp_skip ?_)
    have hrl : ∀ r ∈ l, r.length ≤ 1000000 := fun r h => by
      have h1 := recW_mem h
      have h2 := recW_len r
      omega
    have htw : ∀ r ∈ l, ∀ f ∈ r, ∀ x ∈ f, x < 256 := fun r h t h2 => (ht r h t h2).1
    have c1 := write_ok (l := l) (s := 1) (xs := rowsC l) rfl (.inl rfl) (by omega) hrl htw (o := false)
    cases hok : l.all okR with
    | false =>
      have hwe : wrS l = ([], 10) := by unfold wrS; rw [hok]; rfl
      rw [hwe] at c1
      first | refine pwp_sr ?_ | refine pwp_regionM ?_
      intro K hK
      simp (disch := first | (refine Ok.mk ?_; (try simp only [Lm, La, Lc, Ln, Lt, Ld, Lr, Li, true_or, or_true, true_and, and_true]); omega) | (simp <;> fail) | skip) [runM_nil]
      refine useP (c1) ?_
      simp (disch := first | (refine Ok.mk ?_; (try simp only [Lm, La, Lc, Ln, Lt, Ld, Lr, Li, true_or, or_true, true_and, and_true]); omega) | (simp <;> fail) | skip) [runM_nil]
      refine hK _ _ ?_
      clear hK K
      first | refine pwp_rif ?_ | refine pwp_rifE ?_
      intro K hK
      simp (disch := first | (refine Ok.mk ?_; (try simp only [Lm, La, Lc, Ln, Lt, Ld, Lr, Li, true_or, or_true, true_and, and_true]); omega) | (simp <;> fail) | skip) [runM_nil]
      refine hK _ _ ?_
      clear hK K
      refine ifT (by simp (disch := first | (refine Ok.mk ?_; (try simp only [Lm, La, Lc, Ln, Lt, Ld, Lr, Li, true_or, or_true, true_and, and_true]); omega) | (simp <;> fail) | skip) [runM_nil]) ?_
      first | refine pwp_sr ?_ | refine pwp_regionM ?_
      intro K hK
      simp (disch := first | (refine Ok.mk ?_; (try simp only [Lm, La, Lc, Ln, Lt, Ld, Lr, Li, true_or, or_true, true_and, and_true]); omega) | (simp <;> fail) | skip) [runM_nil]
      refine useP (ca) ?_
      simp (disch := first | (refine Ok.mk ?_; (try simp only [Lm, La, Lc, Ln, Lt, Ld, Lr, Li, true_or, or_true, true_and, and_true]); omega) | (simp <;> fail) | skip) [runM_nil]
      refine hK _ _ ?_
      clear hK K
      refine pwp_retT ⟨.inr rfl, _, _, (by simp (disch := first | (refine Ok.mk ?_; (try simp only [Lm, La, Lc, Ln, Lt, Ld, Lr, Li, true_or, or_true, true_and, and_true]); omega) | (simp <;> fail) | skip) [runM_nil, resL]; rfl), .refl _, by simp (disch := first | (refine Ok.mk ?_; (try simp only [Lm, La, Lc, Ln, Lt, Ld, Lr, Li, true_or, or_true, true_and, and_true]); omega) | (simp <;> fail) | skip) [resV], rfl⟩
    | true =>
      have hwe : wrS l = (fileS l, 0) := by unfold wrS; rw [if_pos hok]
      rw [hwe] at c1
      have hfl := file_len hok
      have hfw := file_w htw hok
      obtain ⟨z1, z2, z3, z4, z5⟩ := scan_file hok
      have hcl := (chk_facts (m := 3) (by omega) _ l (Nat.le_refl _)).2
      have e1 := scan_ok (s := 1) (xs := (fileS l).map u8) (o := false) (b := fileS l) rfl (.inl rfl) hfw (by omega)
      have em := fun n : Int => marker_ok (s := 1) (xs := (fileS l).map u8) (o := false) (b := fileS l) rfl (.inl rfl) hfw (by omega) n
      have hpl : (blkAt (fileS l) 4).length = (l.length + 2) / 3 := by
        have h := congrArg List.length z1
        rw [z4] at h
        simp only [List.length_map] at h
        rw [h, hcl]
        congr 1
      have hhd : [84, 83, 81, 49].isPrefixOf (fileS l) = true := by unfold fileS; simp
      have h4 : 4 ≤ (fileS l).length := by simpa using (List.isPrefixOf_iff_prefix.1 hhd).length_le
      have hm0 : mkB (fileS l) 0 = 4 := by
        rw [head_mk hhd (by omega)]
        by_cases hc : 4 < (fileS l).length ∧ (blkB (fileS l) 4).2.2.2 = 0
        · exact mkB_here (blkB_pre hc.2).1
        · rw [blkAt_stop hc] at z5
          have := mkB_le (fileS l) 4
          simp only [lastE] at z5
          omega
      have em0 := em 0
      rw [show (0 : Int).toNat = 0 from rfl, hm0] at em0
      simp only [scW, scWo] at e1
      rw [z4] at e1
      dsimp only at e1
      have hfm : ((fileS l).map u8).length = (fileS l).length := List.length_map _
      obtain ⟨F, hF⟩ : ∃ F, F = fileS l := ⟨_, rfl⟩
      rw [← hF] at e1 em em0 hfm c1 hfl hpl z5 h4
      clear hm0 z1 z2 z3 z4 hcl hwe hhd hfw hF
      obtain ⟨A, hA⟩ : ∃ A, A = blkAt F 4 := ⟨_, rfl⟩
      have hAl : A.length ≤ 1000000 := by rw [hA, hpl]; omega
      have hge : ∀ i (h : i < A.length), ((A.map (·.2)).map pcW)[i]? = some (.agg [.int .i64 A[i].2.1, .lst 1 (rowsC A[i].2.2) false]) := fun i h => by rw [List.getElem?_map, List.getElem?_map, List.getElem?_eq_getElem h]; rfl
      have hel : ((A.map (·.2)).map pcW).length = A.length := by simp
      rw [← hA] at e1 z5 hpl
      generalize (A.map (·.2)).map pcW = es at *
      dsimp only [bV] at c1
      generalize hfs : F.map u8 = fs at *
      first | refine pwp_sr ?_ | refine pwp_regionM ?_
      intro K hK
      simp (disch := first | (refine Ok.mk ?_; (try simp only [Lm, La, Lc, Ln, Lt, Ld, Lr, Li, true_or, or_true, true_and, and_true]); omega) | (simp <;> fail) | skip) [runM_nil]
      refine useP (c1) ?_
      simp (disch := first | (refine Ok.mk ?_; (try simp only [Lm, La, Lc, Ln, Lt, Ld, Lr, Li, true_or, or_true, true_and, and_true]); omega) | (simp <;> fail) | skip) [runM_nil]
      refine hK _ _ ?_
      clear hK K
      first | refine pwp_rif ?_ | refine pwp_rifE ?_
      intro K hK
      simp (disch := first | (refine Ok.mk ?_; (try simp only [Lm, La, Lc, Ln, Lt, Ld, Lr, Li, true_or, or_true, true_and, and_true]); omega) | (simp <;> fail) | skip) [runM_nil]
      refine hK _ _ ?_
      clear hK K
      refine ifF (by simp [runM_nil]) (pwp_skip ?_)
      first | refine pwp_sr ?_ | refine pwp_regionM ?_
      intro K hK
      simp (disch := first | (refine Ok.mk ?_; (try simp only [Lm, La, Lc, Ln, Lt, Ld, Lr, Li, true_or, or_true, true_and, and_true]); omega) | (simp <;> fail) | skip) [runM_nil]
      refine useP (e1) ?_
      simp (disch := first | (refine Ok.mk ?_; (try simp only [Lm, La, Lc, Ln, Lt, Ld, Lr, Li, true_or, or_true, true_and, and_true]); omega) | (simp <;> fail) | skip) [runM_nil]
      refine hK _ _ ?_
      clear hK K
      first | refine pwp_sr ?_ | refine pwp_regionM ?_
      intro K hK
      simp (disch := first | (refine Ok.mk ?_; (try simp only [Lm, La, Lc, Ln, Lt, Ld, Lr, Li, true_or, or_true, true_and, and_true]); omega) | (simp <;> fail) | skip) [runM_nil]
      refine useP (em0) ?_
      simp (disch := first | (refine Ok.mk ?_; (try simp only [Lm, La, Lc, Ln, Lt, Ld, Lr, Li, true_or, or_true, true_and, and_true]); omega) | (simp <;> fail) | skip) [runM_nil]
      refine hK _ _ ?_
      clear hK K
      refine pwp_seq (pwp_seq ?_)
      first | refine pwp_sr ?_ | refine pwp_regionM ?_
      intro K hK
      simp (disch := first | (refine Ok.mk ?_; (try simp only [Lm, La, Lc, Ln, Lt, Ld, Lr, Li, true_or, or_true, true_and, and_true]); omega) | (simp <;> fail) | skip) [runM_nil]
      refine hK _ _ ?_
      clear hK K
      refine pwp_block ?_
      refine pwp_loopK [0, 3, 5, 8, 9] (fun m st H' => ∃ (i k : Nat) (done : List Bk), k ≤ F.length ∧ A = done ++ blkAt F k ∧ done.length = i ∧ k = lastE 4 done ∧ m = A.length - i ∧ H' = H ∧
          st = MS 63 [(0, .lst 1 (rowsC l) o), (3, .lst 1 fs false), (5, .lst 2 es false), (8, .int .i64 k), (9, .int .i64 i)]) (n := A.length)
        ⟨_, .refl _, 0, 4, [], h4, hA, rfl, rfl, rfl, rfl, by simp [keepL_MS, keepA, getS]⟩ ?_
      rintro m st _ ⟨i, k, done, hk, hbl, hdn, hkl, rfl, rfl, rfl⟩
      refine pwp_seq ?_
      by_cases hlt : i < A.length
      · have g1 := hge i hlt
        have hc : k < F.length ∧ (blkB F k).2.2.2 = 0 := by
          by_cases hc : k < F.length ∧ (blkB F k).2.2.2 = 0
          · exact hc
          · rw [blkAt_stop hc, List.append_nil] at hbl
            rw [hbl] at hlt
            omega
        have hst := blkAt_step hc.1 hc.2
        obtain ⟨hpx, hen⟩ := blkB_pre hc.2
        obtain ⟨_, q1, q2⟩ := blkB_ok hc.2
        have hAi : A[i] = ((blkB F k).2.2.1, k, (blkB F k).2.1) := by
          have e : A[i]? = some ((blkB F k).2.2.1, k, (blkB F k).2.1) := by
            rw [hbl, hst, ← hdn]
            simp
          rw [List.getElem?_eq_getElem hlt] at e
          exact Option.some.inj e
        have em1 := em ((k : Int) + 1)
        rw [show ((k : Int) + 1).toNat = k + 1 by omega, mkB_in hpx (by omega) (by rw [← hen]; omega), ← hen] at em1
        have hla := lastE_snoc done 4 ((blkB F k).2.2.1, k, (blkB F k).2.1)
        rw [hAi] at g1
        dsimp only at g1 hla
        generalize (blkB F k).2.2.1 = en at *
        generalize (blkB F k).2.1 = ll at *
        first | refine pwp_sr ?_ | refine pwp_regionM ?_
        intro K hK
        simp (disch := first | (refine Ok.mk ?_; (try simp only [Lm, La, Lc, Ln, Lt, Ld, Lr, Li, true_or, or_true, true_and, and_true]); omega) | (simp <;> fail) | skip) [runM_nil, hel]
        refine hK _ _ ?_
        clear hK K
        refine pwp_cT (by simp [hlt]) (pwp_skip ?_)
        refine pwp_seq (pwp_block ?_)
        first | refine pwp_rif ?_ | refine pwp_rifE ?_
        intro K hK
        simp (disch := first | (refine Ok.mk ?_; (try simp only [Lm, La, Lc, Ln, Lt, Ld, Lr, Li, true_or, or_true, true_and, and_true]); omega) | (simp <;> fail) | skip) [runM_nil, hel, g1]
        refine hK _ _ ?_
        clear hK K
        refine ifF (by simp [runM_nil]) (pwp_skip ?_)
        first | refine pwp_sr ?_ | refine pwp_regionM ?_
        intro K hK
        simp (disch := first | (refine Ok.mk ?_; (try simp only [Lm, La, Lc, Ln, Lt, Ld, Lr, Li, true_or, or_true, true_and, and_true]); omega) | (simp <;> fail) | skip) [runM_nil]
        refine useP (em1) ?_
        simp (disch := first | (refine Ok.mk ?_; (try simp only [Lm, La, Lc, Ln, Lt, Ld, Lr, Li, true_or, or_true, true_and, and_true]); omega) | (simp <;> fail) | skip) [runM_nil]
        refine hK _ _ ?_
        clear hK K
        first | refine pwp_sr ?_ | refine pwp_regionM ?_
        intro K hK
        simp (disch := first | (refine Ok.mk ?_; (try simp only [Lm, La, Lc, Ln, Lt, Ld, Lr, Li, true_or, or_true, true_and, and_true]); omega) | (simp <;> fail) | skip) [runM_nil]
        refine hK _ _ ?_
        clear hK K
        exact ⟨A.length - (i + 1), by omega, _, .refl _, i + 1, en, done ++ [(en, k, ll)], q2, by rw [hbl, hst]; simp, by rw [List.length_append, hdn]; rfl, hla.symm, rfl, rfl, by simp [keepL_MS, keepA, getS]⟩
      · have hnil : blkAt F k = [] := by
          have h1 := congrArg List.length hbl
          rw [List.length_append] at h1
          exact List.eq_nil_of_length_eq_zero (by omega)
        rw [hnil, List.append_nil] at hbl
        have hkF : k = F.length := by rw [hkl, ← hbl]; exact z5
        have hfsl : fs.length = F.length := hfm
        have hrl2 : (rowsC l).length = l.length := by simp [rowsC]
        obtain ⟨N, hN⟩ : ∃ N, N = (l.length + 2) / 3 := ⟨_, rfl⟩
        rw [← hN] at hpl
        have hdv : ((l.length : Int) + 2) / 3 = (N : Int) := by omega
        have hdv2 : ((l.length : Int) + 2).tdiv 3 = (N : Int) := by rw [Int.tdiv_eq_ediv_of_nonneg (by omega)]; exact hdv
        clear hN
        first | refine pwp_sr ?_ | refine pwp_regionM ?_
        intro K hK
        simp (disch := first | (refine Ok.mk ?_; (try simp only [Lm, La, Lc, Ln, Lt, Ld, Lr, Li, true_or, or_true, true_and, and_true]); omega) | (simp <;> fail) | skip) [runM_nil, hel]
        refine hK _ _ ?_
        clear hK K
        refine pwp_cF (by simp [hlt]) (pwp_exit ?_)
        first | refine pwp_sr ?_ | refine pwp_regionM ?_
        intro K hK
        simp (disch := first | (refine Ok.mk ?_; (try simp only [Lm, La, Lc, Ln, Lt, Ld, Lr, Li, true_or, or_true, true_and, and_true]); omega) | (simp <;> fail) | skip) [runM_nil, hel, hfsl, hkF, hrl2, hpl, hdv, hdv2]
        refine useP (ca) ?_
        simp (disch := first | (refine Ok.mk ?_; (try simp only [Lm, La, Lc, Ln, Lt, Ld, Lr, Li, true_or, or_true, true_and, and_true]); omega) | (simp <;> fail) | skip) [runM_nil, hel, hfsl, hkF, hrl2, hpl, hdv, hdv2]
        refine hK _ _ ?_
        clear hK K
        refine pwp_ret ⟨.inr rfl, _, _, (by simp (disch := first | (refine Ok.mk ?_; (try simp only [Lm, La, Lc, Ln, Lt, Ld, Lr, Li, true_or, or_true, true_and, and_true]); omega) | (simp <;> fail) | skip) [runM_nil, resL]; rfl), .refl _, by simp (disch := first | (refine Ok.mk ?_; (try simp only [Lm, La, Lc, Ln, Lt, Ld, Lr, Li, true_or, or_true, true_and, and_true]); omega) | (simp <;> fail) | skip) [resV], rfl⟩
  · rw [Bool.not_eq_true] at hf
    rw [hf] at cf
    first | refine pwp_rif ?_ | refine pwp_rifE ?_
    intro K hK
    simp (disch := first | (refine Ok.mk ?_; (try simp only [Lm, La, Lc, Ln, Lt, Ld, Lr, Li, true_or, or_true, true_and, and_true]); omega) | (simp <;> fail) | skip) [runM_nil]
    refine useP (cf) ?_
    simp (disch := first | (refine Ok.mk ?_; (try simp only [Lm, La, Lc, Ln, Lt, Ld, Lr, Li, true_or, or_true, true_and, and_true]); omega) | (simp <;> fail) | skip) [runM_nil]
    refine hK _ _ ?_
    clear hK K
    refine ifT (by simp (disch := first | (refine Ok.mk ?_; (try simp only [Lm, La, Lc, Ln, Lt, Ld, Lr, Li, true_or, or_true, true_and, and_true]); omega) | (simp <;> fail) | skip) [runM_nil]) ?_
    first | refine pwp_sr ?_ | refine pwp_regionM ?_
    intro K hK
    simp (disch := first | (refine Ok.mk ?_; (try simp only [Lm, La, Lc, Ln, Lt, Ld, Lr, Li, true_or, or_true, true_and, and_true]); omega) | (simp <;> fail) | skip) [runM_nil]
    refine useP (ca) ?_
    simp (disch := first | (refine Ok.mk ?_; (try simp only [Lm, La, Lc, Ln, Lt, Ld, Lr, Li, true_or, or_true, true_and, and_true]); omega) | (simp <;> fail) | skip) [runM_nil]
    refine hK _ _ ?_
    clear hK K
    refine pwp_retT ⟨.inr rfl, _, _, (by simp (disch := first | (refine Ok.mk ?_; (try simp only [Lm, La, Lc, Ln, Lt, Ld, Lr, Li, true_or, or_true, true_and, and_true]); omega) | (simp <;> fail) | skip) [runM_nil, resL]; rfl), .refl _, by simp (disch := first | (refine Ok.mk ?_; (try simp only [Lm, La, Lc, Ln, Lt, Ld, Lr, Li, true_or, or_true, true_and, and_true]); omega) | (simp <;> fail) | skip) [resV], rfl⟩
end Go.Proofs.YtjcjbpbkakfjdaaDoor.E
/- What a row hands over, as bytes and numbers. -/
namespace Go.Proofs.YtjcjbpbkakfjdaaDoor.E
open Go Go.RowKit Go.Proofs Go.ChangeShapes Go.WideShapes
set_option linter.unusedVariables false
set_option linter.unusedSimpArgs false
end Go.Proofs.YtjcjbpbkakfjdaaDoor.E
/- What a row hands over, as a text. -/
namespace Go.Proofs.YtjcjbpbkakfjdaaDoor.E
open Go Go.RowKit Go.Proofs Go.ChangeShapes Go.WideShapes
set_option linter.unusedVariables false
set_option linter.unusedSimpArgs false
theorem openStr : OpnV Tryd.prog 9 1 (fun ps => ∃ m : List Nat, ps = [.str (ci m)] ∧ (∀ x ∈ m, x < 256) ∧ m.length ≤ 140737488351232) :=
  (OpnV.string Tryd.underlying9 (by kernel_rfl)).weaken (by
    rintro _ ⟨s, rfl, h⟩
    refine ⟨s.data.toList.map (·.toNat), by simp [bytesOf, ci], fun x hx => ?_, by simpa using h⟩
    obtain ⟨c, _, rfl⟩ := List.mem_map.1 hx
    exact c.toNat_lt)
end Go.Proofs.YtjcjbpbkakfjdaaDoor.E
/- What a row hands over, as a row of texts. -/
namespace Go.Proofs.YtjcjbpbkakfjdaaDoor.E
open Go Go.RowKit Go.Proofs Go.ChangeShapes Go.WideShapes
set_option linter.unusedVariables false
set_option linter.unusedSimpArgs false
theorem strs_elems {xs : List PV} (h : ∀ x ∈ xs, el false (fun ps => ∃ m : List Nat, ps = [.str (ci m)] ∧ (∀ x ∈ m, x < 256) ∧ m.length ≤ 140737488351232) x) : ∃ l : List (List Nat), xs = l.map sV ∧ ∀ t ∈ l, (∀ x ∈ t, x < 256) ∧ t.length ≤ 140737488351232 := by
  induction xs with
  | nil => exact ⟨[], rfl, fun t ht => by cases ht⟩
  | cons x xs ih =>
    obtain ⟨l, rfl, hl⟩ := ih fun y hy => h y (List.mem_cons_of_mem _ hy)
    obtain ⟨m, e, hm⟩ := h x (List.mem_cons_self ..)
    cases e
    refine ⟨m :: l, rfl, fun t ht => ?_⟩
    rcases List.mem_cons.1 ht with rfl | ht
    · exact hm
    · exact hl t ht
theorem openStrs : OpnV Tryd.prog 50 1 (fun ps => ∃ l : List (List Nat), ps = [.lst 1 (l.map sV) false] ∧ l.length ≤ 140737488351232 ∧ ∀ t ∈ l, (∀ x ∈ t, x < 256) ∧ t.length ≤ 140737488351232) :=
  (OpnV.slice (B := 16) false Tryd.underlying50 (by kernel_rfl) (by kernel_rfl) openStr (fun _ => rfl) (by omega)).weaken (by
    rintro _ ⟨xs, rfl, h1, _, h2⟩
    obtain ⟨l, rfl, hl⟩ := strs_elems h2
    rw [List.length_map] at h1
    exact ⟨l, rfl, by omega, hl⟩)
end Go.Proofs.YtjcjbpbkakfjdaaDoor.E
/- What a row hands over, as records; a byte. -/
namespace Go.Proofs.YtjcjbpbkakfjdaaDoor.E
open Go Go.RowKit Go.Proofs
set_option linter.unusedVariables false
theorem recs_elems {xs : List PV} (h : ∀ x ∈ xs, el false (fun ps => ∃ l : List (List Nat), ps = [.lst 1 (l.map sV) false] ∧ l.length ≤ 140737488351232 ∧ ∀ t ∈ l, (∀ x ∈ t, x < 256) ∧ t.length ≤ 140737488351232) x) :
    ∃ l : List (List (List Nat)), xs = rowsC l ∧ ∀ r ∈ l, r.length ≤ 140737488351232 ∧ ∀ t ∈ r, (∀ x ∈ t, x < 256) ∧ t.length ≤ 140737488351232 := by
  induction xs with
  | nil => exact ⟨[], rfl, fun r hr => by cases hr⟩
  | cons x xs ih =>
    obtain ⟨l, rfl, hl⟩ := ih fun y hy => h y (List.mem_cons_of_mem _ hy)
    obtain ⟨r, e, h1, h2⟩ := (show ∃ l : List (List Nat), [x] = [.lst 1 (l.map sV) false] ∧ l.length ≤ 140737488351232 ∧ ∀ t ∈ l, (∀ x ∈ t, x < 256) ∧ t.length ≤ 140737488351232 from h x (List.mem_cons_self ..))
    cases e
    refine ⟨r :: l, rfl, fun q hq => ?_⟩
    rcases List.mem_cons.1 hq with rfl | hq
    · exact ⟨h1, h2⟩
    · exact hl q hq
theorem openRecs : OpnV Tryd.prog 22 1 (fun ps => ∃ l : List (List (List Nat)), ps = [.lst 1 (rowsC l) false] ∧ l.length ≤ 140737488351232 ∧ ∀ r ∈ l, r.length ≤ 140737488351232 ∧ ∀ t ∈ r, (∀ x ∈ t, x < 256) ∧ t.length ≤ 140737488351232) :=
  (OpnV.slice (B := 24) false Tryd.underlying22 (by kernel_rfl) (by kernel_rfl) openStrs (fun _ => rfl) (by omega)).weaken (by
    rintro _ ⟨xs, rfl, h1, _, h2⟩
    obtain ⟨l, rfl, hl⟩ := recs_elems h2
    have e : (rowsC l).length = l.length := List.length_map _
    rw [e] at h1
    exact ⟨l, rfl, by omega, hl⟩)
end Go.Proofs.YtjcjbpbkakfjdaaDoor.E
