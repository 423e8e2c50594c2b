/- Part 4 of the proof of CsvScan: what the program's functions come to. -/
import Derived.Test.YtdphjapaoaokmaaDoorJCsvScan2
import Derived.Test.YtdphjapaoaokmaaDoorJCsvScan3
import Derived.Test.YtdphjapaoaokmaaDoorL2
import Derived.Test.YtdphjapaoaokmaaDoorProg
/- Canonical files, by both; the same pieces. -/
namespace Go.Proofs.YtdphjapaoaokmaaDoor.E
open Go Go.RowKit Go.Proofs
set_option linter.unusedVariables false
set_option linter.unusedSimpArgs false
theorem equal_ok {s1 s2 : Nat} {xs ys : List PV} {o1 o2 : Bool} {a b : List Nat} (hx : xs = a.map u8) (hy : ys = b.map u8) (hs1 : s1 = 1 ∨ a.length = 0) (hs2 : s2 = 1 ∨ b.length = 0) (ha : ∀ x ∈ a, x < 256) (hb : ∀ x ∈ b, x < 256) :
    PSpec Tryd.prog 27 [.lst s1 xs o1, .lst s2 ys o2] (.bool (decide (a = b))) := by
  intro H
  have c1 := cvS_u8 (o := false) hx hs1 ha
  have c2 := cvS_u8 (o := false) hy hs2 hb
  refine spec_of t27 (by simp [p27]) ?_
  simp only [p27]
  first | refine pwp_sr ?_ | refine pwp_regionM ?_
  intro K hK
  simp (disch := first | (refine Ok.mk ?_; (try simp only [Lm, La, Lc, Ln, Lt, Ld, Lr, Li, true_or, or_true, true_and, and_true]); omega) | (simp <;> fail) | skip) [runM_nil]
  refine hK _ _ ?_
  clear hK K
  first | refine pwp_sr ?_ | refine pwp_regionM ?_
  intro K hK
  simp (disch := first | (refine Ok.mk ?_; (try simp only [Lm, La, Lc, Ln, Lt, Ld, Lr, Li, true_or, or_true, true_and, and_true]); omega) | (simp <;> fail) | skip) [runM_nil, c1, c2]
  refine hK _ _ ?_
  clear hK K
  refine pwp_ret ⟨.inr rfl, _, _, (by simp (disch := first | (refine Ok.mk ?_; (try simp only [Lm, La, Lc, Ln, Lt, Ld, Lr, Li, true_or, or_true, true_and, and_true]); omega) | (simp <;> fail) | skip) [runM_nil, resL]; rfl), .refl _, by simp (disch := first | (refine Ok.mk ?_; (try simp only [Lm, La, Lc, Ln, Lt, Ld, Lr, Li, true_or, or_true, true_and, and_true]); omega) | (simp <;> fail) | skip) [resV], rfl⟩
theorem piecesSame_ok {l : List (Nat × List (List Nat))} (hl : l.length ≤ 1000000) (hr : ∀ p ∈ l, p.2.length ≤ 1000000) {o q : Bool} : PSpec Tryd.prog 18 [.lst 2 (l.map pcV) o, .lst 2 (l.map pcV) q] (.bool true) := by
  intro H
  have hmix := mixS
  have hrl : (l.map pcV).length = l.length := List.length_map _
  have hge : ∀ i (h : i < l.length), (l.map pcV)[i]? = some (.agg [.int .i64 l[i].1, .lst 1 [.lst 1 (l[i].2.map sV) false] false]) := fun i h => by rw [List.getElem?_map, List.getElem?_eq_getElem h]; rfl
  refine spec_of t18 (by simp [p18]) ?_
  simp only [p18]
  generalize l.map pcV = es at *
  first | refine pwp_sr ?_ | refine pwp_regionM ?_
  intro K hK
  simp (disch := first | (refine Ok.mk ?_; (try simp only [Lm, La, Lc, Ln, Lt, Ld, Lr, Li, true_or, or_true, true_and, and_true]); omega) | (simp <;> fail) | skip) [runM_nil]
  refine hK _ _ ?_
  clear hK K
  refine pwp_seq ?_
  first | refine pwp_sr ?_ | refine pwp_regionM ?_
  intro K hK
  simp (disch := first | (refine Ok.mk ?_; (try simp only [Lm, La, Lc, Ln, Lt, Ld, Lr, Li, true_or, or_true, true_and, and_true]); omega) | (simp <;> fail) | skip) [runM_nil, hrl]
  refine hK _ _ ?_
  clear hK K
  refine pwp_cF (by simp) (pwp_skip ?_)
  refine pwp_seq (pwp_seq ?_)
  first | refine pwp_sr ?_ | refine pwp_regionM ?_
  intro K hK
  simp (disch := first | (refine Ok.mk ?_; (try simp only [Lm, La, Lc, Ln, Lt, Ld, Lr, Li, true_or, or_true, true_and, and_true]); omega) | (simp <;> fail) | skip) [runM_nil]
  refine hK _ _ ?_
  clear hK K
  refine pwp_block ?_
  refine pwp_loopK [0, 1, 5] (fun m st H' => ∃ i, i ≤ l.length ∧ m = l.length - i ∧ H' = H ∧ st = MS 42 [(0, .lst 2 es o), (1, .lst 2 es q), (5, .int .i64 i)]) (n := l.length)
    ⟨_, .refl _, 0, Nat.zero_le _, rfl, rfl, by simp [keepL_MS, keepA, getS]⟩ ?_
  rintro m st H1 ⟨i, hi, rfl, rfl, rfl⟩
  by_cases hlt : i < l.length
  · have g1 := hge i hlt
    have c := recsSame_ok (l := [l[i].2]) (by simp) (fun r h => by rw [List.mem_singleton.1 h]; exact hr _ (List.getElem_mem hlt)) (o := false) (q := false)
    simp only [rowsC, List.map_cons, List.map_nil] at c
    generalize l[i] = e at *
    refine pwp_seq ?_
    first | refine pwp_sr ?_ | refine pwp_regionM ?_
    intro K hK
    simp (disch := first | (refine Ok.mk ?_; (try simp only [Lm, La, Lc, Ln, Lt, Ld, Lr, Li, true_or, or_true, true_and, and_true]); omega) | (simp <;> fail) | skip) [runM_nil, hrl]
    refine hK _ _ ?_
    clear hK K
    refine pwp_cT (by simp) (pwp_skip ?_)
    refine pwp_seq (pwp_block ?_)
    first | refine pwp_sd hmix ?_ | refine pwp_drawM hmix ?_
    intro K hK
    simp (disch := first | (refine Ok.mk ?_; (try simp only [Lm, La, Lc, Ln, Lt, Ld, Lr, Li, true_or, or_true, true_and, and_true]); omega) | (simp <;> fail) | skip) [runM_nil, g1, hrl]
    refine useD (c) ?_
    simp (disch := first | (refine Ok.mk ?_; (try simp only [Lm, La, Lc, Ln, Lt, Ld, Lr, Li, true_or, or_true, true_and, and_true]); omega) | (simp <;> fail) | skip) [runM_nil, g1, hrl]
    refine hK _ _ ?_
    clear hK K
    refine pwp_cF (by simp) (pwp_skip ?_)
    first | refine pwp_sr ?_ | refine pwp_regionM ?_
    intro K hK
    simp (disch := first | (refine Ok.mk ?_; (try simp only [Lm, La, Lc, Ln, Lt, Ld, Lr, Li, true_or, or_true, true_and, and_true]); omega) | (simp <;> fail) | skip) [runM_nil]
    refine hK _ _ ?_
    clear hK K
    exact ⟨l.length - (i + 1), by omega, _, .refl _, i + 1, by omega, rfl, rfl, by simp [keepL_MS, keepA, getS]⟩
  · obtain rfl : i = l.length := by omega
    refine pwp_seq ?_
    first | refine pwp_sr ?_ | refine pwp_regionM ?_
    intro K hK
    simp (disch := first | (refine Ok.mk ?_; (try simp only [Lm, La, Lc, Ln, Lt, Ld, Lr, Li, true_or, or_true, true_and, and_true]); omega) | (simp <;> fail) | skip) [runM_nil, hrl]
    refine hK _ _ ?_
    clear hK K
    refine pwp_cF (by simp) (pwp_exit ?_)
    first | refine pwp_sr ?_ | refine pwp_regionM ?_
    intro K hK
    simp (disch := first | (refine Ok.mk ?_; (try simp only [Lm, La, Lc, Ln, Lt, Ld, Lr, Li, true_or, or_true, true_and, and_true]); omega) | (simp <;> fail) | skip) [runM_nil]
    refine hK _ _ ?_
    clear hK K
    refine pwp_ret ⟨.inr rfl, _, _, (by simp (disch := first | (refine Ok.mk ?_; (try simp only [Lm, La, Lc, Ln, Lt, Ld, Lr, Li, true_or, or_true, true_and, and_true]); omega) | (simp <;> fail) | skip) [runM_nil, resL]; rfl), .refl _, by simp (disch := first | (refine Ok.mk ?_; (try simp only [Lm, La, Lc, Ln, Lt, Ld, Lr, Li, true_or, or_true, true_and, and_true]); omega) | (simp <;> fail) | skip) [resV], rfl⟩
def canonB (b : List Nat) : Bool := decide ((scanB b 0).2.2 = 0) && decide (fileB (rowsB b) = b)
theorem rowsB_len {b : List Nat} (hw : ∀ x ∈ b, x < 256) : (rowsB b).length ≤ b.length := by
  unfold rowsB
  rw [List.length_map]
  exact scanB_len hw b.length 0 (by omega) (Bd.zero b)
theorem canon_ok {s : Nat} {xs : List PV} {o : Bool} {b : List Nat} (hx : xs = b.map u8) (hs : s = 1 ∨ b.length = 0) (hw : ∀ x ∈ b, x < 256) (hl : b.length ≤ 1000000) : PSpec Tryd.prog 15 [.lst s xs o] (.bool (canonB b)) := by
  intro H
  have c1 := scan_ok (o := false) hx hs hw hl
  obtain ⟨w1, w2, w3⟩ := rowsB_ok hw
  have hrl := rowsB_len hw
  have c2 := write_ok (l := rowsB b) (by omega) (fun r hr => by have := (rowOkB_iff.1 ((List.all_eq_true.1 w1) r hr)).2.1; omega) (by omega) (o := false)
  have c3 := equal_ok (o1 := false) (o2 := false) (a := fileB (rowsB b)) (b := b) rfl hx (.inl rfl) hs (fileB_lt w2) hw
  rw [wrV_ok w1] at c2
  have hB : canonB b = (decide ((scanB b 0).2.2 = 0) && decide (fileB (rowsB b) = b)) := rfl
  simp only [scV] at c1
  refine spec_of t15 (by simp [p15]) ?_
  simp only [p15]
  first | refine pwp_sr ?_ | refine pwp_regionM ?_
  intro K hK
  simp (disch := first | (refine Ok.mk ?_; (try simp only [Lm, La, Lc, Ln, Lt, Ld, Lr, Li, true_or, or_true, true_and, and_true]); omega) | (simp <;> fail) | skip) [runM_nil]
  refine hK _ _ ?_
  clear hK K
  have hrow : rowsB b = (scanB b 0).1.map (·.2) := rfl
  generalize hS : scanB b 0 = S at *
  obtain ⟨S1, S2, S3⟩ := S
  dsimp only at *
  rw [hrow] at hrl c2 c3 hB
  rw [List.length_map] at hrl
  first | refine pwp_sr ?_ | refine pwp_regionM ?_
  intro K hK
  simp (disch := first | (refine Ok.mk ?_; (try simp only [Lm, La, Lc, Ln, Lt, Ld, Lr, Li, true_or, or_true, true_and, and_true]); omega) | (simp <;> fail) | skip) [runM_nil]
  refine useP (c1) ?_
  simp (disch := first | (refine Ok.mk ?_; (try simp only [Lm, La, Lc, Ln, Lt, Ld, Lr, Li, true_or, or_true, true_and, and_true]); omega) | (simp <;> fail) | skip) [runM_nil]
  refine hK _ _ ?_
  clear hK K
  first | refine pwp_sr ?_ | refine pwp_regionM ?_
  intro K hK
  simp (disch := first | (refine Ok.mk ?_; (try simp only [Lm, La, Lc, Ln, Lt, Ld, Lr, Li, true_or, or_true, true_and, and_true]); omega) | (simp <;> fail) | skip) [runM_nil]
  refine hK _ _ ?_
  clear hK K
  have hge : ∀ i (h : i < S1.length), (S1.map pcV)[i]? = some (.agg [.int .i64 S1[i].1, .lst 1 [.lst 1 (S1[i].2.map sV) false] false]) := fun i h => by rw [List.getElem?_map, List.getElem?_eq_getElem h]; rfl
  have hml : (S1.map pcV).length = S1.length := List.length_map _
  have htk : ∀ i (h : i < S1.length), rowsC ((S1.take (i + 1)).map (·.2)) = rowsC ((S1.take i).map (·.2)) ++ [.lst 1 (S1[i].2.map sV) false] := fun i h => by
    rw [List.take_succ_eq_append_getElem h, List.map_append]
    unfold rowsC
    rw [List.map_append]
    rfl
  have htl : ∀ i, i ≤ S1.length → (rowsC ((S1.take i).map (·.2))).length = i := fun i h => by simp [rowsC]; omega
  generalize S1.map pcV = es at *
  refine pwp_seq (pwp_seq ?_)
  first | refine pwp_sr ?_ | refine pwp_regionM ?_
  intro K hK
  simp (disch := first | (refine Ok.mk ?_; (try simp only [Lm, La, Lc, Ln, Lt, Ld, Lr, Li, true_or, or_true, true_and, and_true]); omega) | (simp <;> fail) | skip) [runM_nil, hml]
  refine hK _ _ ?_
  clear hK K
  refine pwp_block ?_
  refine pwp_loopU [0, 5, 6, 17, 18, 19] (fun q st H' => ∃ i : Nat, i ≤ S1.length ∧ q = S1.length - i ∧ H' = H ∧ st = MS 44 [(0, .lst s xs o), (5, .int .i64 S3), (6, .lst 1 (rowsC ((S1.take i).map (·.2))) true), (17, .lst 2 es false), (18, .int .i64 S1.length), (19, .int .i64 i)]) (n := S1.length)
    ⟨_, _, keep_up (l' := [(0, .lst s xs o), (5, .int .i64 S3), (6, .lst 1 [] true), (17, .lst 2 es false), (18, .int .i64 S1.length), (19, .int .i64 0)]) (by simp), .refl _, 0, Nat.zero_le _, rfl, rfl, by simp [rowsC]⟩ ?_
  rintro q st H' ⟨i, hi, rfl, hH, rfl⟩
  subst hH
  by_cases hlt : i < S1.length
  · have g1 := hge i hlt
    have h2 := htk i hlt
    have h3 := htl i hi
    generalize rowsC ((S1.take i).map (·.2)) = A at *
    generalize S1[i] = e at *
    first | refine pwp_sr ?_ | refine pwp_regionM ?_
    intro K hK
    simp (disch := first | (refine Ok.mk ?_; (try simp only [Lm, La, Lc, Ln, Lt, Ld, Lr, Li, true_or, or_true, true_and, and_true]); omega) | (simp <;> fail) | skip) [runM_nil]
    refine hK _ _ ?_
    clear hK K
    refine pwp_seq (pwp_cT (by simp) (pwp_skip ?_))
    refine pwp_seq (pwp_block ?_)
    first | refine pwp_sr ?_ | refine pwp_regionM ?_
    intro K hK
    simp (disch := first | (refine Ok.mk ?_; (try simp only [Lm, La, Lc, Ln, Lt, Ld, Lr, Li, true_or, or_true, true_and, and_true]); omega) | (simp <;> fail) | skip) [runM_nil, g1, hml]
    intro bp h_bp
    try simp (disch := first | (refine Ok.mk ?_; (try simp only [Lm, La, Lc, Ln, Lt, Ld, Lr, Li, true_or, or_true, true_and, and_true]); omega) | (simp <;> fail) | skip) [runM_nil, g1, hml]
    refine hK _ _ ?_
    clear hK K
    first | refine pwp_sr ?_ | refine pwp_regionM ?_
    intro K hK
    simp (disch := first | (refine Ok.mk ?_; (try simp only [Lm, La, Lc, Ln, Lt, Ld, Lr, Li, true_or, or_true, true_and, and_true]); omega) | (simp <;> fail) | skip) [runM_nil, h3]
    refine hK _ _ ?_
    clear hK K
    first | refine pwp_sr ?_ | refine pwp_regionM ?_
    intro K hK
    simp (disch := first | (refine Ok.mk ?_; (try simp only [Lm, La, Lc, Ln, Lt, Ld, Lr, Li, true_or, or_true, true_and, and_true]); omega) | (simp <;> fail) | skip) [runM_nil]
    refine hK _ _ ?_
    clear hK K
    exact ⟨S1.length - (i + 1), by omega, _, _, keep_up (l' := [(0, .lst s xs o), (5, .int .i64 S3), (6, .lst 1 (A ++ [.lst 1 (e.2.map sV) false]) true), (17, .lst 2 es false), (18, .int .i64 S1.length), (19, .int .i64 (i + 1 : Nat))]) (by simp), .cons _ (.refl _), i + 1, by omega, rfl, rfl, by rw [h2]⟩
  · obtain rfl : i = S1.length := by omega
    rw [List.take_length]
    first | refine pwp_sr ?_ | refine pwp_regionM ?_
    intro K hK
    simp (disch := first | (refine Ok.mk ?_; (try simp only [Lm, La, Lc, Ln, Lt, Ld, Lr, Li, true_or, or_true, true_and, and_true]); omega) | (simp <;> fail) | skip) [runM_nil]
    refine hK _ _ ?_
    clear hK K
    refine pwp_seq (pwp_cF (by simp) (pwp_exit ?_))
    first | refine pwp_sr ?_ | refine pwp_regionM ?_
    intro K hK
    simp (disch := first | (refine Ok.mk ?_; (try simp only [Lm, La, Lc, Ln, Lt, Ld, Lr, Li, true_or, or_true, true_and, and_true]); omega) | (simp <;> fail) | skip) [runM_nil]
    refine useP (c2) ?_
    simp (disch := first | (refine Ok.mk ?_; (try simp only [Lm, La, Lc, Ln, Lt, Ld, Lr, Li, true_or, or_true, true_and, and_true]); omega) | (simp <;> fail) | skip) [runM_nil]
    refine hK _ _ ?_
    clear hK K
    by_cases he : S3 = 0
    · subst he
      first | refine pwp_sr ?_ | refine pwp_regionM ?_
      intro K hK
      simp (disch := first | (refine Ok.mk ?_; (try simp only [Lm, La, Lc, Ln, Lt, Ld, Lr, Li, true_or, or_true, true_and, and_true]); omega) | (simp <;> fail) | skip) [runM_nil]
      refine useP (c3) ?_
      simp (disch := first | (refine Ok.mk ?_; (try simp only [Lm, La, Lc, Ln, Lt, Ld, Lr, Li, true_or, or_true, true_and, and_true]); omega) | (simp <;> fail) | skip) [runM_nil]
      refine hK _ _ ?_
      clear hK K
      refine pwp_ret ⟨.inr rfl, _, _, (by simp (disch := first | (refine Ok.mk ?_; (try simp only [Lm, La, Lc, Ln, Lt, Ld, Lr, Li, true_or, or_true, true_and, and_true]); omega) | (simp <;> fail) | skip) [runM_nil, resL, hB]; rfl), .refl _, by simp (disch := first | (refine Ok.mk ?_; (try simp only [Lm, La, Lc, Ln, Lt, Ld, Lr, Li, true_or, or_true, true_and, and_true]); omega) | (simp <;> fail) | skip) [resV, hB], rfl⟩
    · have he2 : ¬ (S3 : Int) = 0 := by omega
      first | refine pwp_sr ?_ | refine pwp_regionM ?_
      intro K hK
      simp (disch := first | (refine Ok.mk ?_; (try simp only [Lm, La, Lc, Ln, Lt, Ld, Lr, Li, true_or, or_true, true_and, and_true]); omega) | (simp <;> fail) | skip) [runM_nil, he2]
      refine hK _ _ ?_
      clear hK K
      refine pwp_ret ⟨.inr rfl, _, _, (by simp (disch := first | (refine Ok.mk ?_; (try simp only [Lm, La, Lc, Ln, Lt, Ld, Lr, Li, true_or, or_true, true_and, and_true]); omega) | (simp <;> fail) | skip) [runM_nil, resL, hB, he]; rfl), .refl _, by simp (disch := first | (refine Ok.mk ?_; (try simp only [Lm, La, Lc, Ln, Lt, Ld, Lr, Li, true_or, or_true, true_and, and_true]); omega) | (simp <;> fail) | skip) [resV, hB, he], rfl⟩
theorem rcanon_ok {s : Nat} {xs : List PV} {o : Bool} {b : List Nat} (hx : xs = b.map u8) (hs : s = 1 ∨ b.length = 0) (hw : ∀ x ∈ b, x < 256) (hl : b.length ≤ 1000000) : PSpec Tryd.prog 19 [.lst s xs o] (.bool (canonB b)) := by
  intro H
  have c1 := rscan_ok (o := false) hx hs hw hl
  obtain ⟨w1, w2, w3⟩ := rowsB_ok hw
  have hrl := rowsB_len hw
  have c2 := rwrite_ok (l := rowsB b) (by omega) (fun r hr => by have := (rowOkB_iff.1 ((List.all_eq_true.1 w1) r hr)).2.1; omega) w2 (by omega) (o := false)
  rw [wrV_ok w1] at c2
  have v1 := cvS_u8 (o := false) (xs := (fileB (rowsB b)).map u8) rfl (.inl rfl) (fileB_lt w2)
  have v2 := cvS_u8 (o := false) hx hs hw
  have hB : canonB b = (decide ((scanB b 0).2.2 = 0) && decide (fileB (rowsB b) = b)) := rfl
  have hrow : rowsB b = (scanB b 0).1.map (·.2) := rfl
  have c3 := all_ok (l := (scanB b 0).1) (by rw [hrow, List.length_map] at hrl; omega) (o := false)
  rw [← hrow] at c3
  simp only [scV] at c1
  refine spec_of t19 (by simp [p19]) ?_
  simp only [p19]
  generalize scanB b 0 = S at *
  obtain ⟨S1, S2, S3⟩ := S
  dsimp only at *
  first | refine pwp_sr ?_ | refine pwp_regionM ?_
  intro K hK
  simp (disch := first | (refine Ok.mk ?_; (try simp only [Lm, La, Lc, Ln, Lt, Ld, Lr, Li, true_or, or_true, true_and, and_true]); omega) | (simp <;> fail) | skip) [runM_nil]
  refine hK _ _ ?_
  clear hK K
  first | refine pwp_sr ?_ | refine pwp_regionM ?_
  intro K hK
  simp (disch := first | (refine Ok.mk ?_; (try simp only [Lm, La, Lc, Ln, Lt, Ld, Lr, Li, true_or, or_true, true_and, and_true]); omega) | (simp <;> fail) | skip) [runM_nil]
  refine useP (c1) ?_
  simp (disch := first | (refine Ok.mk ?_; (try simp only [Lm, La, Lc, Ln, Lt, Ld, Lr, Li, true_or, or_true, true_and, and_true]); omega) | (simp <;> fail) | skip) [runM_nil]
  refine hK _ _ ?_
  clear hK K
  refine pwp_seq ?_
  by_cases he : S3 = 0
  · subst he
    first | refine pwp_rif ?_ | refine pwp_rifE ?_
    intro K hK
    simp (disch := first | (refine Ok.mk ?_; (try simp only [Lm, La, Lc, Ln, Lt, Ld, Lr, Li, true_or, or_true, true_and, and_true]); omega) | (simp <;> fail) | skip) [runM_nil]
    refine hK _ _ ?_
    clear hK K
    refine ifF (by simp [runM_nil]) (pwp_skip ?_)
    first | refine pwp_sr ?_ | refine pwp_regionM ?_
    intro K hK
    simp (disch := first | (refine Ok.mk ?_; (try simp only [Lm, La, Lc, Ln, Lt, Ld, Lr, Li, true_or, or_true, true_and, and_true]); omega) | (simp <;> fail) | skip) [runM_nil]
    refine useP (c3) ?_
    simp (disch := first | (refine Ok.mk ?_; (try simp only [Lm, La, Lc, Ln, Lt, Ld, Lr, Li, true_or, or_true, true_and, and_true]); omega) | (simp <;> fail) | skip) [runM_nil]
    refine useP (c2) ?_
    simp (disch := first | (refine Ok.mk ?_; (try simp only [Lm, La, Lc, Ln, Lt, Ld, Lr, Li, true_or, or_true, true_and, and_true]); omega) | (simp <;> fail) | skip) [runM_nil]
    refine hK _ _ ?_
    clear hK K
    first | refine pwp_sr ?_ | refine pwp_regionM ?_
    intro K hK
    simp (disch := first | (refine Ok.mk ?_; (try simp only [Lm, La, Lc, Ln, Lt, Ld, Lr, Li, true_or, or_true, true_and, and_true]); omega) | (simp <;> fail) | skip) [runM_nil, v1, v2]
    refine hK _ _ ?_
    clear hK K
    refine pwp_ret ⟨.inr rfl, _, _, (by simp (disch := first | (refine Ok.mk ?_; (try simp only [Lm, La, Lc, Ln, Lt, Ld, Lr, Li, true_or, or_true, true_and, and_true]); omega) | (simp <;> fail) | skip) [runM_nil, resL, hB]; rfl), .refl _, by simp (disch := first | (refine Ok.mk ?_; (try simp only [Lm, La, Lc, Ln, Lt, Ld, Lr, Li, true_or, or_true, true_and, and_true]); omega) | (simp <;> fail) | skip) [resV, hB], rfl⟩
  · have he2 : ¬ (S3 : Int) = 0 := by omega
    first | refine pwp_rif ?_ | refine pwp_rifE ?_
    intro K hK
    simp (disch := first | (refine Ok.mk ?_; (try simp only [Lm, La, Lc, Ln, Lt, Ld, Lr, Li, true_or, or_true, true_and, and_true]); omega) | (simp <;> fail) | skip) [runM_nil, he2]
    refine hK _ _ ?_
    clear hK K
    refine ifT (by simp (disch := first | (refine Ok.mk ?_; (try simp only [Lm, La, Lc, Ln, Lt, Ld, Lr, Li, true_or, or_true, true_and, and_true]); omega) | (simp <;> fail) | skip) [runM_nil, he2]) ?_
    first | refine pwp_sr ?_ | refine pwp_regionM ?_
    intro K hK
    simp (disch := first | (refine Ok.mk ?_; (try simp only [Lm, La, Lc, Ln, Lt, Ld, Lr, Li, true_or, or_true, true_and, and_true]); omega) | (simp <;> fail) | skip) [runM_nil]
    refine hK _ _ ?_
    clear hK K
    refine pwp_retT ⟨.inr rfl, _, _, (by simp [runM_nil, resL]; rfl), .refl _, by simp [resV, hB, he], rfl⟩
end Go.Proofs.YtdphjapaoaokmaaDoor.E
/- Few: how many records there are, and of how many bytes. -/
namespace Go.Proofs.YtdphjapaoaokmaaDoor.E
open Go Go.RowKit Go.Proofs
set_option linter.unusedVariables false
set_option linter.unusedSimpArgs false
/-- What the texts of a record count. -/
def recW (r : List (List Nat)) : Nat := (r.map fun t => 1 + t.length).sum
def fewN (l : List (List (List Nat))) : Nat := (l.map recW).sum
theorem sum_take_succ {α : Type} (f : α → Nat) (l : List α) (i : Nat) (h : i < l.length) : ((l.take (i + 1)).map f).sum = ((l.take i).map f).sum + f l[i] := by
  rw [List.take_succ_eq_append_getElem h]
  simp only [List.map_append, List.sum_append, List.map_cons, List.map_nil, List.sum_cons, List.sum_nil, Nat.add_zero]
theorem sum_take_le {α : Type} (f : α → Nat) (l : List α) (i : Nat) : ((l.take i).map f).sum ≤ (l.map f).sum := by
  conv => rhs; rw [← List.take_append_drop i l]
  simp only [List.map_append, List.sum_append]
  omega
theorem few_ok {l : List (List (List Nat))} {many long : Nat} (hl : l.length ≤ 1000000000000000) (hr : ∀ r ∈ l, r.length ≤ 1000000000000000) (ht : ∀ r ∈ l, ∀ t ∈ r, t.length ≤ 1000000000000000) (hm : many ≤ 1000000) (hg : long ≤ 1000000) {o : Bool} :
    PSpec Tryd.prog 11 [.lst 1 (rowsC l) o, .int .i64 many, .int .i64 long] (.bool (decide (fewN l ≤ long) && decide (l.length ≤ many))) := by
  intro H
  have hrl : (rowsC l).length = l.length := by simp [rowsC]
  have hge : ∀ i (h : i < l.length), (rowsC l)[i]? = some (.lst 1 (l[i].map sV) false) := fun i h => by rw [rowsC, List.getElem?_map, List.getElem?_eq_getElem h]; rfl
  refine spec_of t11 (by simp [p11]) ?_
  simp only [p11]
  generalize rowsC l = es at *
  first | refine pwp_sr ?_ | refine pwp_regionM ?_
  intro K hK
  simp (disch := first | (refine Ok.mk ?_; (try simp only [Lm, La, Lc, Ln, Lt, Ld, Lr, Li, true_or, or_true, true_and, and_true]); omega) | (simp <;> fail) | skip) [runM_nil]
  refine hK _ _ ?_
  clear hK K
  refine pwp_seq ?_
  first | refine pwp_sr ?_ | refine pwp_regionM ?_
  intro K hK
  simp (disch := first | (refine Ok.mk ?_; (try simp only [Lm, La, Lc, Ln, Lt, Ld, Lr, Li, true_or, or_true, true_and, and_true]); omega) | (simp <;> fail) | skip) [runM_nil]
  refine hK _ _ ?_
  clear hK K
  refine pwp_seq (pwp_seq ?_)
  first | refine pwp_sr ?_ | refine pwp_regionM ?_
  intro K hK
  simp (disch := first | (refine Ok.mk ?_; (try simp only [Lm, La, Lc, Ln, Lt, Ld, Lr, Li, true_or, or_true, true_and, and_true]); omega) | (simp <;> fail) | skip) [runM_nil]
  refine hK _ _ ?_
  clear hK K
  refine pwp_block ?_
  refine pwp_loopK [0, 1, 2, 7, 8] (fun q st H' => ∃ i, i ≤ l.length ∧ fewN (l.take i) ≤ long ∧ q = l.length - i ∧ H' = H ∧ st = MS 43 [(0, .lst 1 es o), (1, .int .i64 many), (2, .int .i64 long), (7, .int .i64 (fewN (l.take i) : Nat)), (8, .int .i64 i)]) (n := l.length)
    ⟨_, .refl _, 0, Nat.zero_le _, by simp [fewN], rfl, rfl, by simp [keepL_MS, keepA, getS, fewN]⟩ ?_
  rintro q st H1 ⟨i, hi, hn, rfl, rfl, rfl⟩
  by_cases hlt : i < l.length
  · have g1 := hge i hlt
    have hri : l[i].length ≤ 1000000000000000 := hr _ (List.getElem_mem hlt)
    have hti : ∀ t ∈ l[i], t.length ≤ 1000000000000000 := ht _ (List.getElem_mem hlt)
    have hs1 : fewN (l.take (i + 1)) = fewN (l.take i) + recW l[i] := sum_take_succ _ _ _ hlt
    have hs2 : fewN (l.take (i + 1)) ≤ fewN l := sum_take_le _ _ _
    generalize hrr : l[i] = r at *
    generalize fewN (l.take i) = N at *
    refine pwp_seq (pwp_seq ?_)
    first | refine pwp_sr ?_ | refine pwp_regionM ?_
    intro K hK
    simp (disch := first | (refine Ok.mk ?_; (try simp only [Lm, La, Lc, Ln, Lt, Ld, Lr, Li, true_or, or_true, true_and, and_true]); omega) | (simp <;> fail) | skip) [runM_nil]
    refine hK _ _ ?_
    clear hK K
    refine pwp_cT (by simp) (pwp_skip ?_)
    refine pwp_seq (pwp_block ?_)
    refine pwp_seq ?_
    first | refine pwp_sr ?_ | refine pwp_regionM ?_
    intro K hK
    simp (disch := first | (refine Ok.mk ?_; (try simp only [Lm, La, Lc, Ln, Lt, Ld, Lr, Li, true_or, or_true, true_and, and_true]); omega) | (simp <;> fail) | skip) [runM_nil]
    refine hK _ _ ?_
    clear hK K
    refine pwp_block ?_
    have gk : ∀ k (h : k < r.length), (r.map sV)[k]? = some (sV r[k]) := fun k h => by rw [List.getElem?_map, List.getElem?_eq_getElem h]; rfl
    have hml : (r.map sV).length = r.length := List.length_map _
    refine pwp_loopK [0, 1, 2, 7, 8, 9] (fun q st H' => ∃ k, k ≤ r.length ∧ N + recW (r.take k) ≤ long ∧ q = r.length - k ∧ H' = H1 ∧ st = MS 43 [(0, .lst 1 es o), (1, .int .i64 many), (2, .int .i64 long), (7, .int .i64 (N + recW (r.take k) : Nat)), (8, .int .i64 i), (9, .int .i64 k)]) (n := r.length)
      ⟨_, .refl _, 0, Nat.zero_le _, by simpa [recW] using hn, rfl, rfl, by simp [keepL_MS, keepA, getS, recW]⟩ ?_
    rintro q st H2 ⟨k, hk, hkn, rfl, hH2, rfl⟩
    subst hH2
    by_cases hkl : k < r.length
    · have g2 := gk k hkl
      have htk : r[k].length ≤ 1000000000000000 := hti _ (List.getElem_mem hkl)
      have hs3 : recW (r.take (k + 1)) = recW (r.take k) + (1 + r[k].length) := sum_take_succ _ _ _ hkl
      have hs4 : recW (r.take (k + 1)) ≤ recW r := sum_take_le _ _ _
      generalize r[k] = t at *
      generalize recW (r.take k) = M at *
      generalize r.map sV = ts at *
      have hcl : (ci t).length = t.length := by simp [ci]
      refine pwp_seq (pwp_seq ?_)
      first | refine pwp_sr ?_ | refine pwp_regionM ?_
      intro K hK
      simp (disch := first | (refine Ok.mk ?_; (try simp only [Lm, La, Lc, Ln, Lt, Ld, Lr, Li, true_or, or_true, true_and, and_true]); omega) | (simp <;> fail) | skip) [runM_nil, g1, hml]
      refine hK _ _ ?_
      clear hK K
      refine pwp_cT (by simp) (pwp_skip ?_)
      refine pwp_seq (pwp_block ?_)
      first | refine pwp_sr ?_ | refine pwp_regionM ?_
      intro K hK
      simp (disch := first | (refine Ok.mk ?_; (try simp only [Lm, La, Lc, Ln, Lt, Ld, Lr, Li, true_or, or_true, true_and, and_true]); omega) | (simp <;> fail) | skip) [runM_nil, g1, g2, sV, hcl]
      refine hK _ _ ?_
      clear hK K
      have e7 : ((N : Int) + M + 1 + t.length) = (N : Int) + (recW (r.take (k + 1)) : Nat) := by omega
      by_cases hbig : N + recW (r.take (k + 1)) ≤ long
      · refine pwp_seq ?_
        first | refine pwp_sr ?_ | refine pwp_regionM ?_
        intro K hK
        simp (disch := first | (refine Ok.mk ?_; (try simp only [Lm, La, Lc, Ln, Lt, Ld, Lr, Li, true_or, or_true, true_and, and_true]); omega) | (simp <;> fail) | skip) [runM_nil]
        refine hK _ _ ?_
        clear hK K
        refine pwp_cF (by simp <;> omega) (pwp_skip ?_)
        first | refine pwp_sr ?_ | refine pwp_regionM ?_
        intro K hK
        simp (disch := first | (refine Ok.mk ?_; (try simp only [Lm, La, Lc, Ln, Lt, Ld, Lr, Li, true_or, or_true, true_and, and_true]); omega) | (simp <;> fail) | skip) [runM_nil]
        refine hK _ _ ?_
        clear hK K
        refine ⟨r.length - (k + 1), by omega, _, .refl _, k + 1, by omega, hbig, rfl, rfl, ?_⟩
        simp [keepL_MS, keepA, getS, e7]
      · refine pwp_seq ?_
        first | refine pwp_sr ?_ | refine pwp_regionM ?_
        intro K hK
        simp (disch := first | (refine Ok.mk ?_; (try simp only [Lm, La, Lc, Ln, Lt, Ld, Lr, Li, true_or, or_true, true_and, and_true]); omega) | (simp <;> fail) | skip) [runM_nil]
        refine hK _ _ ?_
        clear hK K
        refine pwp_cT (by simp <;> omega) ?_
        refine pwp_seq ?_
        first | refine pwp_sr ?_ | refine pwp_regionM ?_
        intro K hK
        simp (disch := first | (refine Ok.mk ?_; (try simp only [Lm, La, Lc, Ln, Lt, Ld, Lr, Li, true_or, or_true, true_and, and_true]); omega) | (simp <;> fail) | skip) [runM_nil]
        refine hK _ _ ?_
        clear hK K
        refine pwp_ret ⟨.inr rfl, _, _, (by simp [runM_nil, resL]; rfl), .refl _, ?_, rfl⟩
        have : ¬ fewN l ≤ long := by omega
        simp [resV, this]
    · obtain rfl : k = r.length := by omega
      generalize hts : r.map sV = ts at *
      refine pwp_seq (pwp_seq ?_)
      first | refine pwp_sr ?_ | refine pwp_regionM ?_
      intro K hK
      simp (disch := first | (refine Ok.mk ?_; (try simp only [Lm, La, Lc, Ln, Lt, Ld, Lr, Li, true_or, or_true, true_and, and_true]); omega) | (simp <;> fail) | skip) [runM_nil, g1, hml]
      refine hK _ _ ?_
      clear hK K
      refine pwp_cF (by simp) (pwp_exit ?_)
      first | refine pwp_sr ?_ | refine pwp_regionM ?_
      intro K hK
      simp (disch := first | (refine Ok.mk ?_; (try simp only [Lm, La, Lc, Ln, Lt, Ld, Lr, Li, true_or, or_true, true_and, and_true]); omega) | (simp <;> fail) | skip) [runM_nil]
      refine hK _ _ ?_
      clear hK K
      have htk : r.take r.length = r := List.take_of_length_le (Nat.le_refl _)
      rw [htk] at hkn
      refine ⟨l.length - (i + 1), by omega, _, .refl _, i + 1, by omega, by omega, rfl, rfl, ?_⟩
      simp [keepL_MS, keepA, getS, hs1]
  · obtain rfl : i = l.length := by omega
    refine pwp_seq (pwp_seq ?_)
    first | refine pwp_sr ?_ | refine pwp_regionM ?_
    intro K hK
    simp (disch := first | (refine Ok.mk ?_; (try simp only [Lm, La, Lc, Ln, Lt, Ld, Lr, Li, true_or, or_true, true_and, and_true]); omega) | (simp <;> fail) | skip) [runM_nil]
    refine hK _ _ ?_
    clear hK K
    refine pwp_cF (by simp) (pwp_exit ?_)
    first | refine pwp_sr ?_ | refine pwp_regionM ?_
    intro K hK
    simp (disch := first | (refine Ok.mk ?_; (try simp only [Lm, La, Lc, Ln, Lt, Ld, Lr, Li, true_or, or_true, true_and, and_true]); omega) | (simp <;> fail) | skip) [runM_nil]
    refine hK _ _ ?_
    clear hK K
    have htk : l.take l.length = l := List.take_of_length_le (Nat.le_refl _)
    rw [htk] at hn
    refine pwp_ret ⟨.inr rfl, _, _, (by simp [runM_nil, resL]; rfl), .refl _, by simp [resV, hn, hrl], rfl⟩
end Go.Proofs.YtdphjapaoaokmaaDoor.E
/- Whether any place is within quotes; sizes; the law of the right part. -/
namespace Go.Proofs.YtdphjapaoaokmaaDoor.E
open Go Go.RowKit Go.Proofs
set_option linter.unusedVariables false
set_option linter.unusedSimpArgs false
theorem inside2_ok {s : Nat} {xs : List PV} {o : Bool} {b : List Nat} (hx : xs = b.map u8) (hs : s = 1 ∨ b.length = 0) (hw : ∀ x ∈ b, x < 256) (hl : b.length ≤ 1000000) (n : Int) :
    PSpec Tryd.prog 20 [.lst s xs o, .int .i64 n] (.bool (par b n.toNat)) := by
  intro H
  have hxl : xs.length = b.length := by rw [hx, List.length_map]
  obtain ⟨k, hk⟩ : ∃ k, k = min n.toNat b.length := ⟨_, rfl⟩
  have hkb : k ≤ b.length := by omega
  have hs2 : s = 1 ∨ xs.length = 0 := by rw [hxl]; exact hs
  have hkx : k ≤ xs.length := by omega
  have htk : xs.take k = (b.take k).map u8 := by rw [hx, List.map_take]
  have hpk : par b n.toNat = par b k := by
    unfold par
    congr 1
    by_cases h : n.toNat ≤ b.length
    · rw [hk, Nat.min_eq_left h]
    · rw [hk, Nat.min_eq_right (by omega), List.take_length, List.take_of_length_le (by omega)]
  have hp : par b n.toNat = decide ((b.take k).count 34 % 2 = 1) := by rw [hpk, par, parM_count]; simp
  rw [hp]
  have hcl : (b.take k).count 34 ≤ 1000000 := by
    have := List.count_le_length (a := 34) (l := b.take k)
    rw [List.length_take] at this
    omega
  have c := count_ok (o := false) (q := false) (xs := (b.take k).map u8) rfl (hs.imp id fun h => by rw [List.length_take]; omega) (fun x hx => hw x (List.mem_of_mem_take hx)) 34 (by omega)
  obtain ⟨N, hN⟩ : ∃ N, N = n.toNat := ⟨_, rfl⟩
  have m2 : (if n < 0 then (0 : Int) else n) = (N : Int) := by split <;> omega
  have m3 : (if b.length < N then (b.length : Int) else (N : Int)) = (k : Int) := by split <;> omega
  generalize (b.take k).count 34 = m at *
  generalize (b.take k).map u8 = T at *
  refine spec_of t20 (by simp [p20]) ?_
  simp only [p20]
  first | refine pwp_sr ?_ | refine pwp_regionM ?_
  intro K hK
  simp (disch := first | (refine Ok.mk ?_; (try simp only [Lm, La, Lc, Ln, Lt, Ld, Lr, Li, true_or, or_true, true_and, and_true]); omega) | (simp <;> fail) | skip) [runM_nil]
  refine hK _ _ ?_
  clear hK K
  first | refine pwp_sr ?_ | refine pwp_regionM ?_
  intro K hK
  simp (disch := first | (refine Ok.mk ?_; (try simp only [Lm, La, Lc, Ln, Lt, Ld, Lr, Li, true_or, or_true, true_and, and_true]); omega) | (simp <;> fail) | skip) [runM_nil, hxl, m2, m3, htk]
  refine useP (c) ?_
  simp (disch := first | (refine Ok.mk ?_; (try simp only [Lm, La, Lc, Ln, Lt, Ld, Lr, Li, true_or, or_true, true_and, and_true]); omega) | (simp <;> fail) | skip) [runM_nil, hxl, m2, m3, htk]
  refine hK _ _ ?_
  clear hK K
  by_cases h1 : m % 2 = 1
  · have i1 : (m : Int) % 2 = 1 := by omega
    refine pwp_ret ⟨.inr rfl, _, _, (by simp (disch := first | (refine Ok.mk ?_; (try simp only [Lm, La, Lc, Ln, Lt, Ld, Lr, Li, true_or, or_true, true_and, and_true]); omega) | (simp <;> fail) | skip) [runM_nil, resL, h1, i1]; rfl), .refl _, by simp (disch := first | (refine Ok.mk ?_; (try simp only [Lm, La, Lc, Ln, Lt, Ld, Lr, Li, true_or, or_true, true_and, and_true]); omega) | (simp <;> fail) | skip) [resV, h1, i1], rfl⟩
  · have i1 : ¬ (m : Int) % 2 = 1 := by omega
    refine pwp_ret ⟨.inr rfl, _, _, (by simp (disch := first | (refine Ok.mk ?_; (try simp only [Lm, La, Lc, Ln, Lt, Ld, Lr, Li, true_or, or_true, true_and, and_true]); omega) | (simp <;> fail) | skip) [runM_nil, resL, h1, i1]; rfl), .refl _, by simp (disch := first | (refine Ok.mk ?_; (try simp only [Lm, La, Lc, Ln, Lt, Ld, Lr, Li, true_or, or_true, true_and, and_true]); omega) | (simp <;> fail) | skip) [resV, h1, i1], rfl⟩
theorem recW_tot (r : List (List Nat)) : recW r = totB r := by
  unfold recW totB
  congr 1
  exact List.map_congr_left fun f _ => Nat.add_comm ..
theorem fileB_few (l : List (List (List Nat))) : (fileB l).length ≤ 3 * fewN l + l.length := by
  unfold fileB fewN
  induction l with
  | nil => simp
  | cons r l ih =>
    rw [List.flatMap_cons, List.length_append, List.map_cons, List.sum_cons, List.length_cons]
    have h1 := lineB_tot r
    rw [← recW_tot] at h1
    omega
theorem recW_mem {l : List (List (List Nat))} {r : List (List Nat)} (h : r ∈ l) : recW r ≤ fewN l := by
  unfold fewN
  induction l with
  | nil => cases h
  | cons x l ih =>
    rw [List.map_cons, List.sum_cons]
    rcases List.mem_cons.1 h with rfl | h
    · omega
    · have := ih h; omega
theorem recW_len (r : List (List Nat)) : r.length ≤ recW r := by
  unfold recW
  induction r with
  | nil => simp
  | cons x l ih => rw [List.map_cons, List.sum_cons, List.length_cons]; omega
theorem csvScan_ok {o : Bool} {b : List Nat} (hw : ∀ x ∈ b, x < 256) (hl0 : b.length ≤ 140737488351232) (n : Int) :
    PSpec Tryd.prog 6 [.lst 1 (b.map u8) o, .int .i64 n] (.bool true) := by
  intro H
  have ca := alive_ok
  refine spec_of t6 (by simp [p6]) ?_
  simp only [p6]
  first | refine pwp_sr ?_ | refine pwp_regionM ?_
  intro K hK
  simp (disch := first | (refine Ok.mk ?_; (try simp only [Lm, La, Lc, Ln, Lt, Ld, Lr, Li, true_or, or_true, true_and, and_true]); omega) | (simp <;> fail) | skip) [runM_nil]
  refine hK _ _ ?_
  clear hK K
  rcases Nat.lt_or_ge 3000 b.length with h1 | h1
  · first | refine pwp_rif ?_ | refine pwp_rifE ?_
    intro K hK
    simp (disch := first | (refine Ok.mk ?_; (try simp only [Lm, La, Lc, Ln, Lt, Ld, Lr, Li, true_or, or_true, true_and, and_true]); omega) | (simp <;> fail) | skip) [runM_nil, h1]
    refine hK _ _ ?_
    clear hK K
    refine ifT (by simp (disch := first | (refine Ok.mk ?_; (try simp only [Lm, La, Lc, Ln, Lt, Ld, Lr, Li, true_or, or_true, true_and, and_true]); omega) | (simp <;> fail) | skip) [runM_nil]) ?_
    first | refine pwp_sr ?_ | refine pwp_regionM ?_
    intro K hK
    simp (disch := first | (refine Ok.mk ?_; (try simp only [Lm, La, Lc, Ln, Lt, Ld, Lr, Li, true_or, or_true, true_and, and_true]); omega) | (simp <;> fail) | skip) [runM_nil]
    refine useP (ca) ?_
    simp (disch := first | (refine Ok.mk ?_; (try simp only [Lm, La, Lc, Ln, Lt, Ld, Lr, Li, true_or, or_true, true_and, and_true]); omega) | (simp <;> fail) | skip) [runM_nil]
    refine hK _ _ ?_
    clear hK K
    refine pwp_retT ⟨.inr rfl, _, _, (by simp (disch := first | (refine Ok.mk ?_; (try simp only [Lm, La, Lc, Ln, Lt, Ld, Lr, Li, true_or, or_true, true_and, and_true]); omega) | (simp <;> fail) | skip) [runM_nil, resL]; rfl), .refl _, by simp (disch := first | (refine Ok.mk ?_; (try simp only [Lm, La, Lc, Ln, Lt, Ld, Lr, Li, true_or, or_true, true_and, and_true]); omega) | (simp <;> fail) | skip) [resV], rfl⟩
  have h2 : ¬ 3000 < b.length := by omega
  first | refine pwp_rif ?_ | refine pwp_rifE ?_
  intro K hK
  simp (disch := first | (refine Ok.mk ?_; (try simp only [Lm, La, Lc, Ln, Lt, Ld, Lr, Li, true_or, or_true, true_and, and_true]); omega) | (simp <;> fail) | skip) [runM_nil, h2]
  refine hK _ _ ?_
  clear hK K
  refine ifF (by simp (disch := first | (refine Ok.mk ?_; (try simp only [Lm, La, Lc, Ln, Lt, Ld, Lr, Li, true_or, or_true, true_and, and_true]); omega) | (simp <;> fail) | skip) [runM_nil]) (pwp_skip ?_)
  have c1 := scan_ok (s := 1) (xs := b.map u8) (o := false) (b := b) rfl (.inl rfl) hw (by omega)
  have c2 := rscan_ok (s := 1) (xs := b.map u8) (o := false) (b := b) rfl (.inl rfl) hw (by omega)
  have c3 := piecesSame_ok (l := (scanB b 0).1) (by have := scanB_len hw b.length 0 (by omega) (Bd.zero b); omega) (fun p hp => by
    have := (rowOkB_iff.1 ((scan_rows hw b.length 0 (by omega) (Bd.zero b)).1 p hp).1).2.1
    omega) (o := false) (q := false)
  have c4 := canon_ok (s := 1) (xs := b.map u8) (o := false) (b := b) rfl (.inl rfl) hw (by omega)
  have c5 := rcanon_ok (s := 1) (xs := b.map u8) (o := false) (b := b) rfl (.inl rfl) hw (by omega)
  have c6 := inside2_ok (s := 1) (xs := b.map u8) (o := false) (b := b) rfl (.inl rfl) hw (by omega) n
  have c7 := rinside_ok (s := 1) (xs := b.map u8) (o := false) (b := b) rfl (.inl rfl) hw (by omega) n
  have v1 := cvS_u8 (s := 1) (xs := b.map u8) (o := false) (l := b) rfl (.inl rfl) hw
  have hml : (b.map u8).length = b.length := List.length_map _
  simp only [scV] at c1 c2
  generalize (scanB b 0) = S at *
  obtain ⟨S1, S2, S3⟩ := S
  dsimp only at *
  generalize S1.map pcV = es at *
  generalize canonB b = cb at *
  generalize par b n.toNat = pb at *
  generalize b.map u8 = bs at *
  first | refine pwp_sr ?_ | refine pwp_regionM ?_
  intro K hK
  simp (disch := first | (refine Ok.mk ?_; (try simp only [Lm, La, Lc, Ln, Lt, Ld, Lr, Li, true_or, or_true, true_and, and_true]); omega) | (simp <;> fail) | skip) [runM_nil, hml]
  refine hK _ _ ?_
  clear hK K
  first | refine pwp_sr ?_ | refine pwp_regionM ?_
  intro K hK
  simp (disch := first | (refine Ok.mk ?_; (try simp only [Lm, La, Lc, Ln, Lt, Ld, Lr, Li, true_or, or_true, true_and, and_true]); omega) | (simp <;> fail) | skip) [runM_nil]
  refine useP (c1) ?_
  simp (disch := first | (refine Ok.mk ?_; (try simp only [Lm, La, Lc, Ln, Lt, Ld, Lr, Li, true_or, or_true, true_and, and_true]); omega) | (simp <;> fail) | skip) [runM_nil]
  refine hK _ _ ?_
  clear hK K
  first | refine pwp_sr ?_ | refine pwp_regionM ?_
  intro K hK
  simp (disch := first | (refine Ok.mk ?_; (try simp only [Lm, La, Lc, Ln, Lt, Ld, Lr, Li, true_or, or_true, true_and, and_true]); omega) | (simp <;> fail) | skip) [runM_nil]
  refine useP (c2) ?_
  simp (disch := first | (refine Ok.mk ?_; (try simp only [Lm, La, Lc, Ln, Lt, Ld, Lr, Li, true_or, or_true, true_and, and_true]); omega) | (simp <;> fail) | skip) [runM_nil]
  refine hK _ _ ?_
  clear hK K
  first | refine pwp_sr ?_ | refine pwp_regionM ?_
  intro K hK
  simp (disch := first | (refine Ok.mk ?_; (try simp only [Lm, La, Lc, Ln, Lt, Ld, Lr, Li, true_or, or_true, true_and, and_true]); omega) | (simp <;> fail) | skip) [runM_nil, v1]
  refine useP (ca) ?_
  simp (disch := first | (refine Ok.mk ?_; (try simp only [Lm, La, Lc, Ln, Lt, Ld, Lr, Li, true_or, or_true, true_and, and_true]); omega) | (simp <;> fail) | skip) [runM_nil, v1]
  refine useP (c3) ?_
  simp (disch := first | (refine Ok.mk ?_; (try simp only [Lm, La, Lc, Ln, Lt, Ld, Lr, Li, true_or, or_true, true_and, and_true]); omega) | (simp <;> fail) | skip) [runM_nil, v1]
  refine useP (c4) ?_
  simp (disch := first | (refine Ok.mk ?_; (try simp only [Lm, La, Lc, Ln, Lt, Ld, Lr, Li, true_or, or_true, true_and, and_true]); omega) | (simp <;> fail) | skip) [runM_nil, v1]
  refine useP (c5) ?_
  simp (disch := first | (refine Ok.mk ?_; (try simp only [Lm, La, Lc, Ln, Lt, Ld, Lr, Li, true_or, or_true, true_and, and_true]); omega) | (simp <;> fail) | skip) [runM_nil, v1]
  refine useP (c6) ?_
  simp (disch := first | (refine Ok.mk ?_; (try simp only [Lm, La, Lc, Ln, Lt, Ld, Lr, Li, true_or, or_true, true_and, and_true]); omega) | (simp <;> fail) | skip) [runM_nil, v1]
  refine useP (c7) ?_
  simp (disch := first | (refine Ok.mk ?_; (try simp only [Lm, La, Lc, Ln, Lt, Ld, Lr, Li, true_or, or_true, true_and, and_true]); omega) | (simp <;> fail) | skip) [runM_nil, v1]
  refine hK _ _ ?_
  clear hK K
  refine pwp_ret ⟨.inr rfl, _, _, (by simp (disch := first | (refine Ok.mk ?_; (try simp only [Lm, La, Lc, Ln, Lt, Ld, Lr, Li, true_or, or_true, true_and, and_true]); omega) | (simp <;> fail) | skip) [runM_nil, resL]; rfl), .refl _, by simp (disch := first | (refine Ok.mk ?_; (try simp only [Lm, La, Lc, Ln, Lt, Ld, Lr, Li, true_or, or_true, true_and, and_true]); omega) | (simp <;> fail) | skip) [resV], rfl⟩
end Go.Proofs.YtdphjapaoaokmaaDoor.E
/- What a row hands over, as bytes and numbers. -/
namespace Go.Proofs.YtdphjapaoaokmaaDoor.E
open Go Go.RowKit Go.Proofs Go.ChangeShapes Go.WideShapes
set_option linter.unusedVariables false
set_option linter.unusedSimpArgs false
theorem bytes_of {xs : List PV} (h : ∀ x ∈ xs, el false (fun ps => ∃ n : Int, ps = [.int .u8 n] ∧ (Lit.int .u8 n).wf = true) x) : ∃ l : List Nat, xs = l.map u8 ∧ ∀ x ∈ l, x < 256 := by
  induction xs with
  | nil => exact ⟨[], rfl, fun c hc => by cases hc⟩
  | cons x xs ih =>
    obtain ⟨l, rfl, hl⟩ := ih fun y hy => h y (List.mem_cons_of_mem _ hy)
    obtain ⟨n, e, hn⟩ := h x (List.mem_cons_self ..)
    cases e
    have hw : 0 ≤ n ∧ n ≤ 255 := by simpa [Lit.wf, IntKind.min, IntKind.max, IntKind.signed, IntKind.bits] using hn
    refine ⟨n.toNat :: l, ?_, fun c hc => ?_⟩
    · have : ((n.toNat : Nat) : Int) = n := by omega
      simp [u8, this]
    · rcases List.mem_cons.1 hc with rfl | hc
      · omega
      · exact hl c hc
theorem openBytes : OpnV Tryd.prog 28 1 (fun ps => ∃ l : List Nat, ps = [.lst 1 (l.map u8) false] ∧ (∀ x ∈ l, x < 256) ∧ l.length ≤ 140737488351232) :=
  (OpnV.slice (B := 1) false Tryd.underlying28 (by kernel_rfl) (by kernel_rfl) (OpnV.int Tryd.underlying5 (by kernel_rfl)) (fun _ => rfl) (by omega)).weaken (by
    rintro _ ⟨xs, rfl, h1, _, h2⟩
    obtain ⟨l, rfl, h3⟩ := bytes_of h2
    rw [List.length_map] at h1
    exact ⟨l, rfl, h3, by omega⟩)
theorem openIntB : OpnV Tryd.prog 3 1 (fun ps => ∃ n : Int, ps = [.int .i64 n] ∧ -9223372036854775808 ≤ n ∧ n ≤ 9223372036854775807) := (OpnV.int Tryd.underlying3 (by kernel_rfl)).weaken (by
  rintro _ ⟨n, rfl, h⟩
  have hw : -9223372036854775808 ≤ n ∧ n ≤ 9223372036854775807 := by simpa [Lit.wf, IntKind.min, IntKind.max, IntKind.signed, IntKind.bits] using h
  exact ⟨n, rfl, hw⟩)
theorem bytess_of {xs : List PV} (h : ∀ x ∈ xs, el false (fun ps => ∃ l : List Nat, ps = [.lst 1 (l.map u8) false] ∧ (∀ x ∈ l, x < 256) ∧ l.length ≤ 140737488351232) x) :
    ∃ ls : List (List Nat), xs = ls.map (fun p => .lst 1 (p.map u8) false) ∧ ∀ p ∈ ls, (∀ x ∈ p, x < 256) ∧ p.length ≤ 140737488351232 := by
  induction xs with
  | nil => exact ⟨[], rfl, fun c hc => by cases hc⟩
  | cons x xs ih =>
    obtain ⟨ls, rfl, hl⟩ := ih fun y hy => h y (List.mem_cons_of_mem _ hy)
    obtain ⟨p, e, hp⟩ := h x (List.mem_cons_self ..)
    cases e
    refine ⟨p :: ls, rfl, fun c hc => ?_⟩
    rcases List.mem_cons.1 hc with rfl | hc
    · exact hp
    · exact hl c hc
end Go.Proofs.YtdphjapaoaokmaaDoor.E
