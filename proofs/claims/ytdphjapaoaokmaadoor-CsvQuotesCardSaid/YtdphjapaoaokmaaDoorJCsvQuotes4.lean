/- Part 4 of the proof of CsvQuotes: what the program's functions come to. -/
import Derived.Test.YtdphjapaoaokmaaDoorJCsvQuotes2
import Derived.Test.YtdphjapaoaokmaaDoorJCsvQuotes3
import Derived.Test.YtdphjapaoaokmaaDoorL2
import Derived.Test.YtdphjapaoaokmaaDoorProg
/- Canonical files, by both; the same pieces. -/
namespace Go.Proofs.YtdphjapaoaokmaaDoor.E
open Go Go.RowKit Go.Proofs
set_option linter.unusedVariables false
set_option linter.unusedSimpArgs false
theorem equal_ok {s1 s2 : Nat} {xs ys : List PV} {o1 o2 : Bool} {a b : List Nat} (hx : xs = a.map u8) (hy : ys = b.map u8) (hs1 : s1 = 1 ∨ a.length = 0) (hs2 : s2 = 1 ∨ b.length = 0) (ha : ∀ x ∈ a, x < 256) (hb : ∀ x ∈ b, x < 256) :
    PSpec Tryd.prog 27 [.lst s1 xs o1, .lst s2 ys o2] (.bool (decide (a = b))) := by
  intro H
  have c1 := cvS_u8 (o := false) hx hs1 ha
  have c2 := cvS_u8 (o := false) hy hs2 hb
  refine spec_of t27 (by simp [p27]) ?_
  simp only [p27]
  first | refine pwp_sr ?_ | refine pwp_regionM ?_
  intro K hK
  simp (disch := first | (refine Ok.mk ?_; (try simp only [Lm, La, Lc, Ln, Lt, Ld, Lr, Li, true_or, or_true, true_and, and_true]); omega) | (simp <;> fail) | skip) [runM_nil]
  refine hK _ _ ?_
  clear hK K
  first | refine pwp_sr ?_ | refine pwp_regionM ?_
  intro K hK
  simp (disch := first | (refine Ok.mk ?_; (try simp only [Lm, La, Lc, Ln, Lt, Ld, Lr, Li, true_or, or_true, true_and, and_true]); omega) | (simp <;> fail) | skip) [runM_nil, c1, c2]
  refine hK _ _ ?_
  clear hK K
  refine pwp_ret ⟨.inr rfl, _, _, (by simp (disch := first | (refine Ok.mk ?_; (try simp only [Lm, La, Lc, Ln, Lt, Ld, Lr, Li, true_or, or_true, true_and, and_true]); omega) | (simp <;> fail) | skip) [runM_nil, resL]; rfl), .refl _, by simp (disch := first | (refine Ok.mk ?_; (try simp only [Lm, La, Lc, Ln, Lt, Ld, Lr, Li, true_or, or_true, true_and, and_true]); omega) | (simp <;> fail) | skip) [resV], rfl⟩
theorem piecesSame_ok {l : List (Nat × List (List Nat))} (hl : l.length ≤ 1000000) (hr : ∀ p ∈ l, p.2.length ≤ 1000000) {o q : Bool} : PSpec Tryd.prog 18 [.lst 2 (l.map pcV) o, .lst 2 (l.map pcV) q] (.bool true) := by
  intro H
  have hmix := mixS
  have hrl : (l.map pcV).length = l.length := List.length_map _
  have hge : ∀ i (h : i < l.length), (l.map pcV)[i]? = some (.agg [.int .i64 l[i].1, .lst 1 [.lst 1 (l[i].2.map sV) false] false]) := fun i h => by rw [List.getElem?_map, List.getElem?_eq_getElem h]; rfl
  refine spec_of t18 (by simp [p18]) ?_
  simp only [p18]
  generalize l.map pcV = es at *
  first | refine pwp_sr ?_ | refine pwp_regionM ?_
  intro K hK
  simp (disch := first | (refine Ok.mk ?_; (try simp only [Lm, La, Lc, Ln, Lt, Ld, Lr, Li, true_or, or_true, true_and, and_true]); omega) | (simp <;> fail) | skip) [runM_nil]
  refine hK _ _ ?_
  clear hK K
  refine pwp_seq ?_
  first | refine pwp_sr ?_ | refine pwp_regionM ?_
  intro K hK
  simp (disch := first | (refine Ok.mk ?_; (try simp only [Lm, La, Lc, Ln, Lt, Ld, Lr, Li, true_or, or_true, true_and, and_true]); omega) | (simp <;> fail) | skip) [runM_nil, hrl]
  refine hK _ _ ?_
  clear hK K
  refine pwp_cF (by simp) (pwp_skip ?_)
  refine pwp_seq (pwp_seq ?_)
  first | refine pwp_sr ?_ | refine pwp_regionM ?_
  intro K hK
  simp (disch := first | (refine Ok.mk ?_; (try simp only [Lm, La, Lc, Ln, Lt, Ld, Lr, Li, true_or, or_true, true_and, and_true]); omega) | (simp <;> fail) | skip) [runM_nil]
  refine hK _ _ ?_
  clear hK K
  refine pwp_block ?_
  refine pwp_loopK [0, 1, 5] (fun m st H' => ∃ i, i ≤ l.length ∧ m = l.length - i ∧ H' = H ∧ st = MS 42 [(0, .lst 2 es o), (1, .lst 2 es q), (5, .int .i64 i)]) (n := l.length)
    ⟨_, .refl _, 0, Nat.zero_le _, rfl, rfl, by simp [keepL_MS, keepA, getS]⟩ ?_
  rintro m st H1 ⟨i, hi, rfl, rfl, rfl⟩
  by_cases hlt : i < l.length
  · have g1 := hge i hlt
    have c := recsSame_ok (l := [l[i].2]) (by simp) (fun r h => by rw [List.mem_singleton.1 h]; exact hr _ (List.getElem_mem hlt)) (o := false) (q := false)
    simp only [rowsC, List.map_cons, List.map_nil] at c
    generalize l[i] = e at *
    refine pwp_seq ?_
    first | refine pwp_sr ?_ | refine pwp_regionM ?_
    intro K hK
    simp (disch := first | (refine Ok.mk ?_; (try simp only [Lm, La, Lc, Ln, Lt, Ld, Lr, Li, true_or, or_true, true_and, and_true]); omega) | (simp <;> fail) | skip) [runM_nil, hrl]
    refine hK _ _ ?_
    clear hK K
    refine pwp_cT (by simp) (pwp_skip ?_)
    refine pwp_seq (pwp_block ?_)
    first | refine pwp_sd hmix ?_ | refine pwp_drawM hmix ?_
    intro K hK
    simp (disch := first | (refine Ok.mk ?_; (try simp only [Lm, La, Lc, Ln, Lt, Ld, Lr, Li, true_or, or_true, true_and, and_true]); omega) | (simp <;> fail) | skip) [runM_nil, g1, hrl]
    refine useD (c) ?_
    simp (disch := first | (refine Ok.mk ?_; (try simp only [Lm, La, Lc, Ln, Lt, Ld, Lr, Li, true_or, or_true, true_and, and_true]); omega) | (simp <;> fail) | skip) [runM_nil, g1, hrl]
    refine hK _ _ ?_
    clear hK K
    refine pwp_cF (by simp) (pwp_skip ?_)
    first | refine pwp_sr ?_ | refine pwp_regionM ?_
    intro K hK
    simp (disch := first | (refine Ok.mk ?_; (try simp only [Lm, La, Lc, Ln, Lt, Ld, Lr, Li, true_or, or_true, true_and, and_true]); omega) | (simp <;> fail) | skip) [runM_nil]
    refine hK _ _ ?_
    clear hK K
    exact ⟨l.length - (i + 1), by omega, _, .refl _, i + 1, by omega, rfl, rfl, by simp [keepL_MS, keepA, getS]⟩
  · obtain rfl : i = l.length := by omega
    refine pwp_seq ?_
    first | refine pwp_sr ?_ | refine pwp_regionM ?_
    intro K hK
    simp (disch := first | (refine Ok.mk ?_; (try simp only [Lm, La, Lc, Ln, Lt, Ld, Lr, Li, true_or, or_true, true_and, and_true]); omega) | (simp <;> fail) | skip) [runM_nil, hrl]
    refine hK _ _ ?_
    clear hK K
    refine pwp_cF (by simp) (pwp_exit ?_)
    first | refine pwp_sr ?_ | refine pwp_regionM ?_
    intro K hK
    simp (disch := first | (refine Ok.mk ?_; (try simp only [Lm, La, Lc, Ln, Lt, Ld, Lr, Li, true_or, or_true, true_and, and_true]); omega) | (simp <;> fail) | skip) [runM_nil]
    refine hK _ _ ?_
    clear hK K
    refine pwp_ret ⟨.inr rfl, _, _, (by simp (disch := first | (refine Ok.mk ?_; (try simp only [Lm, La, Lc, Ln, Lt, Ld, Lr, Li, true_or, or_true, true_and, and_true]); omega) | (simp <;> fail) | skip) [runM_nil, resL]; rfl), .refl _, by simp (disch := first | (refine Ok.mk ?_; (try simp only [Lm, La, Lc, Ln, Lt, Ld, Lr, Li, true_or, or_true, true_and, and_true]); omega) | (simp <;> fail) | skip) [resV], rfl⟩
def canonB (b : List Nat) : Bool := decide ((scanB b 0).2.2 = 0) && decide (fileB (rowsB b) = b)
theorem rowsB_len {b : List Nat} (hw : ∀ x ∈ b, x < 256) : (rowsB b).length ≤ b.length := by
  unfold rowsB
  rw [List.length_map]
  exact scanB_len hw b.length 0 (by omega) (Bd.zero b)
theorem canon_ok {s : Nat} {xs : List PV} {o : Bool} {b : List Nat} (hx : xs = b.map u8) (hs : s = 1 ∨ b.length = 0) (hw : ∀ x ∈ b, x < 256) (hl : b.length ≤ 1000000) : PSpec Tryd.prog 15 [.lst s xs o] (.bool (canonB b)) := by
  intro H
  have c1 := scan_ok (o := false) hx hs hw hl
  obtain ⟨w1, w2, w3⟩ := rowsB_ok hw
  have hrl := rowsB_len hw
  have c2 := write_ok (l := rowsB b) (by omega) (fun r hr => by have := (rowOkB_iff.1 ((List.all_eq_true.1 w1) r hr)).2.1; omega) (by omega) (o := false)
  have c3 := equal_ok (o1 := false) (o2 := false) (a := fileB (rowsB b)) (b := b) rfl hx (.inl rfl) hs (fileB_lt w2) hw
  rw [wrV_ok w1] at c2
  have hB : canonB b = (decide ((scanB b 0).2.2 = 0) && decide (fileB (rowsB b) = b)) := rfl
  simp only [scV] at c1
  refine spec_of t15 (by simp [p15]) ?_
  simp only [p15]
  first | refine pwp_sr ?_ | refine pwp_regionM ?_
  intro K hK
  simp (disch := first | (refine Ok.mk ?_; (try simp only [Lm, La, Lc, Ln, Lt, Ld, Lr, Li, true_or, or_true, true_and, and_true]); omega) | (simp <;> fail) | skip) [runM_nil]
  refine hK _ _ ?_
  clear hK K
  have hrow : rowsB b = (scanB b 0).1.map (·.2) := rfl
  generalize hS : scanB b 0 = S at *
  obtain ⟨S1, S2, S3⟩ := S
  dsimp only at *
  rw [hrow] at hrl c2 c3 hB
  rw [List.length_map] at hrl
  first | refine pwp_sr ?_ | refine pwp_regionM ?_
  intro K hK
  simp (disch := first | (refine Ok.mk ?_; (try simp only [Lm, La, Lc, Ln, Lt, Ld, Lr, Li, true_or, or_true, true_and, and_true]); omega) | (simp <;> fail) | skip) [runM_nil]
  refine useP (c1) ?_
  simp (disch := first | (refine Ok.mk ?_; (try simp only [Lm, La, Lc, Ln, Lt, Ld, Lr, Li, true_or, or_true, true_and, and_true]); omega) | (simp <;> fail) | skip) [runM_nil]
  refine hK _ _ ?_
  clear hK K
  first | refine pwp_sr ?_ | refine pwp_regionM ?_
  intro K hK
  simp (disch := first | (refine Ok.mk ?_; (try simp only [Lm, La, Lc, Ln, Lt, Ld, Lr, Li, true_or, or_true, true_and, and_true]); omega) | (simp <;> fail) | skip) [runM_nil]
  refine hK _ _ ?_
  clear hK K
  have hge : ∀ i (h : i < S1.length), (S1.map pcV)[i]? = some (.agg [.int .i64 S1[i].1, .lst 1 [.lst 1 (S1[i].2.map sV) false] false]) := fun i h => by rw [List.getElem?_map, List.getElem?_eq_getElem h]; rfl
  have hml : (S1.map pcV).length = S1.length := List.length_map _
  have htk : ∀ i (h : i < S1.length), rowsC ((S1.take (i + 1)).map (·.2)) = rowsC ((S1.take i).map (·.2)) ++ [.lst 1 (S1[i].2.map sV) false] := fun i h => by
    rw [List.take_succ_eq_append_getElem h, List.map_append]
    unfold rowsC
    rw [List.map_append]
    rfl
  have htl : ∀ i, i ≤ S1.length → (rowsC ((S1.take i).map (·.2))).length = i := fun i h => by simp [rowsC]; omega
  generalize S1.map pcV = es at *
  refine pwp_seq (pwp_seq ?_)
  first | refine pwp_sr ?_ | refine pwp_regionM ?_
  intro K hK
  simp (disch := first | (refine Ok.mk ?_; (try simp only [Lm, La, Lc, Ln, Lt, Ld, Lr, Li, true_or, or_true, true_and, and_true]); omega) | (simp <;> fail) | skip) [runM_nil, hml]
  refine hK _ _ ?_
  clear hK K
  refine pwp_block ?_
  refine pwp_loopU [0, 5, 6, 17, 18, 19] (fun q st H' => ∃ i : Nat, i ≤ S1.length ∧ q = S1.length - i ∧ H' = H ∧ st = MS 44 [(0, .lst s xs o), (5, .int .i64 S3), (6, .lst 1 (rowsC ((S1.take i).map (·.2))) true), (17, .lst 2 es false), (18, .int .i64 S1.length), (19, .int .i64 i)]) (n := S1.length)
    ⟨_, _, keep_up (l' := [(0, .lst s xs o), (5, .int .i64 S3), (6, .lst 1 [] true), (17, .lst 2 es false), (18, .int .i64 S1.length), (19, .int .i64 0)]) (by simp), .refl _, 0, Nat.zero_le _, rfl, rfl, by simp [rowsC]⟩ ?_
  rintro q st H' ⟨i, hi, rfl, hH, rfl⟩
  subst hH
  by_cases hlt : i < S1.length
  · have g1 := hge i hlt
    have h2 := htk i hlt
    have h3 := htl i hi
    generalize rowsC ((S1.take i).map (·.2)) = A at *
    generalize S1[i] = e at *
    first | refine pwp_sr ?_ | refine pwp_regionM ?_
    intro K hK
    simp (disch := first | (refine Ok.mk ?_; (try simp only [Lm, La, Lc, Ln, Lt, Ld, Lr, Li, true_or, or_true, true_and, and_true]); omega) | (simp <;> fail) | skip) [runM_nil]
    refine hK _ _ ?_
    clear hK K
    refine pwp_seq (pwp_cT (by simp) (pwp_skip ?_))
    refine pwp_seq (pwp_block ?_)
    first | refine pwp_sr ?_ | refine pwp_regionM ?_
    intro K hK
    simp (disch := first | (refine Ok.mk ?_; (try simp only [Lm, La, Lc, Ln, Lt, Ld, Lr, Li, true_or, or_true, true_and, and_true]); omega) | (simp <;> fail) | skip) [runM_nil, g1, hml]
    intro bp h_bp
    try simp (disch := first | (refine Ok.mk ?_; (try simp only [Lm, La, Lc, Ln, Lt, Ld, Lr, Li, true_or, or_true, true_and, and_true]); omega) | (simp <;> fail) | skip) [runM_nil, g1, hml]
    refine hK _ _ ?_
    clear hK K
    first | refine pwp_sr ?_ | refine pwp_regionM ?_
    intro K hK
    simp (disch := first | (refine Ok.mk ?_; (try simp only [Lm, La, Lc, Ln, Lt, Ld, Lr, Li, true_or, or_true, true_and, and_true]); omega) | (simp <;> fail) | skip) [runM_nil, h3]
    refine hK _ _ ?_
    clear hK K
    first | refine pwp_sr ?_ | refine pwp_regionM ?_
    intro K hK
    simp (disch := first | (refine Ok.mk ?_; (try simp only [Lm, La, Lc, Ln, Lt, Ld, Lr, Li, true_or, or_true, true_and, and_true]); omega) | (simp <;> fail) | skip) [runM_nil]
    refine hK _ _ ?_
    clear hK K
    exact ⟨S1.length - (i + 1), by omega, _, _, keep_up (l' := [(0, .lst s xs o), (5, .int .i64 S3), (6, .lst 1 (A ++ [.lst 1 (e.2.map sV) false]) true), (17, .lst 2 es false), (18, .int .i64 S1.length), (19, .int .i64 (i + 1 : Nat))]) (by simp), .cons _ (.refl _), i + 1, by omega, rfl, rfl, by rw [h2]⟩
  · obtain rfl : i = S1.length := by omega
    rw [List.take_length]
    first | refine pwp_sr ?_ | refine pwp_regionM ?_
    intro K hK
    simp (disch := first | (refine Ok.mk ?_; (try simp only [Lm, La, Lc, Ln, Lt, Ld, Lr, Li, true_or, or_true, true_and, and_true]); omega) | (simp <;> fail) | skip) [runM_nil]
    refine hK _ _ ?_
    clear hK K
    refine pwp_seq (pwp_cF (by simp) (pwp_exit ?_))
    first | refine pwp_sr ?_ | refine pwp_regionM ?_
    intro K hK
    simp (disch := first | (refine Ok.mk ?_; (try simp only [Lm, La, Lc, Ln, Lt, Ld, Lr, Li, true_or, or_true, true_and, and_true]); omega) | (simp <;> fail) | skip) [runM_nil]
    refine useP (c2) ?_
    simp (disch := first | (refine Ok.mk ?_; (try simp only [Lm, La, Lc, Ln, Lt, Ld, Lr, Li, true_or, or_true, true_and, and_true]); omega) | (simp <;> fail) | skip) [runM_nil]
    refine hK _ _ ?_
    clear hK K
    by_cases he : S3 = 0
    · subst he
      first | refine pwp_sr ?_ | refine pwp_regionM ?_
      intro K hK
      simp (disch := first | (refine Ok.mk ?_; (try simp only [Lm, La, Lc, Ln, Lt, Ld, Lr, Li, true_or, or_true, true_and, and_true]); omega) | (simp <;> fail) | skip) [runM_nil]
      refine useP (c3) ?_
      simp (disch := first | (refine Ok.mk ?_; (try simp only [Lm, La, Lc, Ln, Lt, Ld, Lr, Li, true_or, or_true, true_and, and_true]); omega) | (simp <;> fail) | skip) [runM_nil]
      refine hK _ _ ?_
      clear hK K
      refine pwp_ret ⟨.inr rfl, _, _, (by simp (disch := first | (refine Ok.mk ?_; (try simp only [Lm, La, Lc, Ln, Lt, Ld, Lr, Li, true_or, or_true, true_and, and_true]); omega) | (simp <;> fail) | skip) [runM_nil, resL, hB]; rfl), .refl _, by simp (disch := first | (refine Ok.mk ?_; (try simp only [Lm, La, Lc, Ln, Lt, Ld, Lr, Li, true_or, or_true, true_and, and_true]); omega) | (simp <;> fail) | skip) [resV, hB], rfl⟩
    · have he2 : ¬ (S3 : Int) = 0 := by omega
      first | refine pwp_sr ?_ | refine pwp_regionM ?_
      intro K hK
      simp (disch := first | (refine Ok.mk ?_; (try simp only [Lm, La, Lc, Ln, Lt, Ld, Lr, Li, true_or, or_true, true_and, and_true]); omega) | (simp <;> fail) | skip) [runM_nil, he2]
      refine hK _ _ ?_
      clear hK K
      refine pwp_ret ⟨.inr rfl, _, _, (by simp (disch := first | (refine Ok.mk ?_; (try simp only [Lm, La, Lc, Ln, Lt, Ld, Lr, Li, true_or, or_true, true_and, and_true]); omega) | (simp <;> fail) | skip) [runM_nil, resL, hB, he]; rfl), .refl _, by simp (disch := first | (refine Ok.mk ?_; (try simp only [Lm, La, Lc, Ln, Lt, Ld, Lr, Li, true_or, or_true, true_and, and_true]); omega) | (simp <;> fail) | skip) [resV, hB, he], rfl⟩
theorem rcanon_ok {s : Nat} {xs : List PV} {o : Bool} {b : List Nat} (hx : xs = b.map u8) (hs : s = 1 ∨ b.length = 0) (hw : ∀ x ∈ b, x < 256) (hl : b.length ≤ 1000000) : PSpec Tryd.prog 19 [.lst s xs o] (.bool (canonB b)) := by
  intro H
  have c1 := rscan_ok (o := false) hx hs hw hl
  obtain ⟨w1, w2, w3⟩ := rowsB_ok hw
  have hrl := rowsB_len hw
  have c2 := rwrite_ok (l := rowsB b) (by omega) (fun r hr => by have := (rowOkB_iff.1 ((List.all_eq_true.1 w1) r hr)).2.1; omega) w2 (by omega) (o := false)
  rw [wrV_ok w1] at c2
  have v1 := cvS_u8 (o := false) (xs := (fileB (rowsB b)).map u8) rfl (.inl rfl) (fileB_lt w2)
  have v2 := cvS_u8 (o := false) hx hs hw
  have hB : canonB b = (decide ((scanB b 0).2.2 = 0) && decide (fileB (rowsB b) = b)) := rfl
  have hrow : rowsB b = (scanB b 0).1.map (·.2) := rfl
  have c3 := all_ok (l := (scanB b 0).1) (by rw [hrow, List.length_map] at hrl; omega) (o := false)
  rw [← hrow] at c3
  simp only [scV] at c1
  refine spec_of t19 (by simp [p19]) ?_
  simp only [p19]
  generalize scanB b 0 = S at *
  obtain ⟨S1, S2, S3⟩ := S
  dsimp only at *
  first | refine pwp_sr ?_ | refine pwp_regionM ?_
  intro K hK
  simp (disch := first | (refine Ok.mk ?_; (try simp only [Lm, La, Lc, Ln, Lt, Ld, Lr, Li, true_or, or_true, true_and, and_true]); omega) | (simp <;> fail) | skip) [runM_nil]
  refine hK _ _ ?_
  clear hK K
  first | refine pwp_sr ?_ | refine pwp_regionM ?_
  intro K hK
  simp (disch := first | (refine Ok.mk ?_; (try simp only [Lm, La, Lc, Ln, Lt, Ld, Lr, Li, true_or, or_true, true_and, and_true]); omega) | (simp <;> fail) | skip) [runM_nil]
  refine useP (c1) ?_
  simp (disch := first | (refine Ok.mk ?_; (try simp only [Lm, La, Lc, Ln, Lt, Ld, Lr, Li, true_or, or_true, true_and, and_true]); omega) | (simp <;> fail) | skip) [runM_nil]
  refine hK _ _ ?_
  clear hK K
  refine pwp_seq ?_
  by_cases he : S3 = 0
  · subst he
    first | refine pwp_rif ?_ | refine pwp_rifE ?_
    intro K hK
    simp (disch := first | (refine Ok.mk ?_; (try simp only [Lm, La, Lc, Ln, Lt, Ld, Lr, Li, true_or, or_true, true_and, and_true]); omega) | (simp <;> fail) | skip) [runM_nil]
    refine hK _ _ ?_
    clear hK K
    refine ifF (by simp [runM_nil]) (pwp_skip ?_)
    first | refine pwp_sr ?_ | refine pwp_regionM ?_
    intro K hK
    simp (disch := first | (refine Ok.mk ?_; (try simp only [Lm, La, Lc, Ln, Lt, Ld, Lr, Li, true_or, or_true, true_and, and_true]); omega) | (simp <;> fail) | skip) [runM_nil]
    refine useP (c3) ?_
    simp (disch := first | (refine Ok.mk ?_; (try simp only [Lm, La, Lc, Ln, Lt, Ld, Lr, Li, true_or, or_true, true_and, and_true]); omega) | (simp <;> fail) | skip) [runM_nil]
    refine useP (c2) ?_
    simp (disch := first | (refine Ok.mk ?_; (try simp only [Lm, La, Lc, Ln, Lt, Ld, Lr, Li, true_or, or_true, true_and, and_true]); omega) | (simp <;> fail) | skip) [runM_nil]
    refine hK _ _ ?_
    clear hK K
    first | refine pwp_sr ?_ | refine pwp_regionM ?_
    intro K hK
    simp (disch := first | (refine Ok.mk ?_; (try simp only [Lm, La, Lc, Ln, Lt, Ld, Lr, Li, true_or, or_true, true_and, and_true]); omega) | (simp <;> fail) | skip) [runM_nil, v1, v2]
    refine hK _ _ ?_
    clear hK K
    refine pwp_ret ⟨.inr rfl, _, _, (by simp (disch := first | (refine Ok.mk ?_; (try simp only [Lm, La, Lc, Ln, Lt, Ld, Lr, Li, true_or, or_true, true_and, and_true]); omega) | (simp <;> fail) | skip) [runM_nil, resL, hB]; rfl), .refl _, by simp (disch := first | (refine Ok.mk ?_; (try simp only [Lm, La, Lc, Ln, Lt, Ld, Lr, Li, true_or, or_true, true_and, and_true]); omega) | (simp <;> fail) | skip) [resV, hB], rfl⟩
  · have he2 : ¬ (S3 : Int) = 0 := by omega
    first | refine pwp_rif ?_ | refine pwp_rifE ?_
    intro K hK
    simp (disch := first | (refine Ok.mk ?_; (try simp only [Lm, La, Lc, Ln, Lt, Ld, Lr, Li, true_or, or_true, true_and, and_true]); omega) | (simp <;> fail) | skip) [runM_nil, he2]
    refine hK _ _ ?_
    clear hK K
    refine ifT (by simp (disch := first | (refine Ok.mk ?_; (try simp only [Lm, La, Lc, Ln, Lt, Ld, Lr, Li, true_or, or_true, true_and, and_true]); omega) | (simp <;> fail) | skip) [runM_nil, he2]) ?_
    first | refine pwp_sr ?_ | refine pwp_regionM ?_
    intro K hK
    simp (disch := first | (refine Ok.mk ?_; (try simp only [Lm, La, Lc, Ln, Lt, Ld, Lr, Li, true_or, or_true, true_and, and_true]); omega) | (simp <;> fail) | skip) [runM_nil]
    refine hK _ _ ?_
    clear hK K
    refine pwp_retT ⟨.inr rfl, _, _, (by simp [runM_nil, resL]; rfl), .refl _, by simp [resV, hB, he], rfl⟩
end Go.Proofs.YtdphjapaoaokmaaDoor.E
/- Few: how many records there are, and of how many bytes. -/
namespace Go.Proofs.YtdphjapaoaokmaaDoor.E
open Go Go.RowKit Go.Proofs
set_option linter.unusedVariables false
set_option linter.unusedSimpArgs false
/-- What the texts of a record count. -/
def recW (r : List (List Nat)) : Nat := (r.map fun t => 1 + t.length).sum
def fewN (l : List (List (List Nat))) : Nat := (l.map recW).sum
theorem sum_take_succ {α : Type} (f : α → Nat) (l : List α) (i : Nat) (h : i < l.length) : ((l.take (i + 1)).map f).sum = ((l.take i).map f).sum + f l[i] := by
  rw [List.take_succ_eq_append_getElem h]
  simp only [List.map_append, List.sum_append, List.map_cons, List.map_nil, List.sum_cons, List.sum_nil, Nat.add_zero]
theorem sum_take_le {α : Type} (f : α → Nat) (l : List α) (i : Nat) : ((l.take i).map f).sum ≤ (l.map f).sum := by
  conv => rhs; rw [← List.take_append_drop i l]
  simp only [List.map_append, List.sum_append]
  omega
theorem few_ok {l : List (List (List Nat))} {many long : Nat} (hl : l.length ≤ 1000000000000000) (hr : ∀ r ∈ l, r.length ≤ 1000000000000000) (ht : ∀ r ∈ l, ∀ t ∈ r, t.length ≤ 1000000000000000) (hm : many ≤ 1000000) (hg : long ≤ 1000000) {o : Bool} :
    PSpec Tryd.prog 11 [.lst 1 (rowsC l) o, .int .i64 many, .int .i64 long] (.bool (decide (fewN l ≤ long) && decide (l.length ≤ many))) := by
  intro H
  have hrl : (rowsC l).length = l.length := by simp [rowsC]
  have hge : ∀ i (h : i < l.length), (rowsC l)[i]? = some (.lst 1 (l[i].map sV) false) := fun i h => by rw [rowsC, List.getElem?_map, List.getElem?_eq_getElem h]; rfl
  refine spec_of t11 (by simp [p11]) ?_
  simp only [p11]
  generalize rowsC l = es at *
  first | refine pwp_sr ?_ | refine pwp_regionM ?_
  intro K hK
  simp (disch := first | (refine Ok.mk ?_; (try simp only [Lm, La, Lc, Ln, Lt, Ld, Lr, Li, true_or, or_true, true_and, and_true]); omega) | (simp <;> fail) | skip) [runM_nil]
  refine hK _ _ ?_
  clear hK K
  refine pwp_seq ?_
  first | refine pwp_sr ?_ | refine pwp_regionM ?_
  intro K hK
  simp (disch := first | (refine Ok.mk ?_; (try simp only [Lm, La, Lc, Ln, Lt, Ld, Lr, Li, true_or, or_true, true_and, and_true]); omega) | (simp <;> fail) | skip) [runM_nil]
  refine hK _ _ ?_
  clear hK K
  refine pwp_seq (pwp_seq ?_)
  first | refine pwp_sr ?_ | refine pwp_regionM ?_
  intro K hK
  simp (disch := first | (refine Ok.mk ?_; (try simp only [Lm, La, Lc, Ln, Lt, Ld, Lr, Li, true_or, or_true, true_and, and_true]); omega) | (simp <;> fail) | skip) [runM_nil]
  refine hK _ _ ?_
  clear hK K
  refine pwp_block ?_
  refine pwp_loopK [0, 1, 2, 7, 8] (fun q st H' => ∃ i, i ≤ l.length ∧ fewN (l.take i) ≤ long ∧ q = l.length - i ∧ H' = H ∧ st = MS 43 [(0, .lst 1 es o), (1, .int .i64 many), (2, .int .i64 long), (7, .int .i64 (fewN (l.take i) : Nat)), (8, .int .i64 i)]) (n := l.length)
    ⟨_, .refl _, 0, Nat.zero_le _, by simp [fewN], rfl, rfl, by simp [keepL_MS, keepA, getS, fewN]⟩ ?_
  rintro q st H1 ⟨i, hi, hn, rfl, rfl, rfl⟩
  by_cases hlt : i < l.length
  · have g1 := hge i hlt
    have hri : l[i].length ≤ 1000000000000000 := hr _ (List.getElem_mem hlt)
    have hti : ∀ t ∈ l[i], t.length ≤ 1000000000000000 := ht _ (List.getElem_mem hlt)
    have hs1 : fewN (l.take (i + 1)) = fewN (l.take i) + recW l[i] := sum_take_succ _ _ _ hlt
    have hs2 : fewN (l.take (i + 1)) ≤ fewN l := sum_take_le _ _ _
    generalize hrr : l[i] = r at *
    generalize fewN (l.take i) = N at *
    refine pwp_seq (pwp_seq ?_)
    first | refine pwp_sr ?_ | refine pwp_regionM ?_
    intro K hK
    simp (disch := first | (refine Ok.mk ?_; (try simp only [Lm, La, Lc, Ln, Lt, Ld, Lr, Li, true_or, or_true, true_and, and_true]); omega) | (simp <;> fail) | skip) [runM_nil]
    refine hK _ _ ?_
    clear hK K
    refine pwp_cT (by simp) (pwp_skip ?_)
    refine pwp_seq (pwp_block ?_)
    refine pwp_seq ?_
    first | refine pwp_sr ?_ | refine pwp_regionM ?_
    intro K hK
    simp (disch := first | (refine Ok.mk ?_; (try simp only [Lm, La, Lc, Ln, Lt, Ld, Lr, Li, true_or, or_true, true_and, and_true]); omega) | (simp <;> fail) | skip) [runM_nil]
    refine hK _ _ ?_
    clear hK K
    refine pwp_block ?_
    have gk : ∀ k (h : k < r.length), (r.map sV)[k]? = some (sV r[k]) := fun k h => by rw [List.getElem?_map, List.getElem?_eq_getElem h]; rfl
    have hml : (r.map sV).length = r.length := List.length_map _
    refine pwp_loopK [0, 1, 2, 7, 8, 9] (fun q st H' => ∃ k, k ≤ r.length ∧ N + recW (r.take k) ≤ long ∧ q = r.length - k ∧ H' = H1 ∧ st = MS 43 [(0, .lst 1 es o), (1, .int .i64 many), (2, .int .i64 long), (7, .int .i64 (N + recW (r.take k) : Nat)), (8, .int .i64 i), (9, .int .i64 k)]) (n := r.length)
      ⟨_, .refl _, 0, Nat.zero_le _, by simpa [recW] using hn, rfl, rfl, by simp [keepL_MS, keepA, getS, recW]⟩ ?_
    rintro q st H2 ⟨k, hk, hkn, rfl, hH2, rfl⟩
    subst hH2
    by_cases hkl : k < r.length
    · have g2 := gk k hkl
      have htk : r[k].length ≤ 1000000000000000 := hti _ (List.getElem_mem hkl)
      have hs3 : recW (r.take (k + 1)) = recW (r.take k) + (1 + r[k].length) := sum_take_succ _ _ _ hkl
      have hs4 : recW (r.take (k + 1)) ≤ recW r := sum_take_le _ _ _
      generalize r[k] = t at *
      generalize recW (r.take k) = M at *
      generalize r.map sV = ts at *
      have hcl : (ci t).length = t.length := by simp [ci]
      refine pwp_seq (pwp_seq ?_)
      first | refine pwp_sr ?_ | refine pwp_regionM ?_
      intro K hK
      simp (disch := first | (refine Ok.mk ?_; (try simp only [Lm, La, Lc, Ln, Lt, Ld, Lr, Li, true_or, or_true, true_and, and_true]); omega) | (simp <;> fail) | skip) [runM_nil, g1, hml]
      refine hK _ _ ?_
      clear hK K
      refine pwp_cT (by simp) (pwp_skip ?_)
      refine pwp_seq (pwp_block ?_)
      first | refine pwp_sr ?_ | refine pwp_regionM ?_
      intro K hK
      simp (disch := first | (refine Ok.mk ?_; (try simp only [Lm, La, Lc, Ln, Lt, Ld, Lr, Li, true_or, or_true, true_and, and_true]); omega) | (simp <;> fail) | skip) [runM_nil, g1, g2, sV, hcl]
      refine hK _ _ ?_
      clear hK K
      have e7 : ((N : Int) + M + 1 + t.length) = (N : Int) + (recW (r.take (k + 1)) : Nat) := by omega
      by_cases hbig : N + recW (r.take (k + 1)) ≤ long
      · refine pwp_seq ?_
        first | refine pwp_sr ?_ | refine pwp_regionM ?_
        intro K hK
        simp (disch := first | (refine Ok.mk ?_; (try simp only [Lm, La, Lc, Ln, Lt, Ld, Lr, Li, true_or, or_true, true_and, and_true]); omega) | (simp <;> fail) | skip) [runM_nil]
        refine hK _ _ ?_
        clear hK K
        refine pwp_cF (by simp <;> omega) (pwp_skip ?_)
        first | refine pwp_sr ?_ | refine pwp_regionM ?_
        intro K hK
        simp (disch := first | (refine Ok.mk ?_; (try simp only [Lm, La, Lc, Ln, Lt, Ld, Lr, Li, true_or, or_true, true_and, and_true]); omega) | (simp <;> fail) | skip) [runM_nil]
        refine hK _ _ ?_
        clear hK K
        refine ⟨r.length - (k + 1), by omega, _, .refl _, k + 1, by omega, hbig, rfl, rfl, ?_⟩
        simp [keepL_MS, keepA, getS, e7]
      · refine pwp_seq ?_
        first | refine pwp_sr ?_ | refine pwp_regionM ?_
        intro K hK
        simp (disch := first | (refine Ok.mk ?_; (try simp only [Lm, La, Lc, Ln, Lt, Ld, Lr, Li, true_or, or_true, true_and, and_true]); omega) | (simp <;> fail) | skip) [runM_nil]
        refine hK _ _ ?_
        clear hK K
        refine pwp_cT (by simp <;> omega) ?_
        refine pwp_seq ?_
        first | refine pwp_sr ?_ | refine pwp_regionM ?_
        intro K hK
        simp (disch := first | (refine Ok.mk ?_; (try simp only [Lm, La, Lc, Ln, Lt, Ld, Lr, Li, true_or, or_true, true_and, and_true]); omega) | (simp <;> fail) | skip) [runM_nil]
        refine hK _ _ ?_
        clear hK K
        refine pwp_ret ⟨.inr rfl, _, _, (by simp [runM_nil, resL]; rfl), .refl _, ?_, rfl⟩
        have : ¬ fewN l ≤ long := by omega
        simp [resV, this]
    · obtain rfl : k = r.length := by omega
      generalize hts : r.map sV = ts at *
      refine pwp_seq (pwp_seq ?_)
      first | refine pwp_sr ?_ | refine pwp_regionM ?_
      intro K hK
      simp (disch := first | (refine Ok.mk ?_; (try simp only [Lm, La, Lc, Ln, Lt, Ld, Lr, Li, true_or, or_true, true_and, and_true]); omega) | (simp <;> fail) | skip) [runM_nil, g1, hml]
      refine hK _ _ ?_
      clear hK K
      refine pwp_cF (by simp) (pwp_exit ?_)
      first | refine pwp_sr ?_ | refine pwp_regionM ?_
      intro K hK
      simp (disch := first | (refine Ok.mk ?_; (try simp only [Lm, La, Lc, Ln, Lt, Ld, Lr, Li, true_or, or_true, true_and, and_true]); omega) | (simp <;> fail) | skip) [runM_nil]
      refine hK _ _ ?_
      clear hK K
      have htk : r.take r.length = r := List.take_of_length_le (Nat.le_refl _)
      rw [htk] at hkn
      refine ⟨l.length - (i + 1), by omega, _, .refl _, i + 1, by omega, by omega, rfl, rfl, ?_⟩
      simp [keepL_MS, keepA, getS, hs1]
  · obtain rfl : i = l.length := by omega
    refine pwp_seq (pwp_seq ?_)
    first | refine pwp_sr ?_ | refine pwp_regionM ?_
    intro K hK
    simp (disch := first | (refine Ok.mk ?_; (try simp only [Lm, La, Lc, Ln, Lt, Ld, Lr, Li, true_or, or_true, true_and, and_true]); omega) | (simp <;> fail) | skip) [runM_nil]
    refine hK _ _ ?_
    clear hK K
    refine pwp_cF (by simp) (pwp_exit ?_)
    first | refine pwp_sr ?_ | refine pwp_regionM ?_
    intro K hK
    simp (disch := first | (refine Ok.mk ?_; (try simp only [Lm, La, Lc, Ln, Lt, Ld, Lr, Li, true_or, or_true, true_and, and_true]); omega) | (simp <;> fail) | skip) [runM_nil]
    refine hK _ _ ?_
    clear hK K
    have htk : l.take l.length = l := List.take_of_length_le (Nat.le_refl _)
    rw [htk] at hn
    refine pwp_ret ⟨.inr rfl, _, _, (by simp [runM_nil, resL]; rfl), .refl _, by simp [resV, hn, hrl], rfl⟩
end Go.Proofs.YtdphjapaoaokmaaDoor.E
/- Whether any place is within quotes; sizes; the law of the right part. -/
namespace Go.Proofs.YtdphjapaoaokmaaDoor.E
open Go Go.RowKit Go.Proofs
set_option linter.unusedVariables false
set_option linter.unusedSimpArgs false
theorem inside2_ok {s : Nat} {xs : List PV} {o : Bool} {b : List Nat} (hx : xs = b.map u8) (hs : s = 1 ∨ b.length = 0) (hw : ∀ x ∈ b, x < 256) (hl : b.length ≤ 1000000) (n : Int) :
    PSpec Tryd.prog 20 [.lst s xs o, .int .i64 n] (.bool (par b n.toNat)) := by
  intro H
  have hxl : xs.length = b.length := by rw [hx, List.length_map]
  obtain ⟨k, hk⟩ : ∃ k, k = min n.toNat b.length := ⟨_, rfl⟩
  have hkb : k ≤ b.length := by omega
  have hs2 : s = 1 ∨ xs.length = 0 := by rw [hxl]; exact hs
  have hkx : k ≤ xs.length := by omega
  have htk : xs.take k = (b.take k).map u8 := by rw [hx, List.map_take]
  have hpk : par b n.toNat = par b k := by
    unfold par
    congr 1
    by_cases h : n.toNat ≤ b.length
    · rw [hk, Nat.min_eq_left h]
    · rw [hk, Nat.min_eq_right (by omega), List.take_length, List.take_of_length_le (by omega)]
  have hp : par b n.toNat = decide ((b.take k).count 34 % 2 = 1) := by rw [hpk, par, parM_count]; simp
  rw [hp]
  have hcl : (b.take k).count 34 ≤ 1000000 := by
    have := List.count_le_length (a := 34) (l := b.take k)
    rw [List.length_take] at this
    omega
  have c := count_ok (o := false) (q := false) (xs := (b.take k).map u8) rfl (hs.imp id fun h => by rw [List.length_take]; omega) (fun x hx => hw x (List.mem_of_mem_take hx)) 34 (by omega)
  obtain ⟨N, hN⟩ : ∃ N, N = n.toNat := ⟨_, rfl⟩
  have m2 : (if n < 0 then (0 : Int) else n) = (N : Int) := by split <;> omega
  have m3 : (if b.length < N then (b.length : Int) else (N : Int)) = (k : Int) := by split <;> omega
  generalize (b.take k).count 34 = m at *
  generalize (b.take k).map u8 = T at *
  refine spec_of t20 (by simp [p20]) ?_
  simp only [p20]
  first | refine pwp_sr ?_ | refine pwp_regionM ?_
  intro K hK
  simp (disch := first | (refine Ok.mk ?_; (try simp only [Lm, La, Lc, Ln, Lt, Ld, Lr, Li, true_or, or_true, true_and, and_true]); omega) | (simp <;> fail) | skip) [runM_nil]
  refine hK _ _ ?_
  clear hK K
  first | refine pwp_sr ?_ | refine pwp_regionM ?_
  intro K hK
  simp (disch := first | (refine Ok.mk ?_; (try simp only [Lm, La, Lc, Ln, Lt, Ld, Lr, Li, true_or, or_true, true_and, and_true]); omega) | (simp <;> fail) | skip) [runM_nil, hxl, m2, m3, htk]
  refine useP (c) ?_
  simp (disch := first | (refine Ok.mk ?_; (try simp only [Lm, La, Lc, Ln, Lt, Ld, Lr, Li, true_or, or_true, true_and, and_true]); omega) | (simp <;> fail) | skip) [runM_nil, hxl, m2, m3, htk]
  refine hK _ _ ?_
  clear hK K
  by_cases h1 : m % 2 = 1
  · have i1 : (m : Int) % 2 = 1 := by omega
    refine pwp_ret ⟨.inr rfl, _, _, (by simp (disch := first | (refine Ok.mk ?_; (try simp only [Lm, La, Lc, Ln, Lt, Ld, Lr, Li, true_or, or_true, true_and, and_true]); omega) | (simp <;> fail) | skip) [runM_nil, resL, h1, i1]; rfl), .refl _, by simp (disch := first | (refine Ok.mk ?_; (try simp only [Lm, La, Lc, Ln, Lt, Ld, Lr, Li, true_or, or_true, true_and, and_true]); omega) | (simp <;> fail) | skip) [resV, h1, i1], rfl⟩
  · have i1 : ¬ (m : Int) % 2 = 1 := by omega
    refine pwp_ret ⟨.inr rfl, _, _, (by simp (disch := first | (refine Ok.mk ?_; (try simp only [Lm, La, Lc, Ln, Lt, Ld, Lr, Li, true_or, or_true, true_and, and_true]); omega) | (simp <;> fail) | skip) [runM_nil, resL, h1, i1]; rfl), .refl _, by simp (disch := first | (refine Ok.mk ?_; (try simp only [Lm, La, Lc, Ln, Lt, Ld, Lr, Li, true_or, or_true, true_and, and_true]); omega) | (simp <;> fail) | skip) [resV, h1, i1], rfl⟩
theorem recW_tot (r : List (List Nat)) : recW r = totB r := by
  unfold recW totB
  congr 1
  exact List.map_congr_left fun f _ => Nat.add_comm ..
theorem fileB_few (l : List (List (List Nat))) : (fileB l).length ≤ 3 * fewN l + l.length := by
  unfold fileB fewN
  induction l with
  | nil => simp
  | cons r l ih =>
    rw [List.flatMap_cons, List.length_append, List.map_cons, List.sum_cons, List.length_cons]
    have h1 := lineB_tot r
    rw [← recW_tot] at h1
    omega
theorem recW_mem {l : List (List (List Nat))} {r : List (List Nat)} (h : r ∈ l) : recW r ≤ fewN l := by
  unfold fewN
  induction l with
  | nil => cases h
  | cons x l ih =>
    rw [List.map_cons, List.sum_cons]
    rcases List.mem_cons.1 h with rfl | h
    · omega
    · have := ih h; omega
theorem recW_len (r : List (List Nat)) : r.length ≤ recW r := by
  unfold recW
  induction r with
  | nil => simp
  | cons x l ih => rw [List.map_cons, List.sum_cons, List.length_cons]; omega
theorem csvScan_ok {o : Bool} {b : List Nat} (hw : ∀ x ∈ b, x < 256) (hl0 : b.length ≤ 140737488351232) (n : Int) :
    PSpec Tryd.prog 6 [.lst 1 (b.map u8) o, .int .i64 n] (.bool true) := by
  intro H
  have ca := alive_ok
  refine spec_of t6 (by simp [p6]) ?_
  simp only [p6]
  first | refine pwp_sr ?_ | refine pwp_regionM ?_
  intro K hK
  simp (disch := first | (refine Ok.mk ?_; (try simp only [Lm, La, Lc, Ln, Lt, Ld, Lr, Li, true_or, or_true, true_and, and_true]); omega) | (simp <;> fail) | skip) [runM_nil]
  refine hK _ _ ?_
  clear hK K
  rcases Nat.lt_or_ge 3000 b.length with h1 | h1
  · first | refine pwp_rif ?_ | refine pwp_rifE ?_
    intro K hK
    simp (disch := first | (refine Ok.mk ?_; (try simp only [Lm, La, Lc, Ln, Lt, Ld, Lr, Li, true_or, or_true, true_and, and_true]); omega) | (simp <;> fail) | skip) [runM_nil, h1]
    refine hK _ _ ?_
    clear hK K
    refine ifT (by simp (disch := first | (refine Ok.mk ?_; (try simp only [Lm, La, Lc, Ln, Lt, Ld, Lr, Li, true_or, or_true, true_and, and_true]); omega) | (simp <;> fail) | skip) [runM_nil]) ?_
    first | refine pwp_sr ?_ | refine pwp_regionM ?_
    intro K hK
    simp (disch := first | (refine Ok.mk ?_; (try simp only [Lm, La, Lc, Ln, Lt, Ld, Lr, Li, true_or, or_true, true_and, and_true]); omega) | (simp <;> fail) | skip) [runM_nil]
    refine useP (ca) ?_
    simp (disch := first | (refine Ok.mk ?_; (try simp only [Lm, La, Lc, Ln, Lt, Ld, Lr, Li, true_or, or_true, true_and, and_true]); omega) | (simp <;> fail) | skip) [runM_nil]
    refine hK _ _ ?_
    clear hK K
    refine pwp_retT ⟨.inr rfl, _, _, (by simp (disch := first | (refine Ok.mk ?_; (try simp only [Lm, La, Lc, Ln, Lt, Ld, Lr, Li, true_or, or_true, true_and, and_true]); omega) | (simp <;> fail) | skip) [runM_nil, resL]; rfl), .refl _, by simp (disch := first | (refine Ok.mk ?_; (try simp only [Lm, La, Lc, Ln, Lt, Ld, Lr, Li, true_or, or_true, true_and, and_true]); omega) | (simp <;> fail) | skip) [resV], rfl⟩
  have h2 : ¬ 3000 < b.length := by omega
  first | refine pwp_rif ?_ | refine pwp_rifE ?_
  intro K hK
  simp (disch := first | (refine Ok.mk ?_; (try simp only [Lm, La, Lc, Ln, Lt, Ld, Lr, Li, true_or, or_true, true_and, and_true]); omega) | (simp <;> fail) | skip) [runM_nil, h2]
  refine hK _ _ ?_
  clear hK K
  refine ifF (by simp (disch := first | (refine Ok.mk ?_; (try simp only [Lm, La, Lc, Ln, Lt, Ld, Lr, Li, true_or, or_true, true_and, and_true]); omega) | (simp <;> fail) | skip) [runM_nil]) (pwp_skip ?_)
  have c1 := scan_ok (s := 1) (xs := b.map u8) (o := false) (b := b) rfl (.inl rfl) hw (by omega)
  have c2 := rscan_ok (s := 1) (xs := b.map u8) (o := false) (b := b) rfl (.inl rfl) hw (by omega)
  have c3 := piecesSame_ok (l := (scanB b 0).1) (by have := scanB_len hw b.length 0 (by omega) (Bd.zero b); omega) (fun p hp => by
    have := (rowOkB_iff.1 ((scan_rows hw b.length 0 (by omega) (Bd.zero b)).1 p hp).1).2.1
    omega) (o := false) (q := false)
  have c4 := canon_ok (s := 1) (xs := b.map u8) (o := false) (b := b) rfl (.inl rfl) hw (by omega)
  have c5 := rcanon_ok (s := 1) (xs := b.map u8) (o := false) (b := b) rfl (.inl rfl) hw (by omega)
  have c6 := inside2_ok (s := 1) (xs := b.map u8) (o := false) (b := b) rfl (.inl rfl) hw (by omega) n
  have c7 := rinside_ok (s := 1) (xs := b.map u8) (o := false) (b := b) rfl (.inl rfl) hw (by omega) n
  have v1 := cvS_u8 (s := 1) (xs := b.map u8) (o := false) (l := b) rfl (.inl rfl) hw
  have hml : (b.map u8).length = b.length := List.length_map _
  simp only [scV] at c1 c2
  generalize (scanB b 0) = S at *
  obtain ⟨S1, S2, S3⟩ := S
  dsimp only at *
  generalize S1.map pcV = es at *
  generalize canonB b = cb at *
  generalize par b n.toNat = pb at *
  generalize b.map u8 = bs at *
  first | refine pwp_sr ?_ | refine pwp_regionM ?_
  intro K hK
  simp (disch := first | (refine Ok.mk ?_; (try simp only [Lm, La, Lc, Ln, Lt, Ld, Lr, Li, true_or, or_true, true_and, and_true]); omega) | (simp <;> fail) | skip) [runM_nil, hml]
  refine hK _ _ ?_
  clear hK K
  first | refine pwp_sr ?_ | refine pwp_regionM ?_
  intro K hK
  simp (disch := first | (refine Ok.mk ?_; (try simp only [Lm, La, Lc, Ln, Lt, Ld, Lr, Li, true_or, or_true, true_and, and_true]); omega) | (simp <;> fail) | skip) [runM_nil]
  refine useP (c1) ?_
  simp (disch := first | (refine Ok.mk ?_; (try simp only [Lm, La, Lc, Ln, Lt, Ld, Lr, Li, true_or, or_true, true_and, and_true]); omega) | (simp <;> fail) | skip) [runM_nil]
  refine hK _ _ ?_
  clear hK K
  first | refine pwp_sr ?_ | refine pwp_regionM ?_
  intro K hK
  simp (disch := first | (refine Ok.mk ?_; (try simp only [Lm, La, Lc, Ln, Lt, Ld, Lr, Li, true_or, or_true, true_and, and_true]); omega) | (simp <;> fail) | skip) [runM_nil]
  refine useP (c2) ?_
  simp (disch := first | (refine Ok.mk ?_; (try simp only [Lm, La, Lc, Ln, Lt, Ld, Lr, Li, true_or, or_true, true_and, and_true]); omega) | (simp <;> fail) | skip) [runM_nil]
  refine hK _ _ ?_
  clear hK K
  first | refine pwp_sr ?_ | refine pwp_regionM ?_
  intro K hK
  simp (disch := first | (refine Ok.mk ?_; (try simp only [Lm, La, Lc, Ln, Lt, Ld, Lr, Li, true_or, or_true, true_and, and_true]); omega) | (simp <;> fail) | skip) [runM_nil, v1]
  refine useP (ca) ?_
  simp (disch := first | (refine Ok.mk ?_; (try simp only [Lm, La, Lc, Ln, Lt, Ld, Lr, Li, true_or, or_true, true_and, and_true]); omega) | (simp <;> fail) | skip) [runM_nil, v1]
  refine useP (c3) ?_
  simp (disch := first | (refine Ok.mk ?_; (try simp only [Lm, La, Lc, Ln, Lt, Ld, Lr, Li, true_or, or_true, true_and, and_true]); omega) | (simp <;> fail) | skip) [runM_nil, v1]
  refine useP (c4) ?_
  simp (disch := first | (refine Ok.mk ?_; (try simp only [Lm, La, Lc, Ln, Lt, Ld, Lr, Li, true_or, or_true, true_and, and_true]); omega) | (simp <;> fail) | skip) [runM_nil, v1]
  refine useP (c5) ?_
  simp (disch := first | (refine Ok.mk ?_; (try simp only [Lm, La, Lc, Ln, Lt, Ld, Lr, Li, true_or, or_true, true_and, and_true]); omega) | (simp <;> fail) | skip) [runM_nil, v1]
  refine useP (c6) ?_
  simp (disch := first | (refine Ok.mk ?_; (try simp only [Lm, La, Lc, Ln, Lt, Ld, Lr, Li, true_or, or_true, true_and, and_true]); omega) | (simp <;> fail) | skip) [runM_nil, v1]
  refine useP (c7) ?_
  simp (disch := first | (refine Ok.mk ?_; (try simp only [Lm, La, Lc, Ln, Lt, Ld, Lr, Li, true_or, or_true, true_and, and_true]); omega) | (simp <;> fail) | skip) [runM_nil, v1]
  refine hK _ _ ?_
  clear hK K
  refine pwp_ret ⟨.inr rfl, _, _, (by simp (disch := first | (refine Ok.mk ?_; (try simp only [Lm, La, Lc, Ln, Lt, Ld, Lr, Li, true_or, or_true, true_and, and_true]); omega) | (simp <;> fail) | skip) [runM_nil, resL]; rfl), .refl _, by simp (disch := first | (refine Ok.mk ?_; (try simp only [Lm, La, Lc, Ln, Lt, Ld, Lr, Li, true_or, or_true, true_and, and_true]); omega) | (simp <;> fail) | skip) [resV], rfl⟩
end Go.Proofs.YtdphjapaoaokmaaDoor.E
/- The law of what is written; there and back. -/
namespace Go.Proofs.YtdphjapaoaokmaaDoor.E
open Go Go.RowKit Go.Proofs
set_option linter.unusedVariables false
set_option linter.unusedSimpArgs false
theorem csvWrite_ok {o : Bool} {l : List (List (List Nat))} {s : List Nat} (hl : l.length ≤ 140737488351232) (hr : ∀ r ∈ l, r.length ≤ 140737488351232) (ht : ∀ r ∈ l, ∀ t ∈ r, (∀ x ∈ t, x < 256) ∧ t.length ≤ 140737488351232) (hs : ∀ x ∈ s, x < 256) (hsl : s.length ≤ 140737488351232) :
    PSpec Tryd.prog 4 [.lst 1 (rowsC l) o, .str (ci s)] (.bool true) := by
  intro H
  have ca := alive_ok
  have cf := few_ok (l := l) (many := 120) (long := 3000) (by omega) (fun r h => by have := hr r h; omega) (fun r h t h2 => by have := (ht r h t h2).2; omega) (by omega) (by omega) (o := false)
  have hcs : (ci s).length = s.length := Li
  refine spec_of t4 (by simp [p4]) ?_
  simp only [p4]
  have hge : ∀ i (h : i < l.length), (rowsC l)[i]? = some (.lst 1 (l[i].map sV) false) := fun i h => by unfold rowsC; rw [List.getElem?_map, List.getElem?_eq_getElem h]; rfl
  have hml : (rowsC l).length = l.length := List.length_map _
  first | refine pwp_sr ?_ | refine pwp_regionM ?_
  intro K hK
  simp (disch := first | (refine Ok.mk ?_; (try simp only [Lm, La, Lc, Ln, Lt, Ld, Lr, Li, true_or, or_true, true_and, and_true]); omega) | (simp <;> fail) | skip) [runM_nil]
  refine hK _ _ ?_
  clear hK K
  refine pwp_seq ?_
  by_cases hf : (decide (fewN l ≤ 3000) && decide (l.length ≤ 120)) = true
  · rw [hf] at cf
    simp only [Bool.and_eq_true, decide_eq_true_eq] at hf
    obtain ⟨hf1, hf2⟩ := hf
    by_cases h2 : 2000 < s.length
    · first | refine pwp_rif ?_ | refine pwp_rifE ?_
      intro K hK
      simp (disch := first | (refine Ok.mk ?_; (try simp only [Lm, La, Lc, Ln, Lt, Ld, Lr, Li, true_or, or_true, true_and, and_true]); omega) | (simp <;> fail) | skip) [runM_nil, hcs]
      refine useP (cf) ?_
      simp (disch := first | (refine Ok.mk ?_; (try simp only [Lm, La, Lc, Ln, Lt, Ld, Lr, Li, true_or, or_true, true_and, and_true]); omega) | (simp <;> fail) | skip) [runM_nil, hcs]
      refine hK _ _ ?_
      clear hK K
      refine ifT (by simp (disch := first | (refine Ok.mk ?_; (try simp only [Lm, La, Lc, Ln, Lt, Ld, Lr, Li, true_or, or_true, true_and, and_true]); omega) | (simp <;> fail) | skip) [runM_nil]) ?_
      first | refine pwp_sr ?_ | refine pwp_regionM ?_
      intro K hK
      simp (disch := first | (refine Ok.mk ?_; (try simp only [Lm, La, Lc, Ln, Lt, Ld, Lr, Li, true_or, or_true, true_and, and_true]); omega) | (simp <;> fail) | skip) [runM_nil]
      refine useP (ca) ?_
      simp (disch := first | (refine Ok.mk ?_; (try simp only [Lm, La, Lc, Ln, Lt, Ld, Lr, Li, true_or, or_true, true_and, and_true]); omega) | (simp <;> fail) | skip) [runM_nil]
      refine hK _ _ ?_
      clear hK K
      refine pwp_retT ⟨.inr rfl, _, _, (by simp (disch := first | (refine Ok.mk ?_; (try simp only [Lm, La, Lc, Ln, Lt, Ld, Lr, Li, true_or, or_true, true_and, and_true]); omega) | (simp <;> fail) | skip) [runM_nil, resL]; rfl), .refl _, by simp (disch := first | (refine Ok.mk ?_; (try simp only [Lm, La, Lc, Ln, Lt, Ld, Lr, Li, true_or, or_true, true_and, and_true]); omega) | (simp <;> fail) | skip) [resV], rfl⟩
    · first | refine pwp_rif ?_ | refine pwp_rifE ?_
      intro K hK
      simp (disch := first | (refine Ok.mk ?_; (try simp only [Lm, La, Lc, Ln, Lt, Ld, Lr, Li, true_or, or_true, true_and, and_true]); omega) | (simp <;> fail) | skip) [runM_nil, hcs]
      refine useP (cf) ?_
      simp (disch := first | (refine Ok.mk ?_; (try simp only [Lm, La, Lc, Ln, Lt, Ld, Lr, Li, true_or, or_true, true_and, and_true]); omega) | (simp <;> fail) | skip) [runM_nil, hcs]
      refine hK _ _ ?_
      clear hK K
      refine ifF (by simp [runM_nil]) (pwp_skip ?_)
      have hfl := fileB_few l
      have hrl : ∀ r ∈ l, r.length ≤ 1000000 := fun r h => by
        have h1 := recW_mem h
        have h2 := recW_len r
        omega
      have c1 := write_ok (l := l) (by omega) hrl (by omega) (o := false)
      have c2 := rwrite_ok (l := l) (by omega) hrl (fun r h t h2 => (ht r h t h2).1) (by omega) (o := false)
      have c3 := quote_ok (s := s) (by omega)
      have c4 := rquote_ok (s := s) (by omega) hs
      have hw3 : ∀ x ∈ wrB l, x < 256 := by
        unfold wrB
        split
        · exact fileB_lt fun r h t h2 => (ht r h t h2).1
        · intro x hx; cases hx
      have v1 := cvS_u8 (s := 1) (xs := (wrB l).map u8) (o := false) (l := wrB l) rfl (.inl rfl) hw3
      simp only [wrV] at c1 c2
      generalize rowsC l = es at *
      generalize (wrB l).map u8 = ws at *
      generalize wrB l = wb at *
      generalize wrE l = we at *
      generalize quoteB s = qs at *
      refine pwp_seq (pwp_seq ?_)
      first | refine pwp_sr ?_ | refine pwp_regionM ?_
      intro K hK
      simp (disch := first | (refine Ok.mk ?_; (try simp only [Lm, La, Lc, Ln, Lt, Ld, Lr, Li, true_or, or_true, true_and, and_true]); omega) | (simp <;> fail) | skip) [runM_nil]
      refine hK _ _ ?_
      clear hK K
      refine pwp_block ?_
      refine pwp_loopK [0, 1, 5] (fun q st H' => ∃ i : Nat, i ≤ l.length ∧ q = l.length - i ∧ H' = H ∧ st = MS 62 [(0, .lst 1 es o), (1, .str (ci s)), (5, .int .i64 i)]) (n := l.length)
        ⟨_, .refl _, 0, Nat.zero_le _, rfl, rfl, by simp [keepL_MS, keepA, getS]⟩ ?_
      rintro q st H' ⟨i, hi, rfl, hH, rfl⟩
      subst hH
      refine pwp_seq ?_
      by_cases hlt : i < l.length
      · have g1 := hge i hlt
        have hri := hr _ (List.getElem_mem hlt)
        have hml2 : (l[i].map sV).length = l[i].length := List.length_map _
        generalize l[i].map sV = rs at *
        generalize l[i] = r at *
        first | refine pwp_sr ?_ | refine pwp_regionM ?_
        intro K hK
        simp (disch := first | (refine Ok.mk ?_; (try simp only [Lm, La, Lc, Ln, Lt, Ld, Lr, Li, true_or, or_true, true_and, and_true]); omega) | (simp <;> fail) | skip) [runM_nil, hml]
        refine hK _ _ ?_
        clear hK K
        refine pwp_cT (by simp) (pwp_skip ?_)
        refine pwp_seq (pwp_block ?_)
        by_cases h100 : 100 < r.length
        · first | refine pwp_rif ?_ | refine pwp_rifE ?_
          intro K hK
          simp (disch := first | (refine Ok.mk ?_; (try simp only [Lm, La, Lc, Ln, Lt, Ld, Lr, Li, true_or, or_true, true_and, and_true]); omega) | (simp <;> fail) | skip) [runM_nil, g1, hml, hml2]
          refine hK _ _ ?_
          clear hK K
          refine ifT (by simp (disch := first | (refine Ok.mk ?_; (try simp only [Lm, La, Lc, Ln, Lt, Ld, Lr, Li, true_or, or_true, true_and, and_true]); omega) | (simp <;> fail) | skip) [runM_nil]) ?_
          first | refine pwp_sr ?_ | refine pwp_regionM ?_
          intro K hK
          simp (disch := first | (refine Ok.mk ?_; (try simp only [Lm, La, Lc, Ln, Lt, Ld, Lr, Li, true_or, or_true, true_and, and_true]); omega) | (simp <;> fail) | skip) [runM_nil]
          refine useP (ca) ?_
          simp (disch := first | (refine Ok.mk ?_; (try simp only [Lm, La, Lc, Ln, Lt, Ld, Lr, Li, true_or, or_true, true_and, and_true]); omega) | (simp <;> fail) | skip) [runM_nil]
          refine hK _ _ ?_
          clear hK K
          refine pwp_ret (And.intro (.inr rfl) ⟨_, _, (by simp (disch := first | (refine Ok.mk ?_; (try simp only [Lm, La, Lc, Ln, Lt, Ld, Lr, Li, true_or, or_true, true_and, and_true]); omega) | (simp <;> fail) | skip) [runM_nil, resL]; rfl), .refl _, by simp (disch := first | (refine Ok.mk ?_; (try simp only [Lm, La, Lc, Ln, Lt, Ld, Lr, Li, true_or, or_true, true_and, and_true]); omega) | (simp <;> fail) | skip) [resV], rfl⟩)
        · first | refine pwp_rif ?_ | refine pwp_rifE ?_
          intro K hK
          simp (disch := first | (refine Ok.mk ?_; (try simp only [Lm, La, Lc, Ln, Lt, Ld, Lr, Li, true_or, or_true, true_and, and_true]); omega) | (simp <;> fail) | skip) [runM_nil, g1, hml, hml2]
          refine hK _ _ ?_
          clear hK K
          refine ifF (by simp [runM_nil]) (pwp_skip ?_)
          first | refine pwp_sr ?_ | refine pwp_regionM ?_
          intro K hK
          simp (disch := first | (refine Ok.mk ?_; (try simp only [Lm, La, Lc, Ln, Lt, Ld, Lr, Li, true_or, or_true, true_and, and_true]); omega) | (simp <;> fail) | skip) [runM_nil]
          refine hK _ _ ?_
          clear hK K
          exact ⟨l.length - (i + 1), by omega, _, .refl _, i + 1, by omega, rfl, rfl, by simp [keepL_MS, keepA, getS]⟩
      · obtain rfl : i = l.length := by omega
        first | refine pwp_sr ?_ | refine pwp_regionM ?_
        intro K hK
        simp (disch := first | (refine Ok.mk ?_; (try simp only [Lm, La, Lc, Ln, Lt, Ld, Lr, Li, true_or, or_true, true_and, and_true]); omega) | (simp <;> fail) | skip) [runM_nil, hml]
        refine hK _ _ ?_
        clear hK K
        refine pwp_cF (by simp) (pwp_exit ?_)
        first | refine pwp_sr ?_ | refine pwp_regionM ?_
        intro K hK
        simp (disch := first | (refine Ok.mk ?_; (try simp only [Lm, La, Lc, Ln, Lt, Ld, Lr, Li, true_or, or_true, true_and, and_true]); omega) | (simp <;> fail) | skip) [runM_nil]
        refine useP (c1) ?_
        simp (disch := first | (refine Ok.mk ?_; (try simp only [Lm, La, Lc, Ln, Lt, Ld, Lr, Li, true_or, or_true, true_and, and_true]); omega) | (simp <;> fail) | skip) [runM_nil]
        refine hK _ _ ?_
        clear hK K
        first | refine pwp_sr ?_ | refine pwp_regionM ?_
        intro K hK
        simp (disch := first | (refine Ok.mk ?_; (try simp only [Lm, La, Lc, Ln, Lt, Ld, Lr, Li, true_or, or_true, true_and, and_true]); omega) | (simp <;> fail) | skip) [runM_nil]
        refine useP (c2) ?_
        simp (disch := first | (refine Ok.mk ?_; (try simp only [Lm, La, Lc, Ln, Lt, Ld, Lr, Li, true_or, or_true, true_and, and_true]); omega) | (simp <;> fail) | skip) [runM_nil]
        refine hK _ _ ?_
        clear hK K
        first | refine pwp_sr ?_ | refine pwp_regionM ?_
        intro K hK
        simp (disch := first | (refine Ok.mk ?_; (try simp only [Lm, La, Lc, Ln, Lt, Ld, Lr, Li, true_or, or_true, true_and, and_true]); omega) | (simp <;> fail) | skip) [runM_nil, v1, strP]
        refine useP (ca) ?_
        simp (disch := first | (refine Ok.mk ?_; (try simp only [Lm, La, Lc, Ln, Lt, Ld, Lr, Li, true_or, or_true, true_and, and_true]); omega) | (simp <;> fail) | skip) [runM_nil, v1, strP]
        refine useP (c3) ?_
        simp (disch := first | (refine Ok.mk ?_; (try simp only [Lm, La, Lc, Ln, Lt, Ld, Lr, Li, true_or, or_true, true_and, and_true]); omega) | (simp <;> fail) | skip) [runM_nil, v1, strP]
        refine useP (c4) ?_
        simp (disch := first | (refine Ok.mk ?_; (try simp only [Lm, La, Lc, Ln, Lt, Ld, Lr, Li, true_or, or_true, true_and, and_true]); omega) | (simp <;> fail) | skip) [runM_nil, v1, strP]
        refine hK _ _ ?_
        clear hK K
        refine pwp_ret ⟨.inr rfl, _, _, (by simp (disch := first | (refine Ok.mk ?_; (try simp only [Lm, La, Lc, Ln, Lt, Ld, Lr, Li, true_or, or_true, true_and, and_true]); omega) | (simp <;> fail) | skip) [runM_nil, resL]; rfl), .refl _, by simp (disch := first | (refine Ok.mk ?_; (try simp only [Lm, La, Lc, Ln, Lt, Ld, Lr, Li, true_or, or_true, true_and, and_true]); omega) | (simp <;> fail) | skip) [resV], rfl⟩
  · rw [Bool.not_eq_true] at hf
    rw [hf] at cf
    first | refine pwp_rif ?_ | refine pwp_rifE ?_
    intro K hK
    simp (disch := first | (refine Ok.mk ?_; (try simp only [Lm, La, Lc, Ln, Lt, Ld, Lr, Li, true_or, or_true, true_and, and_true]); omega) | (simp <;> fail) | skip) [runM_nil]
    refine useP (cf) ?_
    simp (disch := first | (refine Ok.mk ?_; (try simp only [Lm, La, Lc, Ln, Lt, Ld, Lr, Li, true_or, or_true, true_and, and_true]); omega) | (simp <;> fail) | skip) [runM_nil]
    refine hK _ _ ?_
    clear hK K
    refine ifT (by simp (disch := first | (refine Ok.mk ?_; (try simp only [Lm, La, Lc, Ln, Lt, Ld, Lr, Li, true_or, or_true, true_and, and_true]); omega) | (simp <;> fail) | skip) [runM_nil]) ?_
    first | refine pwp_sr ?_ | refine pwp_regionM ?_
    intro K hK
    simp (disch := first | (refine Ok.mk ?_; (try simp only [Lm, La, Lc, Ln, Lt, Ld, Lr, Li, true_or, or_true, true_and, and_true]); omega) | (simp <;> fail) | skip) [runM_nil]
    refine useP (ca) ?_
    simp (disch := first | (refine Ok.mk ?_; (try simp only [Lm, La, Lc, Ln, Lt, Ld, Lr, Li, true_or, or_true, true_and, and_true]); omega) | (simp <;> fail) | skip) [runM_nil]
    refine hK _ _ ?_
    clear hK K
    refine pwp_retT ⟨.inr rfl, _, _, (by simp (disch := first | (refine Ok.mk ?_; (try simp only [Lm, La, Lc, Ln, Lt, Ld, Lr, Li, true_or, or_true, true_and, and_true]); omega) | (simp <;> fail) | skip) [runM_nil, resL]; rfl), .refl _, by simp (disch := first | (refine Ok.mk ?_; (try simp only [Lm, La, Lc, Ln, Lt, Ld, Lr, Li, true_or, or_true, true_and, and_true]); omega) | (simp <;> fail) | skip) [resV], rfl⟩
theorem canonB_file {l : List (List (List Nat))} (h : ∀ r ∈ l, ∀ f ∈ r, ∀ x ∈ f, x < 256) (hok : okB l = true) : canonB (fileB l) = true := by
  obtain ⟨ps, h1, h2⟩ := scan_back h hok
  unfold canonB
  rw [rowsB_back h hok, h1]
  simp
theorem csvBack_ok {o q : Bool} {l : List (List (List Nat))} {b : List Nat} (hl : l.length ≤ 140737488351232) (hr : ∀ r ∈ l, r.length ≤ 140737488351232) (ht : ∀ r ∈ l, ∀ t ∈ r, (∀ x ∈ t, x < 256) ∧ t.length ≤ 140737488351232) (hw : ∀ x ∈ b, x < 256) (hbl : b.length ≤ 140737488351232) :
    PSpec Tryd.prog 5 [.lst 1 (rowsC l) o, .lst 1 (b.map u8) q] (.bool true) := by
  intro H
  have ca := alive_ok
  have cf := few_ok (l := l) (many := 120) (long := 3000) (by omega) (fun r h => by have := hr r h; omega) (fun r h t h2 => by have := (ht r h t h2).2; omega) (by omega) (by omega) (o := false)
  refine spec_of t5 (by simp [p5]) ?_
  simp only [p5]
  first | refine pwp_sr ?_ | refine pwp_regionM ?_
  intro K hK
  simp (disch := first | (refine Ok.mk ?_; (try simp only [Lm, La, Lc, Ln, Lt, Ld, Lr, Li, true_or, or_true, true_and, and_true]); omega) | (simp <;> fail) | skip) [runM_nil]
  refine hK _ _ ?_
  clear hK K
  refine pwp_seq ?_
  by_cases hf : (decide (fewN l ≤ 3000) && decide (l.length ≤ 120)) = true
  · rw [hf] at cf
    simp only [Bool.and_eq_true, decide_eq_true_eq] at hf
    obtain ⟨hf1, hf2⟩ := hf
    have hbm : (b.map u8).length = b.length := List.length_map _
    by_cases h2 : 3000 < b.length
    · first | refine pwp_rif ?_ | refine pwp_rifE ?_
      intro K hK
      simp (disch := first | (refine Ok.mk ?_; (try simp only [Lm, La, Lc, Ln, Lt, Ld, Lr, Li, true_or, or_true, true_and, and_true]); omega) | (simp <;> fail) | skip) [runM_nil, hbm]
      refine useP (cf) ?_
      simp (disch := first | (refine Ok.mk ?_; (try simp only [Lm, La, Lc, Ln, Lt, Ld, Lr, Li, true_or, or_true, true_and, and_true]); omega) | (simp <;> fail) | skip) [runM_nil, hbm]
      refine hK _ _ ?_
      clear hK K
      refine ifT (by simp (disch := first | (refine Ok.mk ?_; (try simp only [Lm, La, Lc, Ln, Lt, Ld, Lr, Li, true_or, or_true, true_and, and_true]); omega) | (simp <;> fail) | skip) [runM_nil]) ?_
      first | refine pwp_sr ?_ | refine pwp_regionM ?_
      intro K hK
      simp (disch := first | (refine Ok.mk ?_; (try simp only [Lm, La, Lc, Ln, Lt, Ld, Lr, Li, true_or, or_true, true_and, and_true]); omega) | (simp <;> fail) | skip) [runM_nil]
      refine useP (ca) ?_
      simp (disch := first | (refine Ok.mk ?_; (try simp only [Lm, La, Lc, Ln, Lt, Ld, Lr, Li, true_or, or_true, true_and, and_true]); omega) | (simp <;> fail) | skip) [runM_nil]
      refine hK _ _ ?_
      clear hK K
      refine pwp_retT ⟨.inr rfl, _, _, (by simp (disch := first | (refine Ok.mk ?_; (try simp only [Lm, La, Lc, Ln, Lt, Ld, Lr, Li, true_or, or_true, true_and, and_true]); omega) | (simp <;> fail) | skip) [runM_nil, resL]; rfl), .refl _, by simp (disch := first | (refine Ok.mk ?_; (try simp only [Lm, La, Lc, Ln, Lt, Ld, Lr, Li, true_or, or_true, true_and, and_true]); omega) | (simp <;> fail) | skip) [resV], rfl⟩
    · first | refine pwp_rif ?_ | refine pwp_rifE ?_
      intro K hK
      simp (disch := first | (refine Ok.mk ?_; (try simp only [Lm, La, Lc, Ln, Lt, Ld, Lr, Li, true_or, or_true, true_and, and_true]); omega) | (simp <;> fail) | skip) [runM_nil, hbm]
      refine useP (cf) ?_
      simp (disch := first | (refine Ok.mk ?_; (try simp only [Lm, La, Lc, Ln, Lt, Ld, Lr, Li, true_or, or_true, true_and, and_true]); omega) | (simp <;> fail) | skip) [runM_nil, hbm]
      refine hK _ _ ?_
      clear hK K
      refine ifF (by simp [runM_nil]) (pwp_skip ?_)
      have hfl := fileB_few l
      have hrl : ∀ r ∈ l, r.length ≤ 1000000 := fun r h => by
        have h1 := recW_mem h
        have h2 := recW_len r
        omega
      have htw : ∀ r ∈ l, ∀ f ∈ r, ∀ x ∈ f, x < 256 := fun r h t h2 => (ht r h t h2).1
      have c1 := write_ok (l := l) (by omega) hrl (by omega) (o := false)
      obtain ⟨w1, w2, w3⟩ := rowsB_ok hw
      have hrb := rowsB_len hw
      have d1 := scan_ok (s := 1) (xs := b.map u8) (o := false) (b := b) rfl (.inl rfl) hw (by omega)
      have d2 := all_ok (l := (scanB b 0).1) (by have := hrb; unfold rowsB at this; rw [List.length_map] at this; omega) (o := false)
      have d3 := write_ok (l := rowsB b) (by omega) (fun r hr => by have := (rowOkB_iff.1 ((List.all_eq_true.1 w1) r hr)).2.1; omega) (by omega) (o := false)
      have d4 := canon_ok (s := 1) (xs := b.map u8) (o := false) (b := b) rfl (.inl rfl) hw (by omega)
      have d5 := canon_ok (s := 1) (xs := (fileB (rowsB b)).map u8) (o := false) (b := fileB (rowsB b)) rfl (.inl rfl) (fileB_lt w2) (by omega)
      rw [wrV_ok w1] at d3
      rw [canonB_file w2 w1] at d5
      have v1 := cvS_u8 (s := 1) (xs := (fileB (rowsB b)).map u8) (o := false) rfl (.inl rfl) (fileB_lt w2)
      have v2 := cvS_u8 (s := 1) (xs := b.map u8) (o := false) (l := b) rfl (.inl rfl) hw
      have hB : canonB b = (decide ((scanB b 0).2.2 = 0) && decide (fileB (rowsB b) = b)) := rfl
      have hrow : rowsB b = (scanB b 0).1.map (·.2) := rfl
      rw [← hrow] at d2
      simp only [scV] at d1
      generalize canonB b = cb at *
      generalize scanB b 0 = S at *
      generalize fileB (rowsB b) = fb at *
      generalize rowsB b = rb at *
      obtain ⟨S1, S2, S3⟩ := S
      dsimp only at *
      simp only [wrV] at c1
      generalize hws : (wrB l).map u8 = ws at *
      generalize hwe : wrE l = we at *
      first | refine pwp_sr ?_ | refine pwp_regionM ?_
      intro K hK
      simp (disch := first | (refine Ok.mk ?_; (try simp only [Lm, La, Lc, Ln, Lt, Ld, Lr, Li, true_or, or_true, true_and, and_true]); omega) | (simp <;> fail) | skip) [runM_nil]
      refine useP (c1) ?_
      simp (disch := first | (refine Ok.mk ?_; (try simp only [Lm, La, Lc, Ln, Lt, Ld, Lr, Li, true_or, or_true, true_and, and_true]); omega) | (simp <;> fail) | skip) [runM_nil]
      refine hK _ _ ?_
      clear hK K
      refine pwp_cut [1] (fun st' H' => H' = H ∧ st' = MS 90 [(1, .lst 1 (b.map u8) q)]) ?_ ?_
      · cases hok : okB l with
        | true =>
          obtain ⟨ps, h3, h4⟩ := scan_back htw hok
          have hpl : ps.length = l.length := by rw [← h4, List.length_map]
          have e1 := scan_ok (s := 1) (xs := (fileB l).map u8) (o := false) (b := fileB l) rfl (.inl rfl) (fileB_lt htw) (by omega)
          have e2 := canon_ok (s := 1) (xs := (fileB l).map u8) (o := false) (b := fileB l) rfl (.inl rfl) (fileB_lt htw) (by omega)
          have e3 := all_ok (l := ps) (by omega) (o := false)
          have e4 := recsSame_ok (l := l) (by omega) hrl (o := false) (q := false)
          have hfm : ((fileB l).map u8).length = (fileB l).length := List.length_map _
          rw [h3] at e1
          rw [canonB_file htw hok] at e2
          rw [h4] at e3
          simp only [scV] at e1
          unfold wrB at hws
          unfold wrE at hwe
          rw [if_pos hok] at hws hwe
          subst hws hwe
          generalize (fileB l).map u8 = fs at *
          generalize rowsC l = es at *
          first | refine pwp_rif ?_ | refine pwp_rifE ?_
          intro K hK
          simp (disch := first | (refine Ok.mk ?_; (try simp only [Lm, La, Lc, Ln, Lt, Ld, Lr, Li, true_or, or_true, true_and, and_true]); omega) | (simp <;> fail) | skip) [runM_nil]
          refine hK _ _ ?_
          clear hK K
          refine ifT (by simp (disch := first | (refine Ok.mk ?_; (try simp only [Lm, La, Lc, Ln, Lt, Ld, Lr, Li, true_or, or_true, true_and, and_true]); omega) | (simp <;> fail) | skip) [runM_nil]) ?_
          first | refine pwp_sr ?_ | refine pwp_regionM ?_
          intro K hK
          simp (disch := first | (refine Ok.mk ?_; (try simp only [Lm, La, Lc, Ln, Lt, Ld, Lr, Li, true_or, or_true, true_and, and_true]); omega) | (simp <;> fail) | skip) [runM_nil]
          refine useP (e1) ?_
          simp (disch := first | (refine Ok.mk ?_; (try simp only [Lm, La, Lc, Ln, Lt, Ld, Lr, Li, true_or, or_true, true_and, and_true]); omega) | (simp <;> fail) | skip) [runM_nil]
          refine hK _ _ ?_
          clear hK K
          first | refine pwp_rif ?_ | refine pwp_rifE ?_
          intro K hK
          simp (disch := first | (refine Ok.mk ?_; (try simp only [Lm, La, Lc, Ln, Lt, Ld, Lr, Li, true_or, or_true, true_and, and_true]); omega) | (simp <;> fail) | skip) [runM_nil, hfm]
          refine useP (e2) ?_
          simp (disch := first | (refine Ok.mk ?_; (try simp only [Lm, La, Lc, Ln, Lt, Ld, Lr, Li, true_or, or_true, true_and, and_true]); omega) | (simp <;> fail) | skip) [runM_nil, hfm]
          refine useP (e3) ?_
          simp (disch := first | (refine Ok.mk ?_; (try simp only [Lm, La, Lc, Ln, Lt, Ld, Lr, Li, true_or, or_true, true_and, and_true]); omega) | (simp <;> fail) | skip) [runM_nil, hfm]
          refine useP (e4) ?_
          simp (disch := first | (refine Ok.mk ?_; (try simp only [Lm, La, Lc, Ln, Lt, Ld, Lr, Li, true_or, or_true, true_and, and_true]); omega) | (simp <;> fail) | skip) [runM_nil, hfm]
          refine hK _ _ ?_
          clear hK K
          refine ifF (by simp [runM_nil]) (pwp_skip ?_)
          exact cut_to (by simp [keepA, getS]) (.refl _) ⟨rfl, rfl⟩
        | false =>
          unfold wrE at hwe
          rw [hok] at hwe
          simp only [Bool.false_eq_true, if_false] at hwe
          subst hwe
          first | refine pwp_rif ?_ | refine pwp_rifE ?_
          intro K hK
          simp (disch := first | (refine Ok.mk ?_; (try simp only [Lm, La, Lc, Ln, Lt, Ld, Lr, Li, true_or, or_true, true_and, and_true]); omega) | (simp <;> fail) | skip) [runM_nil]
          refine hK _ _ ?_
          clear hK K
          refine ifF (by simp [runM_nil]) (pwp_skip ?_)
          exact cut_to (by simp [keepA, getS]) (.refl _) ⟨rfl, rfl⟩
      rintro _ _ ⟨rfl, rfl⟩
      first | refine pwp_sr ?_ | refine pwp_regionM ?_
      intro K hK
      simp (disch := first | (refine Ok.mk ?_; (try simp only [Lm, La, Lc, Ln, Lt, Ld, Lr, Li, true_or, or_true, true_and, and_true]); omega) | (simp <;> fail) | skip) [runM_nil]
      refine useP (d1) ?_
      simp (disch := first | (refine Ok.mk ?_; (try simp only [Lm, La, Lc, Ln, Lt, Ld, Lr, Li, true_or, or_true, true_and, and_true]); omega) | (simp <;> fail) | skip) [runM_nil]
      refine hK _ _ ?_
      clear hK K
      first | refine pwp_sr ?_ | refine pwp_regionM ?_
      intro K hK
      simp (disch := first | (refine Ok.mk ?_; (try simp only [Lm, La, Lc, Ln, Lt, Ld, Lr, Li, true_or, or_true, true_and, and_true]); omega) | (simp <;> fail) | skip) [runM_nil]
      refine useP (d2) ?_
      simp (disch := first | (refine Ok.mk ?_; (try simp only [Lm, La, Lc, Ln, Lt, Ld, Lr, Li, true_or, or_true, true_and, and_true]); omega) | (simp <;> fail) | skip) [runM_nil]
      refine useP (d3) ?_
      simp (disch := first | (refine Ok.mk ?_; (try simp only [Lm, La, Lc, Ln, Lt, Ld, Lr, Li, true_or, or_true, true_and, and_true]); omega) | (simp <;> fail) | skip) [runM_nil]
      refine hK _ _ ?_
      clear hK K
      refine pwp_seq ?_
      first | refine pwp_rif ?_ | refine pwp_rifE ?_
      intro K hK
      simp (disch := first | (refine Ok.mk ?_; (try simp only [Lm, La, Lc, Ln, Lt, Ld, Lr, Li, true_or, or_true, true_and, and_true]); omega) | (simp <;> fail) | skip) [runM_nil]
      refine hK _ _ ?_
      clear hK K
      refine ifF (by simp [runM_nil]) (pwp_skip ?_)
      by_cases he : S3 = 0
      · subst he
        simp only [decide_true, Bool.true_and] at hB
        subst hB
        first | refine pwp_sr ?_ | refine pwp_regionM ?_
        intro K hK
        simp (disch := first | (refine Ok.mk ?_; (try simp only [Lm, La, Lc, Ln, Lt, Ld, Lr, Li, true_or, or_true, true_and, and_true]); omega) | (simp <;> fail) | skip) [runM_nil, v1, v2, strP]
        refine useP (ca) ?_
        simp (disch := first | (refine Ok.mk ?_; (try simp only [Lm, La, Lc, Ln, Lt, Ld, Lr, Li, true_or, or_true, true_and, and_true]); omega) | (simp <;> fail) | skip) [runM_nil, v1, v2, strP]
        refine useP (d4) ?_
        simp (disch := first | (refine Ok.mk ?_; (try simp only [Lm, La, Lc, Ln, Lt, Ld, Lr, Li, true_or, or_true, true_and, and_true]); omega) | (simp <;> fail) | skip) [runM_nil, v1, v2, strP]
        refine useP (d5) ?_
        simp (disch := first | (refine Ok.mk ?_; (try simp only [Lm, La, Lc, Ln, Lt, Ld, Lr, Li, true_or, or_true, true_and, and_true]); omega) | (simp <;> fail) | skip) [runM_nil, v1, v2, strP]
        refine hK _ _ ?_
        clear hK K
        refine pwp_ret ⟨.inr rfl, _, _, (by simp (disch := first | (refine Ok.mk ?_; (try simp only [Lm, La, Lc, Ln, Lt, Ld, Lr, Li, true_or, or_true, true_and, and_true]); omega) | (simp <;> fail) | skip) [runM_nil, resL]; rfl), .refl _, by simp (disch := first | (refine Ok.mk ?_; (try simp only [Lm, La, Lc, Ln, Lt, Ld, Lr, Li, true_or, or_true, true_and, and_true]); omega) | (simp <;> fail) | skip) [resV], rfl⟩
      · have he2 : ¬ (S3 : Int) = 0 := by omega
        simp only [he, decide_false, Bool.false_and] at hB
        subst hB
        first | refine pwp_sr ?_ | refine pwp_regionM ?_
        intro K hK
        simp (disch := first | (refine Ok.mk ?_; (try simp only [Lm, La, Lc, Ln, Lt, Ld, Lr, Li, true_or, or_true, true_and, and_true]); omega) | (simp <;> fail) | skip) [runM_nil, he2]
        refine useP (ca) ?_
        simp (disch := first | (refine Ok.mk ?_; (try simp only [Lm, La, Lc, Ln, Lt, Ld, Lr, Li, true_or, or_true, true_and, and_true]); omega) | (simp <;> fail) | skip) [runM_nil, he2]
        refine useP (d4) ?_
        simp (disch := first | (refine Ok.mk ?_; (try simp only [Lm, La, Lc, Ln, Lt, Ld, Lr, Li, true_or, or_true, true_and, and_true]); omega) | (simp <;> fail) | skip) [runM_nil, he2]
        refine useP (d5) ?_
        simp (disch := first | (refine Ok.mk ?_; (try simp only [Lm, La, Lc, Ln, Lt, Ld, Lr, Li, true_or, or_true, true_and, and_true]); omega) | (simp <;> fail) | skip) [runM_nil, he2]
        refine hK _ _ ?_
        clear hK K
        refine pwp_ret ⟨.inr rfl, _, _, (by simp (disch := first | (refine Ok.mk ?_; (try simp only [Lm, La, Lc, Ln, Lt, Ld, Lr, Li, true_or, or_true, true_and, and_true]); omega) | (simp <;> fail) | skip) [runM_nil, resL]; rfl), .refl _, by simp (disch := first | (refine Ok.mk ?_; (try simp only [Lm, La, Lc, Ln, Lt, Ld, Lr, Li, true_or, or_true, true_and, and_true]); omega) | (simp <;> fail) | skip) [resV], rfl⟩
  · rw [Bool.not_eq_true] at hf
    rw [hf] at cf
    first | refine pwp_rif ?_ | refine pwp_rifE ?_
    intro K hK
    simp (disch := first | (refine Ok.mk ?_; (try simp only [Lm, La, Lc, Ln, Lt, Ld, Lr, Li, true_or, or_true, true_and, and_true]); omega) | (simp <;> fail) | skip) [runM_nil]
    refine useP (cf) ?_
    simp (disch := first | (refine Ok.mk ?_; (try simp only [Lm, La, Lc, Ln, Lt, Ld, Lr, Li, true_or, or_true, true_and, and_true]); omega) | (simp <;> fail) | skip) [runM_nil]
    refine hK _ _ ?_
    clear hK K
    refine ifT (by simp (disch := first | (refine Ok.mk ?_; (try simp only [Lm, La, Lc, Ln, Lt, Ld, Lr, Li, true_or, or_true, true_and, and_true]); omega) | (simp <;> fail) | skip) [runM_nil]) ?_
    first | refine pwp_sr ?_ | refine pwp_regionM ?_
    intro K hK
    simp (disch := first | (refine Ok.mk ?_; (try simp only [Lm, La, Lc, Ln, Lt, Ld, Lr, Li, true_or, or_true, true_and, and_true]); omega) | (simp <;> fail) | skip) [runM_nil]
    refine useP (ca) ?_
    simp (disch := first | (refine Ok.mk ?_; (try simp only [Lm, La, Lc, Ln, Lt, Ld, Lr, Li, true_or, or_true, true_and, and_true]); omega) | (simp <;> fail) | skip) [runM_nil]
    refine hK _ _ ?_
    clear hK K
    refine pwp_retT ⟨.inr rfl, _, _, (by simp (disch := first | (refine Ok.mk ?_; (try simp only [Lm, La, Lc, Ln, Lt, Ld, Lr, Li, true_or, or_true, true_and, and_true]); omega) | (simp <;> fail) | skip) [runM_nil, resL]; rfl), .refl _, by simp (disch := first | (refine Ok.mk ?_; (try simp only [Lm, La, Lc, Ln, Lt, Ld, Lr, Li, true_or, or_true, true_and, and_true]); omega) | (simp <;> fail) | skip) [resV], rfl⟩
end Go.Proofs.YtdphjapaoaokmaaDoor.E
/- The law of quotes. -/
namespace Go.Proofs.YtdphjapaoaokmaaDoor.E
open Go Go.RowKit Go.Proofs
set_option linter.unusedVariables false
set_option linter.unusedSimpArgs false
def lnB (s t e : List Nat) : List Nat := quoteB s ++ 44 :: (quoteB t ++ e)
theorem scan_ln {s t e : List Nat} (hs : s.length ≤ 1000) (ht : t.length ≤ 1000) (hsw : ∀ x ∈ s, x < 256) (htw : ∀ x ∈ t, x < 256) (he : e = [] ∨ e = [10] ∨ e = [13, 10]) :
    scanB (lnB s t e) 0 = ([(0, [s, t])], (lnB s t e).length, 0) := by
  have hw : ∀ x ∈ lnB s t e, x < 256 := by
    intro x hx
    unfold lnB at hx
    simp only [List.mem_append, List.mem_cons] at hx
    rcases hx with hx | rfl | hx | hx
    · exact quoteB_lt hsw x hx
    · omega
    · exact quoteB_lt htw x hx
    · rcases he with rfl | rfl | rfl <;> simp at hx <;> omega
  have hpos : 0 < (lnB s t e).length := by unfold lnB; simp; omega
  have hr : recM (lnB s t e) 0 = ([s, t], (lnB s t e).length, 0) := by
    unfold recM
    rw [List.drop_zero]
    unfold lnB
    obtain ⟨m1, hm1, h1⟩ := goM_field s (44 :: (quoteB t ++ e)) [] 0 hs
    rw [h1, goM_comma hm1 _ _ _ _ (by simp)]
    obtain ⟨m2, hm2, h2⟩ := goM_field t e ([] ++ [s]) (0 + (quoteB s).length + 1) ht
    rw [h2]
    rcases he with rfl | rfl | rfl
    · rw [goM, if_neg (by rcases hm2 with rfl | rfl | rfl <;> simp)]
      simp
      omega
    · rw [goM_ten hm2]
      simp
      omega
    · have s1 : stpM m2 ([] ++ [s]) t 13 = ⟨.ended, [] ++ [s], t, false, 0⟩ := by
        rcases hm2 with rfl | rfl | rfl <;> simp [stpM, plainM, behindM]
      rw [goM]
      simp only [s1]
      simp only [ne_eq, not_true, if_false, Bool.false_eq_true]
      have s2 : stpM .ended ([] ++ [s]) t 10 = ⟨.none, [] ++ [s] ++ [t], [], true, 0⟩ := stpM_ten (by simp) (by simp)
      rw [goM]
      simp only [s2]
      simp
      omega
  have h0 : (recM (lnB s t e) 0).2.2 = 0 := by rw [hr]
  rw [scanB_step hw hpos (par_zero _) h0, hr]
  dsimp only
  rw [scanB_end]
theorem csvQuotes_ok {s t : List Nat} {n : Nat} (hs : ∀ x ∈ s, x < 256) (hsl : s.length ≤ 140737488351232) (ht : ∀ x ∈ t, x < 256) (htl : t.length ≤ 140737488351232) (hn : n < 256) :
    PSpec Tryd.prog 3 [.str (ci s), .str (ci t), .int .u8 n] (.bool true) := by
  intro H
  have ca := alive_ok
  have hcs : (ci s).length = s.length := Li
  have hct : (ci t).length = t.length := Li
  refine spec_of t3 (by simp [p3]) ?_
  simp only [p3]
  first | refine pwp_sr ?_ | refine pwp_regionM ?_
  intro K hK
  simp (disch := first | (refine Ok.mk ?_; (try simp only [Lm, La, Lc, Ln, Lt, Ld, Lr, Li, true_or, or_true, true_and, and_true]); omega) | (simp <;> fail) | skip) [runM_nil]
  refine hK _ _ ?_
  clear hK K
  refine pwp_seq ?_
  rcases (show 500 < s.length ∨ ¬ 500 < s.length ∧ 500 < t.length ∨ ¬ 500 < s.length ∧ ¬ 500 < t.length by omega) with h1 | ⟨h1, h2⟩ | ⟨h1, h2⟩
  · first | refine pwp_rif ?_ | refine pwp_rifE ?_
    intro K hK
    simp (disch := first | (refine Ok.mk ?_; (try simp only [Lm, La, Lc, Ln, Lt, Ld, Lr, Li, true_or, or_true, true_and, and_true]); omega) | (simp <;> fail) | skip) [runM_nil, hcs, hct, h1]
    refine hK _ _ ?_
    clear hK K
    refine ifT (by simp (disch := first | (refine Ok.mk ?_; (try simp only [Lm, La, Lc, Ln, Lt, Ld, Lr, Li, true_or, or_true, true_and, and_true]); omega) | (simp <;> fail) | skip) [runM_nil]) ?_
    first | refine pwp_sr ?_ | refine pwp_regionM ?_
    intro K hK
    simp (disch := first | (refine Ok.mk ?_; (try simp only [Lm, La, Lc, Ln, Lt, Ld, Lr, Li, true_or, or_true, true_and, and_true]); omega) | (simp <;> fail) | skip) [runM_nil]
    refine useP (ca) ?_
    simp (disch := first | (refine Ok.mk ?_; (try simp only [Lm, La, Lc, Ln, Lt, Ld, Lr, Li, true_or, or_true, true_and, and_true]); omega) | (simp <;> fail) | skip) [runM_nil]
    refine hK _ _ ?_
    clear hK K
    refine pwp_retT ⟨.inr rfl, _, _, (by simp (disch := first | (refine Ok.mk ?_; (try simp only [Lm, La, Lc, Ln, Lt, Ld, Lr, Li, true_or, or_true, true_and, and_true]); omega) | (simp <;> fail) | skip) [runM_nil, resL]; rfl), .refl _, by simp (disch := first | (refine Ok.mk ?_; (try simp only [Lm, La, Lc, Ln, Lt, Ld, Lr, Li, true_or, or_true, true_and, and_true]); omega) | (simp <;> fail) | skip) [resV], rfl⟩
  · first | refine pwp_rif ?_ | refine pwp_rifE ?_
    intro K hK
    simp (disch := first | (refine Ok.mk ?_; (try simp only [Lm, La, Lc, Ln, Lt, Ld, Lr, Li, true_or, or_true, true_and, and_true]); omega) | (simp <;> fail) | skip) [runM_nil, hcs, hct, h1, h2]
    refine hK _ _ ?_
    clear hK K
    refine ifT (by simp (disch := first | (refine Ok.mk ?_; (try simp only [Lm, La, Lc, Ln, Lt, Ld, Lr, Li, true_or, or_true, true_and, and_true]); omega) | (simp <;> fail) | skip) [runM_nil]) ?_
    first | refine pwp_sr ?_ | refine pwp_regionM ?_
    intro K hK
    simp (disch := first | (refine Ok.mk ?_; (try simp only [Lm, La, Lc, Ln, Lt, Ld, Lr, Li, true_or, or_true, true_and, and_true]); omega) | (simp <;> fail) | skip) [runM_nil]
    refine useP (ca) ?_
    simp (disch := first | (refine Ok.mk ?_; (try simp only [Lm, La, Lc, Ln, Lt, Ld, Lr, Li, true_or, or_true, true_and, and_true]); omega) | (simp <;> fail) | skip) [runM_nil]
    refine hK _ _ ?_
    clear hK K
    refine pwp_retT ⟨.inr rfl, _, _, (by simp (disch := first | (refine Ok.mk ?_; (try simp only [Lm, La, Lc, Ln, Lt, Ld, Lr, Li, true_or, or_true, true_and, and_true]); omega) | (simp <;> fail) | skip) [runM_nil, resL]; rfl), .refl _, by simp (disch := first | (refine Ok.mk ?_; (try simp only [Lm, La, Lc, Ln, Lt, Ld, Lr, Li, true_or, or_true, true_and, and_true]); omega) | (simp <;> fail) | skip) [resV], rfl⟩
  · first | refine pwp_rif ?_ | refine pwp_rifE ?_
    intro K hK
    simp (disch := first | (refine Ok.mk ?_; (try simp only [Lm, La, Lc, Ln, Lt, Ld, Lr, Li, true_or, or_true, true_and, and_true]); omega) | (simp <;> fail) | skip) [runM_nil, hcs, hct]
    refine hK _ _ ?_
    clear hK K
    refine ifF (by simp [runM_nil]) (pwp_skip ?_)
    have c1 := quote_ok (s := s) (by omega)
    have c2 := quote_ok (s := t) (by omega)
    have q1 := quoteB_le s
    have q2 := quoteB_le t
    have hq1 : (ci (quoteB s)).length = (quoteB s).length := Li
    have hq2 : (ci (quoteB t)).length = (quoteB t).length := Li
    have happ : ∀ a b : List Nat, ci a ++ ci b = ci (a ++ b) := fun a b => by simp [ci]
    have e44 : [(44 : Int)] = ci [44] := rfl
    obtain ⟨e, he, hel⟩ : ∃ e : List Nat, (e = [] ∨ e = [10] ∨ e = [13, 10]) ∧ e = if n % 3 = 1 then [10] else if n % 3 = 2 then [13, 10] else [] := ⟨_, by split; simp; split <;> simp, rfl⟩
    have hsc := scan_ln (by omega) (by omega) hs ht he
    have hln : (lnB s t e).length = (quoteB s).length + 1 + ((quoteB t).length + e.length) := by unfold lnB; simp; omega
    have hee : e.length ≤ 2 := by rcases he with rfl | rfl | rfl <;> simp
    have hlw : ∀ x ∈ lnB s t e, x < 256 := by
      intro x hx
      unfold lnB at hx
      simp only [List.mem_append, List.mem_cons] at hx
      rcases hx with hx | rfl | hx | hx
      · exact quoteB_lt hs x hx
      · omega
      · exact quoteB_lt ht x hx
      · rcases he with rfl | rfl | rfl <;> simp at hx <;> omega
    have c3 := scan_ok (s := 1) (xs := (lnB s t e).map u8) (o := false) (b := lnB s t e) rfl (.inl rfl) hlw (by omega)
    rw [hsc] at c3
    simp only [scV, List.map_cons, List.map_nil, pcV, sV] at c3
    have c4 := recsSame_ok (l := [[s, t]]) (by simp) (by simp) (o := false) (q := false)
    simp only [rowsC, List.map_cons, List.map_nil, sV] at c4
    have c5 := quote_ok (s := [97, 98, 99]) (by simp)
    have e5 : quoteB [97, 98, 99] = [97, 98, 99] := by decide
    rw [e5] at c5
    have e6 : ci [97, 98, 99] = [97, 98, 99] := rfl
    rw [e6] at c5
    have hlen : (ci (lnB s t e)).length = (lnB s t e).length := Li
    have hu8 : (ci (lnB s t e)).map (PV.int .u8) = (lnB s t e).map u8 := ci_u8 _
    refine pwp_cut [0, 1, 2, 7] (fun st' H' => H' = H ∧ st' = MS 74 [(0, .str (ci s)), (1, .str (ci t)), (2, .int .u8 n), (7, .str (ci (quoteB s ++ 44 :: quoteB t)))]) ?_ ?_
    · have e7 : ci (quoteB s) ++ [44] ++ ci (quoteB t) = ci (quoteB s ++ 44 :: quoteB t) := by simp [ci]
      have e8 : ci (quoteB s) ++ 44 :: ci (quoteB t) = ci (quoteB s ++ 44 :: quoteB t) := by simp [ci]
      generalize quoteB s = a at *
      generalize quoteB t = c at *
      refine pwp_regionM ?_
      intro K hK
      simp (disch := first | (refine Ok.mk ?_; (try simp only [Lm, La, Lc, Ln, Lt, Ld, Lr, Li, true_or, or_true, true_and, and_true]); omega) | (simp <;> fail) | skip) [runM_nil, strP, hq1, hq2]
      refine useP (c1) ?_
      simp (disch := first | (refine Ok.mk ?_; (try simp only [Lm, La, Lc, Ln, Lt, Ld, Lr, Li, true_or, or_true, true_and, and_true]); omega) | (simp <;> fail) | skip) [runM_nil, strP, hq1, hq2]
      refine useP (c2) ?_
      simp (disch := first | (refine Ok.mk ?_; (try simp only [Lm, La, Lc, Ln, Lt, Ld, Lr, Li, true_or, or_true, true_and, and_true]); omega) | (simp <;> fail) | skip) [runM_nil, strP, hq1, hq2]
      refine hK _ _ ?_
      clear hK K
      exact cut_to (by simp [keepA, getS, ci]) (.refl _) ⟨rfl, rfl⟩
    rintro _ H1 ⟨hH1, rfl⟩
    subst hH1
    refine pwp_cut [0, 1, 7] (fun st' H' => H' = H1 ∧ st' = MS 74 [(0, .str (ci s)), (1, .str (ci t)), (7, .str (ci (lnB s t e)))]) ?_ ?_
    · have hz : (ci (quoteB s ++ 44 :: quoteB t)).length = (quoteB s).length + 1 + (quoteB t).length := by rw [Li, List.length_append, List.length_cons]; omega
      have e9 : lnB s t e = quoteB s ++ 44 :: quoteB t ++ e := by unfold lnB; simp
      rw [e9]
      generalize quoteB s ++ 44 :: quoteB t = z at *
      have hnm : (n : Int) % 3 = ((n % 3 : Nat) : Int) := by omega
      rcases (show n % 3 = 0 ∨ n % 3 = 1 ∨ n % 3 = 2 by omega) with hm | hm | hm
      · rw [hm] at hnm hel
        simp at hel
        subst hel
        first | refine pwp_sr ?_ | refine pwp_regionM ?_
        intro K hK
        simp (disch := first | (refine Ok.mk ?_; (try simp only [Lm, La, Lc, Ln, Lt, Ld, Lr, Li, true_or, or_true, true_and, and_true]); omega) | (simp <;> fail) | skip) [runM_nil, hnm]
        refine hK _ _ ?_
        clear hK K
        refine pwp_block ?_
        first | refine pwp_sr ?_ | refine pwp_regionM ?_
        intro K hK
        simp (disch := first | (refine Ok.mk ?_; (try simp only [Lm, La, Lc, Ln, Lt, Ld, Lr, Li, true_or, or_true, true_and, and_true]); omega) | (simp <;> fail) | skip) [runM_nil, hnm]
        refine hK _ _ ?_
        clear hK K
        refine pwp_cF (by simp) ?_
        first | refine pwp_sr ?_ | refine pwp_regionM ?_
        intro K hK
        simp (disch := first | (refine Ok.mk ?_; (try simp only [Lm, La, Lc, Ln, Lt, Ld, Lr, Li, true_or, or_true, true_and, and_true]); omega) | (simp <;> fail) | skip) [runM_nil, hnm]
        refine hK _ _ ?_
        clear hK K
        refine pwp_cF (by simp) (pwp_skip ?_)
        exact cut_to (by simp [keepA, getS]) (.refl _) ⟨rfl, rfl⟩
      · rw [hm] at hnm hel
        simp at hel
        subst hel
        first | refine pwp_sr ?_ | refine pwp_regionM ?_
        intro K hK
        simp (disch := first | (refine Ok.mk ?_; (try simp only [Lm, La, Lc, Ln, Lt, Ld, Lr, Li, true_or, or_true, true_and, and_true]); omega) | (simp <;> fail) | skip) [runM_nil, hnm]
        refine hK _ _ ?_
        clear hK K
        refine pwp_block ?_
        first | refine pwp_sr ?_ | refine pwp_regionM ?_
        intro K hK
        simp (disch := first | (refine Ok.mk ?_; (try simp only [Lm, La, Lc, Ln, Lt, Ld, Lr, Li, true_or, or_true, true_and, and_true]); omega) | (simp <;> fail) | skip) [runM_nil, hnm]
        refine hK _ _ ?_
        clear hK K
        refine pwp_cT (by simp) ?_
        refine pwp_regionM ?_
        intro K hK
        simp (disch := first | (refine Ok.mk ?_; (try simp only [Lm, La, Lc, Ln, Lt, Ld, Lr, Li, true_or, or_true, true_and, and_true]); omega) | (simp <;> fail) | skip) [runM_nil, strP, hz]
        refine hK _ _ ?_
        clear hK K
        exact cut_to (by simp [keepA, getS, ci]) (.refl _) ⟨rfl, rfl⟩
      · rw [hm] at hnm hel
        simp at hel
        subst hel
        first | refine pwp_sr ?_ | refine pwp_regionM ?_
        intro K hK
        simp (disch := first | (refine Ok.mk ?_; (try simp only [Lm, La, Lc, Ln, Lt, Ld, Lr, Li, true_or, or_true, true_and, and_true]); omega) | (simp <;> fail) | skip) [runM_nil, hnm]
        refine hK _ _ ?_
        clear hK K
        refine pwp_block ?_
        first | refine pwp_sr ?_ | refine pwp_regionM ?_
        intro K hK
        simp (disch := first | (refine Ok.mk ?_; (try simp only [Lm, La, Lc, Ln, Lt, Ld, Lr, Li, true_or, or_true, true_and, and_true]); omega) | (simp <;> fail) | skip) [runM_nil, hnm]
        refine hK _ _ ?_
        clear hK K
        refine pwp_cF (by simp) ?_
        first | refine pwp_sr ?_ | refine pwp_regionM ?_
        intro K hK
        simp (disch := first | (refine Ok.mk ?_; (try simp only [Lm, La, Lc, Ln, Lt, Ld, Lr, Li, true_or, or_true, true_and, and_true]); omega) | (simp <;> fail) | skip) [runM_nil, hnm]
        refine hK _ _ ?_
        clear hK K
        refine pwp_cT (by simp) ?_
        refine pwp_regionM ?_
        intro K hK
        simp (disch := first | (refine Ok.mk ?_; (try simp only [Lm, La, Lc, Ln, Lt, Ld, Lr, Li, true_or, or_true, true_and, and_true]); omega) | (simp <;> fail) | skip) [runM_nil, strP, hz]
        refine hK _ _ ?_
        clear hK K
        exact cut_to (by simp [keepA, getS, ci]) (.refl _) ⟨rfl, rfl⟩
    rintro _ _ ⟨rfl, rfl⟩
    generalize lnB s t e = z at *
    generalize z.map u8 = zs at *
    first | refine pwp_sr ?_ | refine pwp_regionM ?_
    intro K hK
    simp (disch := first | (refine Ok.mk ?_; (try simp only [Lm, La, Lc, Ln, Lt, Ld, Lr, Li, true_or, or_true, true_and, and_true]); omega) | (simp <;> fail) | skip) [runM_nil, hlen, hu8]
    refine useP (c3) ?_
    simp (disch := first | (refine Ok.mk ?_; (try simp only [Lm, La, Lc, Ln, Lt, Ld, Lr, Li, true_or, or_true, true_and, and_true]); omega) | (simp <;> fail) | skip) [runM_nil, hlen, hu8]
    refine hK _ _ ?_
    clear hK K
    first | refine pwp_sr ?_ | refine pwp_regionM ?_
    intro K hK
    simp (disch := first | (refine Ok.mk ?_; (try simp only [Lm, La, Lc, Ln, Lt, Ld, Lr, Li, true_or, or_true, true_and, and_true]); omega) | (simp <;> fail) | skip) [runM_nil, strP, hlen]
    refine useP (ca) ?_
    simp (disch := first | (refine Ok.mk ?_; (try simp only [Lm, La, Lc, Ln, Lt, Ld, Lr, Li, true_or, or_true, true_and, and_true]); omega) | (simp <;> fail) | skip) [runM_nil, strP, hlen]
    refine useP (c4) ?_
    simp (disch := first | (refine Ok.mk ?_; (try simp only [Lm, La, Lc, Ln, Lt, Ld, Lr, Li, true_or, or_true, true_and, and_true]); omega) | (simp <;> fail) | skip) [runM_nil, strP, hlen]
    refine useP (c5) ?_
    simp (disch := first | (refine Ok.mk ?_; (try simp only [Lm, La, Lc, Ln, Lt, Ld, Lr, Li, true_or, or_true, true_and, and_true]); omega) | (simp <;> fail) | skip) [runM_nil, strP, hlen]
    refine hK _ _ ?_
    clear hK K
    refine pwp_ret ⟨.inr rfl, _, _, (by simp (disch := first | (refine Ok.mk ?_; (try simp only [Lm, La, Lc, Ln, Lt, Ld, Lr, Li, true_or, or_true, true_and, and_true]); omega) | (simp <;> fail) | skip) [runM_nil, resL]; rfl), .refl _, by simp (disch := first | (refine Ok.mk ?_; (try simp only [Lm, La, Lc, Ln, Lt, Ld, Lr, Li, true_or, or_true, true_and, and_true]); omega) | (simp <;> fail) | skip) [resV], rfl⟩
end Go.Proofs.YtdphjapaoaokmaaDoor.E
/- What a row hands over, as bytes and numbers. -/
namespace Go.Proofs.YtdphjapaoaokmaaDoor.E
open Go Go.RowKit Go.Proofs Go.ChangeShapes Go.WideShapes
set_option linter.unusedVariables false
set_option linter.unusedSimpArgs false
theorem bytes_of {xs : List PV} (h : ∀ x ∈ xs, el false (fun ps => ∃ n : Int, ps = [.int .u8 n] ∧ (Lit.int .u8 n).wf = true) x) : ∃ l : List Nat, xs = l.map u8 ∧ ∀ x ∈ l, x < 256 := by
  induction xs with
  | nil => exact ⟨[], rfl, fun c hc => by cases hc⟩
  | cons x xs ih =>
    obtain ⟨l, rfl, hl⟩ := ih fun y hy => h y (List.mem_cons_of_mem _ hy)
    obtain ⟨n, e, hn⟩ := h x (List.mem_cons_self ..)
    cases e
    have hw : 0 ≤ n ∧ n ≤ 255 := by simpa [Lit.wf, IntKind.min, IntKind.max, IntKind.signed, IntKind.bits] using hn
    refine ⟨n.toNat :: l, ?_, fun c hc => ?_⟩
    · have : ((n.toNat : Nat) : Int) = n := by omega
      simp [u8, this]
    · rcases List.mem_cons.1 hc with rfl | hc
      · omega
      · exact hl c hc
theorem openBytes : OpnV Tryd.prog 28 1 (fun ps => ∃ l : List Nat, ps = [.lst 1 (l.map u8) false] ∧ (∀ x ∈ l, x < 256) ∧ l.length ≤ 140737488351232) :=
  (OpnV.slice (B := 1) false Tryd.underlying28 (by kernel_rfl) (by kernel_rfl) (OpnV.int Tryd.underlying5 (by kernel_rfl)) (fun _ => rfl) (by omega)).weaken (by
    rintro _ ⟨xs, rfl, h1, _, h2⟩
    obtain ⟨l, rfl, h3⟩ := bytes_of h2
    rw [List.length_map] at h1
    exact ⟨l, rfl, h3, by omega⟩)
theorem openIntB : OpnV Tryd.prog 3 1 (fun ps => ∃ n : Int, ps = [.int .i64 n] ∧ -9223372036854775808 ≤ n ∧ n ≤ 9223372036854775807) := (OpnV.int Tryd.underlying3 (by kernel_rfl)).weaken (by
  rintro _ ⟨n, rfl, h⟩
  have hw : -9223372036854775808 ≤ n ∧ n ≤ 9223372036854775807 := by simpa [Lit.wf, IntKind.min, IntKind.max, IntKind.signed, IntKind.bits] using h
  exact ⟨n, rfl, hw⟩)
theorem bytess_of {xs : List PV} (h : ∀ x ∈ xs, el false (fun ps => ∃ l : List Nat, ps = [.lst 1 (l.map u8) false] ∧ (∀ x ∈ l, x < 256) ∧ l.length ≤ 140737488351232) x) :
    ∃ ls : List (List Nat), xs = ls.map (fun p => .lst 1 (p.map u8) false) ∧ ∀ p ∈ ls, (∀ x ∈ p, x < 256) ∧ p.length ≤ 140737488351232 := by
  induction xs with
  | nil => exact ⟨[], rfl, fun c hc => by cases hc⟩
  | cons x xs ih =>
    obtain ⟨ls, rfl, hl⟩ := ih fun y hy => h y (List.mem_cons_of_mem _ hy)
    obtain ⟨p, e, hp⟩ := h x (List.mem_cons_self ..)
    cases e
    refine ⟨p :: ls, rfl, fun c hc => ?_⟩
    rcases List.mem_cons.1 hc with rfl | hc
    · exact hp
    · exact hl c hc
end Go.Proofs.YtdphjapaoaokmaaDoor.E
/- What a row hands over, as a text. -/
namespace Go.Proofs.YtdphjapaoaokmaaDoor.E
open Go Go.RowKit Go.Proofs Go.ChangeShapes Go.WideShapes
set_option linter.unusedVariables false
set_option linter.unusedSimpArgs false
theorem openStr : OpnV Tryd.prog 9 1 (fun ps => ∃ m : List Nat, ps = [.str (ci m)] ∧ (∀ x ∈ m, x < 256) ∧ m.length ≤ 140737488351232) :=
  (OpnV.string Tryd.underlying9 (by kernel_rfl)).weaken (by
    rintro _ ⟨s, rfl, h⟩
    refine ⟨s.data.toList.map (·.toNat), by simp [bytesOf, ci], fun x hx => ?_, by simpa using h⟩
    obtain ⟨c, _, rfl⟩ := List.mem_map.1 hx
    exact c.toNat_lt)
end Go.Proofs.YtdphjapaoaokmaaDoor.E
/- What a row hands over, as a row of texts. -/
namespace Go.Proofs.YtdphjapaoaokmaaDoor.E
open Go Go.RowKit Go.Proofs Go.ChangeShapes Go.WideShapes
set_option linter.unusedVariables false
set_option linter.unusedSimpArgs false
theorem strs_elems {xs : List PV} (h : ∀ x ∈ xs, el false (fun ps => ∃ m : List Nat, ps = [.str (ci m)] ∧ (∀ x ∈ m, x < 256) ∧ m.length ≤ 140737488351232) x) : ∃ l : List (List Nat), xs = l.map sV ∧ ∀ t ∈ l, (∀ x ∈ t, x < 256) ∧ t.length ≤ 140737488351232 := by
  induction xs with
  | nil => exact ⟨[], rfl, fun t ht => by cases ht⟩
  | cons x xs ih =>
    obtain ⟨l, rfl, hl⟩ := ih fun y hy => h y (List.mem_cons_of_mem _ hy)
    obtain ⟨m, e, hm⟩ := h x (List.mem_cons_self ..)
    cases e
    refine ⟨m :: l, rfl, fun t ht => ?_⟩
    rcases List.mem_cons.1 ht with rfl | ht
    · exact hm
    · exact hl t ht
theorem openStrs : OpnV Tryd.prog 34 1 (fun ps => ∃ l : List (List Nat), ps = [.lst 1 (l.map sV) false] ∧ l.length ≤ 140737488351232 ∧ ∀ t ∈ l, (∀ x ∈ t, x < 256) ∧ t.length ≤ 140737488351232) :=
  (OpnV.slice (B := 16) false Tryd.underlying34 (by kernel_rfl) (by kernel_rfl) openStr (fun _ => rfl) (by omega)).weaken (by
    rintro _ ⟨xs, rfl, h1, _, h2⟩
    obtain ⟨l, rfl, hl⟩ := strs_elems h2
    rw [List.length_map] at h1
    exact ⟨l, rfl, by omega, hl⟩)
end Go.Proofs.YtdphjapaoaokmaaDoor.E
/- What a row hands over, as records; a byte. -/
namespace Go.Proofs.YtdphjapaoaokmaaDoor.E
open Go Go.RowKit Go.Proofs
set_option linter.unusedVariables false
theorem recs_elems {xs : List PV} (h : ∀ x ∈ xs, el false (fun ps => ∃ l : List (List Nat), ps = [.lst 1 (l.map sV) false] ∧ l.length ≤ 140737488351232 ∧ ∀ t ∈ l, (∀ x ∈ t, x < 256) ∧ t.length ≤ 140737488351232) x) :
    ∃ l : List (List (List Nat)), xs = rowsC l ∧ ∀ r ∈ l, r.length ≤ 140737488351232 ∧ ∀ t ∈ r, (∀ x ∈ t, x < 256) ∧ t.length ≤ 140737488351232 := by
  induction xs with
  | nil => exact ⟨[], rfl, fun r hr => by cases hr⟩
  | cons x xs ih =>
    obtain ⟨l, rfl, hl⟩ := ih fun y hy => h y (List.mem_cons_of_mem _ hy)
    obtain ⟨r, e, h1, h2⟩ := (show ∃ l : List (List Nat), [x] = [.lst 1 (l.map sV) false] ∧ l.length ≤ 140737488351232 ∧ ∀ t ∈ l, (∀ x ∈ t, x < 256) ∧ t.length ≤ 140737488351232 from h x (List.mem_cons_self ..))
    cases e
    refine ⟨r :: l, rfl, fun q hq => ?_⟩
    rcases List.mem_cons.1 hq with rfl | hq
    · exact ⟨h1, h2⟩
    · exact hl q hq
theorem openRecs : OpnV Tryd.prog 30 1 (fun ps => ∃ l : List (List (List Nat)), ps = [.lst 1 (rowsC l) false] ∧ l.length ≤ 140737488351232 ∧ ∀ r ∈ l, r.length ≤ 140737488351232 ∧ ∀ t ∈ r, (∀ x ∈ t, x < 256) ∧ t.length ≤ 140737488351232) :=
  (OpnV.slice (B := 24) false Tryd.underlying30 (by kernel_rfl) (by kernel_rfl) openStrs (fun _ => rfl) (by omega)).weaken (by
    rintro _ ⟨xs, rfl, h1, _, h2⟩
    obtain ⟨l, rfl, hl⟩ := recs_elems h2
    have e : (rowsC l).length = l.length := List.length_map _
    rw [e] at h1
    exact ⟨l, rfl, by omega, hl⟩)
theorem openU8 : OpnV Tryd.prog 5 1 (fun ps => ∃ n : Nat, ps = [.int .u8 n] ∧ n < 256) :=
  (OpnV.int Tryd.underlying5 (by kernel_rfl)).weaken (by
    rintro _ ⟨n, rfl, h⟩
    have h2 : 0 ≤ n ∧ n ≤ 255 := by simpa [Lit.wf, IntKind.min, IntKind.max, IntKind.signed, IntKind.bits] using h
    obtain ⟨m, rfl⟩ := Int.eq_ofNat_of_zero_le h2.1
    exact ⟨m, rfl, by omega⟩)
end Go.Proofs.YtdphjapaoaokmaaDoor.E
