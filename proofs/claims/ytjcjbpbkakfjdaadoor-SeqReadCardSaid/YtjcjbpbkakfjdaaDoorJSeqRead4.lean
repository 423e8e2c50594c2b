/- Part 4 of the proof of SeqRead: what the program's functions come to. -/
import Derived.Test.YtjcjbpbkakfjdaaDoorJSeqRead2
import Derived.Test.YtjcjbpbkakfjdaaDoorJSeqRead3
import Derived.Test.YtjcjbpbkakfjdaaDoorL2
import Derived.Test.YtjcjbpbkakfjdaaDoorL3
import Derived.Test.YtjcjbpbkakfjdaaDoorProg
/- The pieces of a file, and of a split, by the program. -/
namespace Go.Proofs.YtjcjbpbkakfjdaaDoor.E
open Go Go.RowKit Go.Proofs
set_option linter.unusedVariables false
set_option linter.unusedSimpArgs false
theorem recL_len : ∀ (n : Nat) (acc : List Rc) (b : List Nat), (recL n acc b).1.length ≤ acc.length + n
  | 0, acc, b => Nat.le_refl _
  | n + 1, acc, b => by
    rw [recL]
    split
    · simp
    · have := recL_len n (acc ++ [[(vpair b).1.1, (vpair b).1.2]]) (vpair b).2.1
      rw [List.length_append] at this
      simp only [List.length_singleton] at this
      omega
theorem recsB_len (b : List Nat) : (recsB b).1.length ≤ 100 := by
  unfold recsB
  split
  · simp
  · split
    · simp
    · split
      · simp
      · have := recL_len (vtake b).1 [] (vtake b).2.1
        simp only [List.length_nil] at this
        show (recL _ _ _).1.length ≤ _
        omega
theorem blkB_len (b : List Nat) (k : Nat) : (blkB b k).2.1.length ≤ 100 := by
  unfold blkB
  split
  · simp
  · split
    · simp
    · split
      · simp
      · exact recsB_len _
theorem blks_facts (b : List Nat) : ∀ (n k : Nat), (blks n b k).length ≤ b.length - k ∧ (∀ p ∈ blks n b k, p.2.2.length ≤ 100 ∧ k ≤ p.2.1 ∧ p.2.1 < p.1 ∧ p.1 ≤ b.length) ∧ (blks n b k).Pairwise (fun p q => p.2.1 < q.2.1)
  | 0, k => by simp [blks]
  | n + 1, k => by
    rw [blks]
    by_cases hc : k < b.length ∧ (blkB b k).2.2.2 = 0
    · obtain ⟨_, q1, q2⟩ := blkB_ok hc.2
      obtain ⟨i1, i2, i3⟩ := blks_facts b n (blkB b k).2.2.1
      have hl := blkB_len b k
      rw [if_pos hc]
      refine ⟨by rw [List.length_cons]; omega, fun p hp => ?_, List.Pairwise.cons (fun p hp => ?_) i3⟩
      · rcases List.mem_cons.1 hp with rfl | hp
        · exact ⟨hl, Nat.le_refl _, by show k < _; omega, q2⟩
        · obtain ⟨a1, a2, a3, a4⟩ := i2 p hp
          exact ⟨a1, by omega, a3, a4⟩
      · have := (i2 p hp).2.1
        show k < _
        omega
    · rw [if_neg hc]; simp
theorem rowsC_inj : ∀ {a b : List Rc}, rowsC a = rowsC b → a = b := fun {a b} h => by
  have sv : ∀ x y, sV x = sV y → x = y := fun x y e => by
    simp only [sV, PV.str.injEq] at e
    exact ci_inj e
  exact (List.map_inj_right (fun x y e => by
    simp only [PV.lst.injEq, and_true, true_and] at e
    exact (List.map_inj_right sv).1 e)).1 h
theorem bkV_inj (a b : Bk) (h : bkV a = bkV b) : a = b := by
  obtain ⟨a1, a2, a3⟩ := a
  obtain ⟨b1, b2, b3⟩ := b
  simp only [bkV, pcW, List.cons.injEq, PV.int.injEq, PV.agg.injEq, PV.lst.injEq, and_true, true_and] at h
  obtain ⟨h1, h2, h3⟩ := h
  rw [rowsC_inj h3, show a1 = b1 by omega, show a2 = b2 by omega]
theorem blocks_ok {H : Heap} {s : Nat} {xs : List PV} {o : Bool} (k : Int) :
    SpecH Tryd.prog 39 H [.lst s xs o, .int .i64 k] (fun r H' => ∃ b3, hget H b3 = none ∧ r = .fn (.func 59) [] [.ptr (some (b3, 0)), .ip 1 [.lst s xs false] 0 0] ∧ H' = (b3, [.int .i64 k]) :: H) := by
  refine spec_of t39 (by simp [p39]) ?_
  simp only [p39]
  first | refine pwp_sr ?_ | refine pwp_regionM ?_
  intro K hK
  simp (disch := first | (refine Ok.mk ?_; (try simp only [Lm, La, Lc, Ln, Lt, Ld, Lr, Li, true_or, or_true, true_and, and_true]); omega) | (simp <;> fail) | skip) [runM_nil]
  intro b3 h_b3
  try simp (disch := first | (refine Ok.mk ?_; (try simp only [Lm, La, Lc, Ln, Lt, Ld, Lr, Li, true_or, or_true, true_and, and_true]); omega) | (simp <;> fail) | skip) [runM_nil]
  refine hK _ _ ?_
  clear hK K
  first | refine pwp_sr ?_ | refine pwp_regionM ?_
  intro K hK
  simp (disch := first | (refine Ok.mk ?_; (try simp only [Lm, La, Lc, Ln, Lt, Ld, Lr, Li, true_or, or_true, true_and, and_true]); omega) | (simp <;> fail) | skip) [runM_nil]
  refine hK _ _ ?_
  clear hK K
  refine pwp_ret ⟨.inr rfl, _, _, (by simp [runM_nil, resL]; rfl), .refl _, b3, h_b3, (by simp [resV]), rfl⟩
def lastE (k : Nat) : List Bk → Nat
  | [] => k
  | p :: l => lastE p.1 l
theorem lastE_snoc : ∀ (l : List Bk) (k : Nat) (p : Bk), lastE k (l ++ [p]) = p.1
  | [], k, p => rfl
  | q :: l, k, p => lastE_snoc l q.1 p
def scanS (b : List Nat) : List (Nat × List Rc) × Nat × Nat :=
  if [84, 83, 81, 49].isPrefixOf b = true then ((blkAt b 4).map (·.2), lastE 4 (blkAt b 4), if lastE 4 (blkAt b 4) < b.length then 3 else 0) else ([], 0, 3)
def scWo (o : Bool) (x : List (Nat × List Rc) × Nat × Nat) : PV := .tup [.lst 2 (x.1.map pcW) o, .int .i64 (x.2.1 : Nat), .int .i64 (x.2.2 : Nat)]
abbrev scW (x : List (Nat × List Rc) × Nat × Nat) : PV := scWo false x
theorem scan_ok {s : Nat} {xs : List PV} {o : Bool} {b : List Nat} (hx : xs = b.map u8) (hs : s = 1 ∨ b.length = 0) (hw : ∀ x ∈ b, x < 256) (hl : b.length ≤ 1000000) :
    PSpec Tryd.prog 17 [.lst s xs o] (scW (scanS b)) := by
  intro H
  have hxl : xs.length = b.length := by rw [hx, Lm]
  have hdm : Tryd.prog.follows .mixedOrders = true := hmix
  have c1 := hprefix_ok (o := false) (q := false) (p := [84, 83, 81, 49]) hx hs rfl hw (by intro x hx; simp at hx; omega)
  have hp4 : [84, 83, 81, 49].isPrefixOf b = true → 4 ≤ b.length := fun h => by simpa using (List.isPrefixOf_iff_prefix.1 h).length_le
  unfold scanS
  generalize [84, 83, 81, 49].isPrefixOf b = pf at *
  refine SpecH_mono (SpecH_lend (R := fun r H' => ∃ o, r = scWo o (if pf = true then ((blkAt b 4).map (·.2), lastE 4 (blkAt b 4), if lastE 4 (blkAt b 4) < b.length then 3 else 0) else ([], 0, 3)) ∧ H' = H) ?_) (by
    rintro r H' ⟨_, ⟨o, rfl, rfl⟩, rfl⟩
    exact ⟨by simp [scWo, lend, lendL], rfl⟩)
  refine spec_ofU t17l (by simp [p17l]) ?_
  simp only [p17l]
  first | refine pwp_sr ?_ | refine pwp_regionM ?_
  intro K hK
  simp (disch := first | (refine Ok.mk ?_; (try simp only [Lm, La, Lc, Ln, Lt, Ld, Lr, Li, true_or, or_true, true_and, and_true]); omega) | (simp <;> fail) | skip) [runM_nil]
  refine hK _ _ ?_
  clear hK K
  cases pf with
  | false =>
    first | refine pwp_rif ?_ | refine pwp_rifE ?_
    intro K hK
    simp (disch := first | (refine Ok.mk ?_; (try simp only [Lm, La, Lc, Ln, Lt, Ld, Lr, Li, true_or, or_true, true_and, and_true]); omega) | (simp <;> fail) | skip) [runM_nil]
    refine useP (c1) ?_
    simp (disch := first | (refine Ok.mk ?_; (try simp only [Lm, La, Lc, Ln, Lt, Ld, Lr, Li, true_or, or_true, true_and, and_true]); omega) | (simp <;> fail) | skip) [runM_nil]
    refine hK _ _ ?_
    clear hK K
    refine ifT (by simp (disch := first | (refine Ok.mk ?_; (try simp only [Lm, La, Lc, Ln, Lt, Ld, Lr, Li, true_or, or_true, true_and, and_true]); omega) | (simp <;> fail) | skip) [runM_nil]) ?_
    first | refine pwp_sr ?_ | refine pwp_regionM ?_
    intro K hK
    simp (disch := first | (refine Ok.mk ?_; (try simp only [Lm, La, Lc, Ln, Lt, Ld, Lr, Li, true_or, or_true, true_and, and_true]); omega) | (simp <;> fail) | skip) [runM_nil]
    refine hK _ _ ?_
    clear hK K
    refine pwp_ret (And.intro (.inr rfl) ⟨_, _, _, (by simp [runM_nil, resL]; rfl), .refl _, (by simp [resV, scWo]), true, rfl, rfl⟩)
  | true =>
    have h4 := hp4 rfl
    have hit := fun b1 => blocks_iter hx hs hw hl 4 h4 b1
    have hbl := (blks_facts b (b.length - 4) 4).1
    have hbl2 : (blkAt b 4).length ≤ b.length - 4 := hbl
    generalize blkAt b 4 = A at *
    first | refine pwp_rif ?_ | refine pwp_rifE ?_
    intro K hK
    simp (disch := first | (refine Ok.mk ?_; (try simp only [Lm, La, Lc, Ln, Lt, Ld, Lr, Li, true_or, or_true, true_and, and_true]); omega) | (simp <;> fail) | skip) [runM_nil]
    refine useP (c1) ?_
    simp (disch := first | (refine Ok.mk ?_; (try simp only [Lm, La, Lc, Ln, Lt, Ld, Lr, Li, true_or, or_true, true_and, and_true]); omega) | (simp <;> fail) | skip) [runM_nil]
    refine hK _ _ ?_
    clear hK K
    refine ifF (by simp (disch := first | (refine Ok.mk ?_; (try simp only [Lm, La, Lc, Ln, Lt, Ld, Lr, Li, true_or, or_true, true_and, and_true]); omega) | (simp <;> fail) | skip) [runM_nil]) (pwp_skip ?_)
    first | refine pwp_sr ?_ | refine pwp_regionM ?_
    intro K hK
    simp (disch := first | (refine Ok.mk ?_; (try simp only [Lm, La, Lc, Ln, Lt, Ld, Lr, Li, true_or, or_true, true_and, and_true]); omega) | (simp <;> fail) | skip) [runM_nil]
    intro b5 h_b5
    try simp (disch := first | (refine Ok.mk ?_; (try simp only [Lm, La, Lc, Ln, Lt, Ld, Lr, Li, true_or, or_true, true_and, and_true]); omega) | (simp <;> fail) | skip) [runM_nil]
    refine hK _ _ ?_
    clear hK K
    first | refine pwp_sr ?_ | refine pwp_regionM ?_
    intro K hK
    simp (disch := first | (refine Ok.mk ?_; (try simp only [Lm, La, Lc, Ln, Lt, Ld, Lr, Li, true_or, or_true, true_and, and_true]); omega) | (simp <;> fail) | skip) [runM_nil]
    intro b6 h_b6
    have d_b6_b5 : ¬ b5 = b6 := fun e => by subst e; simp [hget] at h_b6
    try simp (disch := first | (refine Ok.mk ?_; (try simp only [Lm, La, Lc, Ln, Lt, Ld, Lr, Li, true_or, or_true, true_and, and_true]); omega) | (simp <;> fail) | skip) [runM_nil, d_b6_b5, Ne.symm d_b6_b5]
    refine hK _ _ ?_
    clear hK K
    refine pwp_seq (pwp_seq ?_)
    first | refine pwp_sr ?_ | refine pwp_regionM ?_
    intro K hK
    simp (disch := first | (refine Ok.mk ?_; (try simp only [Lm, La, Lc, Ln, Lt, Ld, Lr, Li, true_or, or_true, true_and, and_true]); omega) | (simp <;> fail) | skip) [runM_nil, d_b6_b5, Ne.symm d_b6_b5]
    refine useH (blocks_ok 4) ?_; rintro r H' ⟨b3, h_b3, rfl, rfl⟩
    try simp (disch := first | (refine Ok.mk ?_; (try simp only [Lm, La, Lc, Ln, Lt, Ld, Lr, Li, true_or, or_true, true_and, and_true]); omega) | (simp <;> fail) | skip) [runM_nil, d_b6_b5, Ne.symm d_b6_b5]
    refine hK _ _ ?_
    clear hK K
    refine pwp_block ?_
    refine pwp_upH (H2 := (b3, [.int .i64 4]) :: (b6, [.int .i64 4]) :: (b5, [.lst 2 [] true]) :: H) ⟨rfl, UpL_refl _ _, rfl, UpL_refl _ _, rfl, ⟨_, [], rfl, ⟨2, [], true, rfl, .inr ⟨rfl, rfl⟩, fun _ => rfl, rfl⟩, rfl⟩, HUp_refl _⟩ ?_
    refine pwp_kept (keep := [0, 5, 6, 16]) (by simp [keepA, getS]; rfl) ?_
    refine pwp_rangeMG (HI := [(b3, [.int .i64 4])]) (Ho := (b6, [.int .i64 4]) :: (b5, [.lst 2 [] true]) :: H) bkV bkV_inj A (by simp [runM_nil]) (hit b3) (fun a _ => rfl)
      (fun pre H' => ((b6, [.int .i64 (lastE 4 pre)]) :: (b5, [.lst 2 (pre.map fun p => pcW p.2) true]) :: H).Sublist H') (fun _ _ _ => False) (.refl _) ?_ ?_ ?_
    · rintro pre a H' ha hlt hsub
      refine pwp_drop hsub ?_
      have hpl : (pre.map fun p => pcW p.2).length = pre.length := Lm
      have hle := lastE_snoc pre 4 a
      obtain ⟨e1, k1, l1⟩ := a
      simp only [setA, bkV, lendA, lend, pcW]
      first | refine pwp_sr ?_ | refine pwp_regionM ?_
      intro K hK
      simp (disch := first | (refine Ok.mk ?_; (try simp only [Lm, La, Lc, Ln, Lt, Ld, Lr, Li, true_or, or_true, true_and, and_true]); omega) | (simp <;> fail) | skip) [runM_nil, d_b6_b5, Ne.symm d_b6_b5]
      refine hK _ _ ?_
      clear hK K
      first | refine pwp_sr ?_ | refine pwp_regionM ?_
      intro K hK
      simp (disch := first | (refine Ok.mk ?_; (try simp only [Lm, La, Lc, Ln, Lt, Ld, Lr, Li, true_or, or_true, true_and, and_true]); omega) | (simp <;> fail) | skip) [runM_nil, d_b6_b5, Ne.symm d_b6_b5]
      intro b8 h_b8
      have d_b8_b5 : ¬ b5 = b8 := fun e => by subst e; simp [hget, d_b6_b5, Ne.symm d_b6_b5] at h_b8
      have d_b8_b6 : ¬ b6 = b8 := fun e => by subst e; simp [hget, d_b6_b5, Ne.symm d_b6_b5] at h_b8
      try simp (disch := first | (refine Ok.mk ?_; (try simp only [Lm, La, Lc, Ln, Lt, Ld, Lr, Li, true_or, or_true, true_and, and_true]); omega) | (simp <;> fail) | skip) [runM_nil, d_b6_b5, Ne.symm d_b6_b5, d_b8_b5, Ne.symm d_b8_b5, d_b8_b6, Ne.symm d_b8_b6]
      refine hK _ _ ?_
      clear hK K
      refine ⟨rfl, ?_⟩
      refine pwp_block ?_
      refine pwp_regionM ?_
      intro K hK
      simp (disch := first | (refine Ok.mk ?_; (try simp only [Lm, La, Lc, Ln, Lt, Ld, Lr, Li, true_or, or_true, true_and, and_true]); omega) | (simp <;> fail) | skip) [runM_nil, hpl, d_b6_b5, Ne.symm d_b6_b5, d_b8_b5, Ne.symm d_b8_b5, d_b8_b6, Ne.symm d_b8_b6]
      refine hK _ _ ?_
      clear hK K
      refine .inl ⟨rfl, ?_⟩
      rw [hle, List.map_append]
      exact .cons _ (.refl _)
    · skip
      intro H' hsub
      refine pwp_drop hsub ?_
      have hml : (A.map fun p => pcW p.2) = (A.map (·.2)).map pcW := by rw [List.map_map]; rfl
      generalize lastE 4 A = E at *
      generalize A.map (·.2) = M at *
      by_cases hE : E < b.length
      · have hE' : (E : Int) < b.length := by omega
        first | refine pwp_rif ?_ | refine pwp_rifE ?_
        intro K hK
        simp (disch := first | (refine Ok.mk ?_; (try simp only [Lm, La, Lc, Ln, Lt, Ld, Lr, Li, true_or, or_true, true_and, and_true]); omega) | (simp <;> fail) | skip) [runM_nil, hxl, hE', d_b6_b5, Ne.symm d_b6_b5]
        refine hK _ _ ?_
        clear hK K
        refine ifT (by simp [runM_nil, hE']) ?_
        first | refine pwp_sd hmix ?_ | refine pwp_drawM hmix ?_
        intro K hK
        simp (disch := first | (refine Ok.mk ?_; (try simp only [Lm, La, Lc, Ln, Lt, Ld, Lr, Li, true_or, or_true, true_and, and_true]); omega) | (simp <;> fail) | skip) [runM_nil, d_b6_b5, Ne.symm d_b6_b5]
        refine hK _ _ ?_
        clear hK K
        refine pwp_ret (And.intro (.inr rfl) ⟨_, _, _, (by simp [runM_nil, resL]; rfl), (.cons _ (.cons _ (.refl _))), (Up_refl _ _), false, (by simp [resV, scWo, hml, hE]), rfl⟩)
      · have hE' : ¬ (E : Int) < b.length := by omega
        first | refine pwp_rif ?_ | refine pwp_rifE ?_
        intro K hK
        simp (disch := first | (refine Ok.mk ?_; (try simp only [Lm, La, Lc, Ln, Lt, Ld, Lr, Li, true_or, or_true, true_and, and_true]); omega) | (simp <;> fail) | skip) [runM_nil, hxl, hE', d_b6_b5, Ne.symm d_b6_b5]
        refine hK _ _ ?_
        clear hK K
        refine ifF (by simp [runM_nil, hE']) (pwp_skip ?_)
        first | refine pwp_sd hmix ?_ | refine pwp_drawM hmix ?_
        intro K hK
        simp (disch := first | (refine Ok.mk ?_; (try simp only [Lm, La, Lc, Ln, Lt, Ld, Lr, Li, true_or, or_true, true_and, and_true]); omega) | (simp <;> fail) | skip) [runM_nil, d_b6_b5, Ne.symm d_b6_b5]
        refine hK _ _ ?_
        clear hK K
        refine pwp_ret (And.intro (.inr rfl) ⟨_, _, _, (by simp [runM_nil, resL]; rfl), (.cons _ (.cons _ (.refl _))), (Up_refl _ _), false, (by simp [resV, scWo, hml, hE]), rfl⟩)
    · rintro pre e H' _ _ h
      cases h
theorem lend_rows (l : List Rc) : lendL (rowsC l) = rowsC l := lendL_map (fun a => rfl) l
def inB (t g : Nat) (p : Bk) : Bool := decide (p.2.1 < t) && decide (p.2.1 < g)
def rdS (b : List Nat) (f t g : Nat) : List Rc := ((blkAt b (mkB b f)).takeWhile (inB t g)).flatMap (·.2.2)
theorem readBad_ok {s : Nat} {xs : List PV} {o : Bool} {b : List Nat} (hx : xs = b.map u8) (f t g : Int) (h : ¬ (0 ≤ f ∧ f ≤ t ∧ t ≤ b.length ∧ 0 ≤ g ∧ g ≤ b.length)) :
    PSpec Tryd.prog 23 [.lst s xs o, .int .i64 f, .int .i64 t, .int .i64 g] (.tup [.lst 0 [] true, .int .i64 1]) := by
  intro H
  have hxl : xs.length = b.length := by rw [hx, Lm]
  refine spec_of t23l (by simp [p23l]) ?_
  simp only [p23l]
  first | refine pwp_sr ?_ | refine pwp_regionM ?_
  intro K hK
  simp (disch := first | (refine Ok.mk ?_; (try simp only [Lm, La, Lc, Ln, Lt, Ld, Lr, Li, true_or, or_true, true_and, and_true]); omega) | (simp <;> fail) | skip) [runM_nil]
  refine hK _ _ ?_
  clear hK K
  rcases (show f < 0 ∨ ¬ f < 0 ∧ t < f ∨ ¬ f < 0 ∧ ¬ t < f ∧ (b.length : Int) < t ∨ ¬ f < 0 ∧ ¬ t < f ∧ ¬ (b.length : Int) < t ∧ g < 0 ∨ ¬ f < 0 ∧ ¬ t < f ∧ ¬ (b.length : Int) < t ∧ ¬ g < 0 ∧ (b.length : Int) < g by omega) with h1 | ⟨h1, h2⟩ | ⟨h1, h2, h3⟩ | ⟨h1, h2, h3, h4⟩ | ⟨h1, h2, h3, h4, h5⟩
  · first | refine pwp_rif ?_ | refine pwp_rifE ?_
    intro K hK
    simp (disch := first | (refine Ok.mk ?_; (try simp only [Lm, La, Lc, Ln, Lt, Ld, Lr, Li, true_or, or_true, true_and, and_true]); omega) | (simp <;> fail) | skip) [runM_nil, h1]
    refine hK _ _ ?_
    clear hK K
    refine ifT (by simp (disch := first | (refine Ok.mk ?_; (try simp only [Lm, La, Lc, Ln, Lt, Ld, Lr, Li, true_or, or_true, true_and, and_true]); omega) | (simp <;> fail) | skip) [runM_nil]) ?_
    first | refine pwp_sr ?_ | refine pwp_regionM ?_
    intro K hK
    simp (disch := first | (refine Ok.mk ?_; (try simp only [Lm, La, Lc, Ln, Lt, Ld, Lr, Li, true_or, or_true, true_and, and_true]); omega) | (simp <;> fail) | skip) [runM_nil]
    refine hK _ _ ?_
    clear hK K
    refine pwp_retT ⟨.inr rfl, _, _, (by simp (disch := first | (refine Ok.mk ?_; (try simp only [Lm, La, Lc, Ln, Lt, Ld, Lr, Li, true_or, or_true, true_and, and_true]); omega) | (simp <;> fail) | skip) [runM_nil, resL]; rfl), .refl _, by simp (disch := first | (refine Ok.mk ?_; (try simp only [Lm, La, Lc, Ln, Lt, Ld, Lr, Li, true_or, or_true, true_and, and_true]); omega) | (simp <;> fail) | skip) [resV], rfl⟩
  · first | refine pwp_rif ?_ | refine pwp_rifE ?_
    intro K hK
    simp (disch := first | (refine Ok.mk ?_; (try simp only [Lm, La, Lc, Ln, Lt, Ld, Lr, Li, true_or, or_true, true_and, and_true]); omega) | (simp <;> fail) | skip) [runM_nil, h1, h2]
    refine hK _ _ ?_
    clear hK K
    refine ifT (by simp (disch := first | (refine Ok.mk ?_; (try simp only [Lm, La, Lc, Ln, Lt, Ld, Lr, Li, true_or, or_true, true_and, and_true]); omega) | (simp <;> fail) | skip) [runM_nil]) ?_
    first | refine pwp_sr ?_ | refine pwp_regionM ?_
    intro K hK
    simp (disch := first | (refine Ok.mk ?_; (try simp only [Lm, La, Lc, Ln, Lt, Ld, Lr, Li, true_or, or_true, true_and, and_true]); omega) | (simp <;> fail) | skip) [runM_nil]
    refine hK _ _ ?_
    clear hK K
    refine pwp_retT ⟨.inr rfl, _, _, (by simp (disch := first | (refine Ok.mk ?_; (try simp only [Lm, La, Lc, Ln, Lt, Ld, Lr, Li, true_or, or_true, true_and, and_true]); omega) | (simp <;> fail) | skip) [runM_nil, resL]; rfl), .refl _, by simp (disch := first | (refine Ok.mk ?_; (try simp only [Lm, La, Lc, Ln, Lt, Ld, Lr, Li, true_or, or_true, true_and, and_true]); omega) | (simp <;> fail) | skip) [resV], rfl⟩
  · first | refine pwp_rif ?_ | refine pwp_rifE ?_
    intro K hK
    simp (disch := first | (refine Ok.mk ?_; (try simp only [Lm, La, Lc, Ln, Lt, Ld, Lr, Li, true_or, or_true, true_and, and_true]); omega) | (simp <;> fail) | skip) [runM_nil, hxl, h1, h2, h3]
    refine hK _ _ ?_
    clear hK K
    refine ifT (by simp (disch := first | (refine Ok.mk ?_; (try simp only [Lm, La, Lc, Ln, Lt, Ld, Lr, Li, true_or, or_true, true_and, and_true]); omega) | (simp <;> fail) | skip) [runM_nil]) ?_
    first | refine pwp_sr ?_ | refine pwp_regionM ?_
    intro K hK
    simp (disch := first | (refine Ok.mk ?_; (try simp only [Lm, La, Lc, Ln, Lt, Ld, Lr, Li, true_or, or_true, true_and, and_true]); omega) | (simp <;> fail) | skip) [runM_nil]
    refine hK _ _ ?_
    clear hK K
    refine pwp_retT ⟨.inr rfl, _, _, (by simp (disch := first | (refine Ok.mk ?_; (try simp only [Lm, La, Lc, Ln, Lt, Ld, Lr, Li, true_or, or_true, true_and, and_true]); omega) | (simp <;> fail) | skip) [runM_nil, resL]; rfl), .refl _, by simp (disch := first | (refine Ok.mk ?_; (try simp only [Lm, La, Lc, Ln, Lt, Ld, Lr, Li, true_or, or_true, true_and, and_true]); omega) | (simp <;> fail) | skip) [resV], rfl⟩
  · first | refine pwp_rif ?_ | refine pwp_rifE ?_
    intro K hK
    simp (disch := first | (refine Ok.mk ?_; (try simp only [Lm, La, Lc, Ln, Lt, Ld, Lr, Li, true_or, or_true, true_and, and_true]); omega) | (simp <;> fail) | skip) [runM_nil, hxl, h1, h2, h3, h4]
    refine hK _ _ ?_
    clear hK K
    refine ifT (by simp (disch := first | (refine Ok.mk ?_; (try simp only [Lm, La, Lc, Ln, Lt, Ld, Lr, Li, true_or, or_true, true_and, and_true]); omega) | (simp <;> fail) | skip) [runM_nil]) ?_
    first | refine pwp_sr ?_ | refine pwp_regionM ?_
    intro K hK
    simp (disch := first | (refine Ok.mk ?_; (try simp only [Lm, La, Lc, Ln, Lt, Ld, Lr, Li, true_or, or_true, true_and, and_true]); omega) | (simp <;> fail) | skip) [runM_nil]
    refine hK _ _ ?_
    clear hK K
    refine pwp_retT ⟨.inr rfl, _, _, (by simp (disch := first | (refine Ok.mk ?_; (try simp only [Lm, La, Lc, Ln, Lt, Ld, Lr, Li, true_or, or_true, true_and, and_true]); omega) | (simp <;> fail) | skip) [runM_nil, resL]; rfl), .refl _, by simp (disch := first | (refine Ok.mk ?_; (try simp only [Lm, La, Lc, Ln, Lt, Ld, Lr, Li, true_or, or_true, true_and, and_true]); omega) | (simp <;> fail) | skip) [resV], rfl⟩
  · first | refine pwp_rif ?_ | refine pwp_rifE ?_
    intro K hK
    simp (disch := first | (refine Ok.mk ?_; (try simp only [Lm, La, Lc, Ln, Lt, Ld, Lr, Li, true_or, or_true, true_and, and_true]); omega) | (simp <;> fail) | skip) [runM_nil, hxl, h1, h2, h3, h4, h5]
    refine hK _ _ ?_
    clear hK K
    refine ifT (by simp (disch := first | (refine Ok.mk ?_; (try simp only [Lm, La, Lc, Ln, Lt, Ld, Lr, Li, true_or, or_true, true_and, and_true]); omega) | (simp <;> fail) | skip) [runM_nil]) ?_
    first | refine pwp_sr ?_ | refine pwp_regionM ?_
    intro K hK
    simp (disch := first | (refine Ok.mk ?_; (try simp only [Lm, La, Lc, Ln, Lt, Ld, Lr, Li, true_or, or_true, true_and, and_true]); omega) | (simp <;> fail) | skip) [runM_nil]
    refine hK _ _ ?_
    clear hK K
    refine pwp_retT ⟨.inr rfl, _, _, (by simp (disch := first | (refine Ok.mk ?_; (try simp only [Lm, La, Lc, Ln, Lt, Ld, Lr, Li, true_or, or_true, true_and, and_true]); omega) | (simp <;> fail) | skip) [runM_nil, resL]; rfl), .refl _, by simp (disch := first | (refine Ok.mk ?_; (try simp only [Lm, La, Lc, Ln, Lt, Ld, Lr, Li, true_or, or_true, true_and, and_true]); omega) | (simp <;> fail) | skip) [resV], rfl⟩
theorem flat_len {l : List Bk} (h : ∀ p ∈ l, p.2.2.length ≤ 100) : (l.flatMap (·.2.2)).length ≤ 100 * l.length := by
  induction l with
  | nil => simp
  | cons a l ih =>
    have h1 := h a (List.mem_cons_self ..)
    have h2 := ih fun p hp => h p (List.mem_cons_of_mem _ hp)
    rw [List.flatMap_cons, List.length_append, List.length_cons]
    omega
theorem takeW_all {α : Type} {p : α → Bool} : ∀ {l : List α}, (∀ x ∈ l, p x = true) → l.takeWhile p = l
  | [], _ => rfl
  | a :: l, h => by rw [List.takeWhile_cons_of_pos (h a (List.mem_cons_self ..)), takeW_all fun x hx => h x (List.mem_cons_of_mem _ hx)]
theorem takeW {α : Type} {p : α → Bool} : ∀ {qs l : List α} {a : α}, qs ++ [a] <+: l → (∀ x ∈ qs, p x = true) → p a = false → l.takeWhile p = qs
  | [], l, a, h, _, ha => by
    obtain ⟨r, rfl⟩ := h
    simp [ha]
  | q :: qs, l, a, h, hq, ha => by
    obtain ⟨r, rfl⟩ := h
    rw [List.cons_append, List.cons_append, List.takeWhile_cons_of_pos (hq q (List.mem_cons_self ..)), takeW (List.prefix_append _ r) (fun x hx => hq x (List.mem_cons_of_mem _ hx)) ha]
theorem read_ok {s : Nat} {xs : List PV} {o : Bool} {b : List Nat} (hx : xs = b.map u8) (hs : s = 1 ∨ b.length = 0) (hw : ∀ x ∈ b, x < 256) (hl : b.length ≤ 1000000) (f t g : Nat) (h1 : f ≤ t) (h2 : t ≤ b.length) (h3 : g ≤ b.length) :
    PSpec Tryd.prog 23 [.lst s xs o, .int .i64 f, .int .i64 t, .int .i64 g] (.tup [.lst 1 (rowsC (rdS b f t g)) false, .int .i64 (if g < t then 3 else 0)]) := by
  intro H
  have hxl : xs.length = b.length := by rw [hx, Lm]
  have cm := marker_ok (o := false) hx hs hw (by omega) (f : Int)
  rw [Int.toNat_natCast] at cm
  have hml := (mkB_le b f).1
  have hit := fun b1 => blocks_iter hx hs hw hl (mkB b f) hml b1
  obtain ⟨f1, f2, _⟩ := blks_facts b (b.length - mkB b f) (mkB b f)
  have hbl2 : (blkAt b (mkB b f)).length ≤ b.length - mkB b f := f1
  have hf2 : ∀ p ∈ blkAt b (mkB b f), p.2.2.length ≤ 100 := fun p hp => (f2 p hp).1
  clear f1 f2
  unfold rdS
  generalize blkAt b (mkB b f) = A at *
  generalize mkB b f = M at *
  refine spec_of t23l (by simp [p23l]) ?_
  simp only [p23l]
  first | refine pwp_sr ?_ | refine pwp_regionM ?_
  intro K hK
  simp (disch := first | (refine Ok.mk ?_; (try simp only [Lm, La, Lc, Ln, Lt, Ld, Lr, Li, true_or, or_true, true_and, and_true]); omega) | (simp <;> fail) | skip) [runM_nil]
  refine hK _ _ ?_
  clear hK K
  have g1 : ¬ (f : Int) < 0 := by omega
  have g2 : ¬ (t : Int) < f := by omega
  have g3 : ¬ (b.length : Int) < t := by omega
  have g4 : ¬ (g : Int) < 0 := by omega
  have g5 : ¬ (b.length : Int) < g := by omega
  first | refine pwp_rif ?_ | refine pwp_rifE ?_
  intro K hK
  simp (disch := first | (refine Ok.mk ?_; (try simp only [Lm, La, Lc, Ln, Lt, Ld, Lr, Li, true_or, or_true, true_and, and_true]); omega) | (simp <;> fail) | skip) [runM_nil, hxl, g1, g2, g3, g4, g5]
  refine hK _ _ ?_
  clear hK K
  refine ifF (by simp [runM_nil, g1, g2, g3, g4, g5]) (pwp_skip ?_)
  first | refine pwp_sr ?_ | refine pwp_regionM ?_
  intro K hK
  simp (disch := first | (refine Ok.mk ?_; (try simp only [Lm, La, Lc, Ln, Lt, Ld, Lr, Li, true_or, or_true, true_and, and_true]); omega) | (simp <;> fail) | skip) [runM_nil]
  intro b10 h_b10
  try simp (disch := first | (refine Ok.mk ?_; (try simp only [Lm, La, Lc, Ln, Lt, Ld, Lr, Li, true_or, or_true, true_and, and_true]); omega) | (simp <;> fail) | skip) [runM_nil]
  refine hK _ _ ?_
  clear hK K
  refine pwp_seq (pwp_seq ?_)
  first | refine pwp_sr ?_ | refine pwp_regionM ?_
  intro K hK
  simp (disch := first | (refine Ok.mk ?_; (try simp only [Lm, La, Lc, Ln, Lt, Ld, Lr, Li, true_or, or_true, true_and, and_true]); omega) | (simp <;> fail) | skip) [runM_nil]
  refine useP (cm) ?_
  simp (disch := first | (refine Ok.mk ?_; (try simp only [Lm, La, Lc, Ln, Lt, Ld, Lr, Li, true_or, or_true, true_and, and_true]); omega) | (simp <;> fail) | skip) [runM_nil]
  refine useH (blocks_ok M) ?_; rintro r H' ⟨b3, h_b3, rfl, rfl⟩
  try simp (disch := first | (refine Ok.mk ?_; (try simp only [Lm, La, Lc, Ln, Lt, Ld, Lr, Li, true_or, or_true, true_and, and_true]); omega) | (simp <;> fail) | skip) [runM_nil]
  refine hK _ _ ?_
  clear hK K
  refine pwp_block ?_
  refine pwp_upH (H2 := (b3, [.int .i64 M]) :: (b10, [.lst 1 [] true]) :: H) ⟨rfl, UpL_refl _ _, rfl, ⟨_, [], rfl, ⟨1, [], true, rfl, .inr ⟨rfl, rfl⟩, fun _ => rfl, rfl⟩, rfl⟩, HUp_refl _⟩ ?_
  refine pwp_kept (keep := [0, 6, 7, 10, 40]) (by simp [keepA, getS]; rfl) ?_
  refine pwp_rangeMG (HI := [(b3, [.int .i64 M])]) (Ho := (b10, [.lst 1 [] true]) :: H) bkV bkV_inj A (by simp [runM_nil]) (hit b3) (fun a _ => rfl)
    (fun pre H' => (∀ p ∈ pre, inB t g p = true) ∧ (∀ p ∈ pre, p ∈ A) ∧ ((b10, [.lst 1 (rowsC (pre.flatMap (·.2.2))) true]) :: H).Sublist H')
    (fun pre e H' => e = .exit 0 ∧ ∃ qs a, pre = qs ++ [a] ∧ inB t g a = false ∧ (∀ p ∈ qs, inB t g p = true) ∧ ((b10, [.lst 1 (rowsC (qs.flatMap (·.2.2))) true]) :: H).Sublist H') ⟨by simp, by simp, .refl _⟩ ?_ ?_ ?_
  · rintro pre a H' ha hlt ⟨hin, hpa, hsub⟩
    refine pwp_drop hsub ?_
    have hfl := flat_len (l := pre) fun p hp => hf2 p (hpa p hp)
    have hal := hf2 a ha
    have hrl : (rowsC (pre.flatMap (·.2.2))).length = (pre.flatMap (·.2.2)).length := by simp [rowsC]
    have hra : (rowsC a.2.2).length = a.2.2.length := by simp [rowsC]
    have hrap : rowsC (pre.flatMap (·.2.2)) ++ rowsC a.2.2 = rowsC ((pre ++ [a]).flatMap (·.2.2)) := by simp [rowsC]
    have hin2 : inB t g a = true → ∀ p ∈ pre ++ [a], inB t g p = true := fun h p hp => (List.mem_append.1 hp).elim (hin p) fun h2 => by rw [List.mem_singleton.1 h2]; exact h
    have hmem : ∀ p ∈ pre ++ [a], p ∈ A := fun p hp => (List.mem_append.1 hp).elim (hpa p) fun h => by rw [List.mem_singleton.1 h]; exact ha
    have hia : inB t g a = (decide (a.2.1 < t) && decide (a.2.1 < g)) := rfl
    have hex : inB t g a = false → ∀ H2 : Heap, ((b10, [.lst 1 (rowsC (pre.flatMap (·.2.2))) true]) :: H).Sublist H2 → ∃ qs a', pre ++ [a] = qs ++ [a'] ∧ inB t g a' = false ∧ (∀ p ∈ qs, inB t g p = true) ∧ ((b10, [.lst 1 (rowsC (qs.flatMap (·.2.2))) true]) :: H).Sublist H2 :=
      fun h H2 h2 => ⟨pre, a, rfl, h, hin, h2⟩
    generalize pre.flatMap (·.2.2) = F at *
    generalize (pre ++ [a]).flatMap (·.2.2) = FF at *
    generalize inB t g a = ia at *
    obtain ⟨e1, k1, l1⟩ := a
    dsimp only at *
    simp only [setA, bkV, lendA, lend, pcW]
    refine pwp_regionM ?_
    intro K hK
    simp (disch := first | (refine Ok.mk ?_; (try simp only [Lm, La, Lc, Ln, Lt, Ld, Lr, Li, true_or, or_true, true_and, and_true]); omega) | (simp <;> fail) | skip) [runM_nil]
    intro b12 h_b12
    have d_b12_b10 : ¬ b10 = b12 := fun e => by subst e; simp [hget] at h_b12
    try simp (disch := first | (refine Ok.mk ?_; (try simp only [Lm, La, Lc, Ln, Lt, Ld, Lr, Li, true_or, or_true, true_and, and_true]); omega) | (simp <;> fail) | skip) [runM_nil, d_b12_b10, Ne.symm d_b12_b10]
    refine hK _ _ ?_
    clear hK K
    refine ⟨rfl, ?_⟩
    refine pwp_block ?_
    rcases (show ¬ k1 < t ∨ k1 < t ∧ ¬ k1 < g ∨ k1 < t ∧ k1 < g by omega) with q1 | ⟨q1, q2⟩ | ⟨q1, q2⟩
    · have q1' : (t : Int) ≤ k1 := by omega
      first | refine pwp_rif ?_ | refine pwp_rifE ?_
      intro K hK
      simp (disch := first | (refine Ok.mk ?_; (try simp only [Lm, La, Lc, Ln, Lt, Ld, Lr, Li, true_or, or_true, true_and, and_true]); omega) | (simp <;> fail) | skip) [runM_nil, q1, q1', d_b12_b10, Ne.symm d_b12_b10]
      refine hK _ _ ?_
      clear hK K
      refine ifT (by simp (disch := first | (refine Ok.mk ?_; (try simp only [Lm, La, Lc, Ln, Lt, Ld, Lr, Li, true_or, or_true, true_and, and_true]); omega) | (simp <;> fail) | skip) [runM_nil, q1, q1']) ?_
      exact pwp_exit (.inr ⟨by simp, rfl, hex (by rw [hia]; simp [q1]) _ (.cons _ (.refl _))⟩)
    · have q1' : ¬ (t : Int) ≤ k1 := by omega
      have q2' : (g : Int) ≤ k1 := by omega
      first | refine pwp_rif ?_ | refine pwp_rifE ?_
      intro K hK
      simp (disch := first | (refine Ok.mk ?_; (try simp only [Lm, La, Lc, Ln, Lt, Ld, Lr, Li, true_or, or_true, true_and, and_true]); omega) | (simp <;> fail) | skip) [runM_nil, q1, q1', q2, q2', d_b12_b10, Ne.symm d_b12_b10]
      refine hK _ _ ?_
      clear hK K
      refine ifT (by simp (disch := first | (refine Ok.mk ?_; (try simp only [Lm, La, Lc, Ln, Lt, Ld, Lr, Li, true_or, or_true, true_and, and_true]); omega) | (simp <;> fail) | skip) [runM_nil, q1, q1', q2, q2']) ?_
      exact pwp_exit (.inr ⟨by simp, rfl, hex (by rw [hia]; simp [q2]) _ (.cons _ (.refl _))⟩)
    · have q1' : ¬ (t : Int) ≤ k1 := by omega
      have q2' : ¬ (g : Int) ≤ k1 := by omega
      first | refine pwp_rif ?_ | refine pwp_rifE ?_
      intro K hK
      simp (disch := first | (refine Ok.mk ?_; (try simp only [Lm, La, Lc, Ln, Lt, Ld, Lr, Li, true_or, or_true, true_and, and_true]); omega) | (simp <;> fail) | skip) [runM_nil, q1, q1', q2, q2', d_b12_b10, Ne.symm d_b12_b10]
      refine hK _ _ ?_
      clear hK K
      refine ifF (by simp [runM_nil, q1', q2']) (pwp_skip ?_)
      refine pwp_regionM ?_
      intro K hK
      simp (disch := first | (refine Ok.mk ?_; (try simp only [Lm, La, Lc, Ln, Lt, Ld, Lr, Li, true_or, or_true, true_and, and_true]); omega) | (simp <;> fail) | skip) [runM_nil, hrl, hra, hrap, d_b12_b10, Ne.symm d_b12_b10]
      refine hK _ _ ?_
      clear hK K
      exact .inl ⟨rfl, hin2 (by rw [hia]; simp [q1, q2]), hmem, .cons _ (.refl _)⟩
  · skip
    rintro H' ⟨hin, _, hsub⟩
    refine pwp_drop hsub ?_
    have htw : A.takeWhile (inB t g) = A := takeW_all hin
    rw [htw]
    generalize A.flatMap (·.2.2) = F at *
    by_cases hg : g < t
    · have hg' : (g : Int) < t := by omega
      first | refine pwp_rif ?_ | refine pwp_rifE ?_
      intro K hK
      simp (disch := first | (refine Ok.mk ?_; (try simp only [Lm, La, Lc, Ln, Lt, Ld, Lr, Li, true_or, or_true, true_and, and_true]); omega) | (simp <;> fail) | skip) [runM_nil, hg, hg']
      refine hK _ _ ?_
      clear hK K
      refine ifT (by simp [runM_nil, hg]) ?_
      first | refine pwp_sr ?_ | refine pwp_regionM ?_
      intro K hK
      simp (disch := first | (refine Ok.mk ?_; (try simp only [Lm, La, Lc, Ln, Lt, Ld, Lr, Li, true_or, or_true, true_and, and_true]); omega) | (simp <;> fail) | skip) [runM_nil]
      refine hK _ _ ?_
      clear hK K
      refine pwp_ret (And.intro (.inr rfl) ⟨_, _, (by simp [runM_nil, resL]; rfl), (.cons _ (.refl _)), (by simp [resV, hg, lend_rows]), rfl⟩)
    · have hg' : ¬ (g : Int) < t := by omega
      first | refine pwp_rif ?_ | refine pwp_rifE ?_
      intro K hK
      simp (disch := first | (refine Ok.mk ?_; (try simp only [Lm, La, Lc, Ln, Lt, Ld, Lr, Li, true_or, or_true, true_and, and_true]); omega) | (simp <;> fail) | skip) [runM_nil, hg, hg']
      refine hK _ _ ?_
      clear hK K
      refine ifF (by simp [runM_nil, hg]) (pwp_skip ?_)
      first | refine pwp_sr ?_ | refine pwp_regionM ?_
      intro K hK
      simp (disch := first | (refine Ok.mk ?_; (try simp only [Lm, La, Lc, Ln, Lt, Ld, Lr, Li, true_or, or_true, true_and, and_true]); omega) | (simp <;> fail) | skip) [runM_nil]
      refine hK _ _ ?_
      clear hK K
      refine pwp_ret (And.intro (.inr rfl) ⟨_, _, (by simp [runM_nil, resL]; rfl), (.cons _ (.refl _)), (by simp [resV, hg, lend_rows]), rfl⟩)
  · rintro pre e H' hpre _ ⟨rfl, qs, a, rfl, ha, hin, hsub⟩
    refine pwp_drop hsub ?_
    rw [takeW hpre hin ha]
    generalize qs.flatMap (·.2.2) = F at *
    by_cases hg : g < t
    · have hg' : (g : Int) < t := by omega
      first | refine pwp_rif ?_ | refine pwp_rifE ?_
      intro K hK
      simp (disch := first | (refine Ok.mk ?_; (try simp only [Lm, La, Lc, Ln, Lt, Ld, Lr, Li, true_or, or_true, true_and, and_true]); omega) | (simp <;> fail) | skip) [runM_nil, hg, hg']
      refine hK _ _ ?_
      clear hK K
      refine ifT (by simp [runM_nil, hg]) ?_
      first | refine pwp_sr ?_ | refine pwp_regionM ?_
      intro K hK
      simp (disch := first | (refine Ok.mk ?_; (try simp only [Lm, La, Lc, Ln, Lt, Ld, Lr, Li, true_or, or_true, true_and, and_true]); omega) | (simp <;> fail) | skip) [runM_nil]
      refine hK _ _ ?_
      clear hK K
      refine pwp_ret (And.intro (.inr rfl) ⟨_, _, (by simp [runM_nil, resL]; rfl), (.cons _ (.refl _)), (by simp [resV, hg, lend_rows]), rfl⟩)
    · have hg' : ¬ (g : Int) < t := by omega
      first | refine pwp_rif ?_ | refine pwp_rifE ?_
      intro K hK
      simp (disch := first | (refine Ok.mk ?_; (try simp only [Lm, La, Lc, Ln, Lt, Ld, Lr, Li, true_or, or_true, true_and, and_true]); omega) | (simp <;> fail) | skip) [runM_nil, hg, hg']
      refine hK _ _ ?_
      clear hK K
      refine ifF (by simp [runM_nil, hg]) (pwp_skip ?_)
      first | refine pwp_sr ?_ | refine pwp_regionM ?_
      intro K hK
      simp (disch := first | (refine Ok.mk ?_; (try simp only [Lm, La, Lc, Ln, Lt, Ld, Lr, Li, true_or, or_true, true_and, and_true]); omega) | (simp <;> fail) | skip) [runM_nil]
      refine hK _ _ ?_
      clear hK K
      refine pwp_ret (And.intro (.inr rfl) ⟨_, _, (by simp [runM_nil, resL]; rfl), (.cons _ (.refl _)), (by simp [resV, hg, lend_rows]), rfl⟩)
end Go.Proofs.YtjcjbpbkakfjdaaDoor.E
/- Varints: the document's. -/
namespace Go.Proofs.YtjcjbpbkakfjdaaDoor.E
open Go Go.RowKit Go.Proofs
set_option linter.unusedVariables false
set_option linter.unusedSimpArgs false
theorem rbytes_ok (n : Nat) (hn : n < 18446744073709551616) : PSpec Tryd.prog 52 [.int .u64 n] (bV (vb n) true) := by
  intro H
  refine spec_of t52 (by simp [p52]) ?_
  simp only [p52]
  first | refine pwp_sr ?_ | refine pwp_regionM ?_
  intro K hK
  simp (disch := first | (refine Ok.mk ?_; (try simp only [Lm, La, Lc, Ln, Lt, Ld, Lr, Li, true_or, or_true, true_and, and_true]); omega) | (simp <;> fail) | skip) [runM_nil]
  refine hK _ _ ?_
  clear hK K
  first | refine pwp_sr ?_ | refine pwp_regionM ?_
  intro K hK
  simp (disch := first | (refine Ok.mk ?_; (try simp only [Lm, La, Lc, Ln, Lt, Ld, Lr, Li, true_or, or_true, true_and, and_true]); omega) | (simp <;> fail) | skip) [runM_nil]
  refine hK _ _ ?_
  clear hK K
  refine pwp_seq (pwp_block ?_)
  refine pwp_loopK [0, 3] (fun k st H' => ∃ (acc : List Nat), acc ++ vb k = [] ++ vb n ∧ k < 18446744073709551616 ∧ H' = H ∧ st = MS 21 [(0, .int .u64 k), (3, bV acc true)]) (n := n)
    ⟨_, .refl _, [], rfl, hn, rfl, by simp [keepL_MS, keepA, getS]⟩ ?_
  rintro k st _ ⟨acc, ha, hk, rfl, rfl⟩
  have hal := vb_acc ha hn
  rw [Ln] at hal
  first | refine pwp_rif ?_ | refine pwp_rifE ?_
  intro K hK
  simp (disch := first | (refine Ok.mk ?_; (try simp only [Lm, La, Lc, Ln, Lt, Ld, Lr, Li, true_or, or_true, true_and, and_true]); omega) | (simp <;> fail) | skip) [runM_nil]
  refine hK _ _ ?_
  clear hK K
  refine ⟨_, (by simp (disch := first | (refine Ok.mk ?_; (try simp only [Lm, La, Lc, Ln, Lt, Ld, Lr, Li, true_or, or_true, true_and, and_true]); omega) | (simp <;> fail) | skip) [runM_nil]; rfl), fun hc => ?_, fun hc => ?_⟩ <;> try simp at hc
  · rw [vb_big (by omega)] at ha
    refine pwp_skip ?_
    refine pwp_block ?_
    first | refine pwp_sr ?_ | refine pwp_regionM ?_
    intro K hK
    simp (disch := first | (refine Ok.mk ?_; (try simp only [Lm, La, Lc, Ln, Lt, Ld, Lr, Li, true_or, or_true, true_and, and_true]); omega) | (simp <;> fail) | skip) [runM_nil]
    refine hK _ _ ?_
    clear hK K
    first | refine pwp_sr ?_ | refine pwp_regionM ?_
    intro K hK
    simp (disch := first | (refine Ok.mk ?_; (try simp only [Lm, La, Lc, Ln, Lt, Ld, Lr, Li, true_or, or_true, true_and, and_true]); omega) | (simp <;> fail) | skip) [runM_nil]
    refine hK _ _ ?_
    clear hK K
    refine ⟨k / 128, by omega, _, .refl _, acc ++ [k % 128 + 128], by rw [List.append_assoc]; exact ha, by omega, rfl, ?_⟩
    simp [keepL_MS, keepA, getS]
  · refine pwp_exit ?_
    rw [vb_small (by omega), List.nil_append] at ha
    first | refine pwp_sr ?_ | refine pwp_regionM ?_
    intro K hK
    simp (disch := first | (refine Ok.mk ?_; (try simp only [Lm, La, Lc, Ln, Lt, Ld, Lr, Li, true_or, or_true, true_and, and_true]); omega) | (simp <;> fail) | skip) [runM_nil]
    refine hK _ _ ?_
    clear hK K
    rw [← ha]
    refine pwp_ret ⟨.inr rfl, _, _, (by simp (disch := first | (refine Ok.mk ?_; (try simp only [Lm, La, Lc, Ln, Lt, Ld, Lr, Li, true_or, or_true, true_and, and_true]); omega) | (simp <;> fail) | skip) [runM_nil, resL]; rfl), .refl _, by simp (disch := first | (refine Ok.mk ?_; (try simp only [Lm, La, Lc, Ln, Lt, Ld, Lr, Li, true_or, or_true, true_and, and_true]); omega) | (simp <;> fail) | skip) [resV], rfl⟩
set_option maxRecDepth 4000 in
theorem rtake_ok {s : Nat} {xs : List PV} {o : Bool} {b : List Nat} (hx : xs = b.map u8) (hs : s = 1 ∨ b.length = 0) (hw : ∀ x ∈ b, x < 256) (hl : b.length ≤ 100000000000000) :
    PSpec Tryd.prog 77 [.lst s xs o] (.tup [.int .u64 ((vtake b).1 : Nat), bV (vtake b).2.1 true, .int .i64 ((vtake b).2.2 : Nat)]) := by
  subst hx
  intro H
  have hll := lead_le b
  refine spec_ofU t77 (by simp [p77]) ?_
  simp only [p77]
  first | refine pwp_sr ?_ | refine pwp_regionM ?_
  intro K hK
  simp (disch := first | (refine Ok.mk ?_; (try simp only [Lm, La, Lc, Ln, Lt, Ld, Lr, Li, true_or, or_true, true_and, and_true]); omega) | (simp <;> fail) | skip) [runM_nil]
  refine hK _ _ ?_
  clear hK K
  first | refine pwp_sr ?_ | refine pwp_regionM ?_
  intro K hK
  simp (disch := first | (refine Ok.mk ?_; (try simp only [Lm, La, Lc, Ln, Lt, Ld, Lr, Li, true_or, or_true, true_and, and_true]); omega) | (simp <;> fail) | skip) [runM_nil]
  refine hK _ _ ?_
  clear hK K
  refine pwp_seq (pwp_block ?_)
  refine pwp_loopK [0, 5] (fun m st H' => ∃ i : Nat, i ≤ lead b ∧ i ≤ 10 ∧ m = 10 - i ∧ H' = H ∧ st = MS 61 [(0, .lst s (b.map u8) o), (5, .int .i64 i)]) (n := 10)
    ⟨_, .refl _, 0, Nat.zero_le _, by omega, rfl, rfl, by simp [keepL_MS, keepA, getS]⟩ ?_
  rintro m st H' ⟨i, h1, h2, rfl, rfl, rfl⟩
  by_cases hgo : i < lead b ∧ i < 10
  · have hi : i < b.length := by omega
    have hxm : ∃ x, b[i]? = some x ∧ 128 ≤ x := ⟨b[i], List.getElem?_eq_getElem hi, by have := lead_hi b i hgo.1; rwa [List.getD_eq_getElem?_getD, List.getElem?_eq_getElem hi] at this⟩
    obtain ⟨x, hgx, hx⟩ := hxm
    obtain rfl : s = 1 := by omega
    first | refine pwp_rif ?_ | refine pwp_rifE ?_
    intro K hK
    simp (disch := first | (refine Ok.mk ?_; (try simp only [Lm, La, Lc, Ln, Lt, Ld, Lr, Li, true_or, or_true, true_and, and_true]); omega) | (simp <;> fail) | skip) [runM_nil, hgx]
    refine hK _ _ ?_
    clear hK K
    refine ifT (by simp (disch := first | (refine Ok.mk ?_; (try simp only [Lm, La, Lc, Ln, Lt, Ld, Lr, Li, true_or, or_true, true_and, and_true]); omega) | (simp <;> fail) | skip) [runM_nil]) (pwp_skip ?_)
    refine pwp_block ?_
    first | refine pwp_sr ?_ | refine pwp_regionM ?_
    intro K hK
    simp (disch := first | (refine Ok.mk ?_; (try simp only [Lm, La, Lc, Ln, Lt, Ld, Lr, Li, true_or, or_true, true_and, and_true]); omega) | (simp <;> fail) | skip) [runM_nil]
    refine hK _ _ ?_
    clear hK K
    exact ⟨10 - (i + 1), by omega, _, .refl _, i + 1, by omega, by omega, rfl, rfl, by simp [keepL_MS, keepA, getS]⟩
  · have hst : i = 10 ∨ (¬ i = 10 ∧ i = b.length) ∨ (¬ i = 10 ∧ i < b.length ∧ i = lead b) := by omega
    refine pwp_rif ?_
    intro K hK
    have stop : ∀ st', argT st' (.t 22) = .bool false → keepL [0, 5] 0 st' = MS 61 [(0, .lst s (b.map u8) o), (5, .int .i64 i)] → K st' H' := by
      intro st' e1 e2
      refine hK _ _ (ifF e1 (pwp_exit ?_))
      clear hK
      show pwp _ _ _ _ _
      refine pwp_keep [0, 5] ?_
      rw [e2]
      clear e1 e2
      rcases hst with h10 | ⟨h10, hbl⟩ | ⟨h10, hbl, hld⟩
      · have e : vtake b = (0, [], 3) := by unfold vtake; rw [if_pos (by omega)]
        rw [e]
        first | refine pwp_rif ?_ | refine pwp_rifE ?_
        intro K hK
        simp (disch := first | (refine Ok.mk ?_; (try simp only [Lm, La, Lc, Ln, Lt, Ld, Lr, Li, true_or, or_true, true_and, and_true]); omega) | (simp <;> fail) | skip) [runM_nil]
        refine hK _ _ ?_
        clear hK K
        refine ifT (by simp (disch := first | (refine Ok.mk ?_; (try simp only [Lm, La, Lc, Ln, Lt, Ld, Lr, Li, true_or, or_true, true_and, and_true]); omega) | (simp <;> fail) | skip) [runM_nil]) ?_
        first | refine pwp_sr ?_ | refine pwp_regionM ?_
        intro K hK
        simp (disch := first | (refine Ok.mk ?_; (try simp only [Lm, La, Lc, Ln, Lt, Ld, Lr, Li, true_or, or_true, true_and, and_true]); omega) | (simp <;> fail) | skip) [runM_nil]
        refine hK _ _ ?_
        clear hK K
        refine pwp_ret ⟨.inr rfl, _, _, _, (by simp (disch := first | (refine Ok.mk ?_; (try simp only [Lm, La, Lc, Ln, Lt, Ld, Lr, Li, true_or, or_true, true_and, and_true]); omega) | (simp <;> fail) | skip) [runM_nil, resL]; rfl), .refl _, (by simp (disch := first | (refine Ok.mk ?_; (try simp only [Lm, La, Lc, Ln, Lt, Ld, Lr, Li, true_or, or_true, true_and, and_true]); omega) | (simp <;> fail) | skip) [resV]), rfl, rfl⟩
      · have e : vtake b = (0, [], 2) := by unfold vtake; rw [if_neg (by omega), if_pos (by omega)]
        rw [e]
        first | refine pwp_rif ?_ | refine pwp_rifE ?_
        intro K hK
        simp (disch := first | (refine Ok.mk ?_; (try simp only [Lm, La, Lc, Ln, Lt, Ld, Lr, Li, true_or, or_true, true_and, and_true]); omega) | (simp <;> fail) | skip) [runM_nil]
        refine hK _ _ ?_
        clear hK K
        refine ifF (by simp (disch := first | (refine Ok.mk ?_; (try simp only [Lm, La, Lc, Ln, Lt, Ld, Lr, Li, true_or, or_true, true_and, and_true]); omega) | (simp <;> fail) | skip) [runM_nil]) (pwp_skip ?_)
        first | refine pwp_rif ?_ | refine pwp_rifE ?_
        intro K hK
        simp (disch := first | (refine Ok.mk ?_; (try simp only [Lm, La, Lc, Ln, Lt, Ld, Lr, Li, true_or, or_true, true_and, and_true]); omega) | (simp <;> fail) | skip) [runM_nil]
        refine hK _ _ ?_
        clear hK K
        refine ifT (by simp (disch := first | (refine Ok.mk ?_; (try simp only [Lm, La, Lc, Ln, Lt, Ld, Lr, Li, true_or, or_true, true_and, and_true]); omega) | (simp <;> fail) | skip) [runM_nil]) ?_
        first | refine pwp_sr ?_ | refine pwp_regionM ?_
        intro K hK
        simp (disch := first | (refine Ok.mk ?_; (try simp only [Lm, La, Lc, Ln, Lt, Ld, Lr, Li, true_or, or_true, true_and, and_true]); omega) | (simp <;> fail) | skip) [runM_nil]
        refine hK _ _ ?_
        clear hK K
        refine pwp_ret ⟨.inr rfl, _, _, _, (by simp (disch := first | (refine Ok.mk ?_; (try simp only [Lm, La, Lc, Ln, Lt, Ld, Lr, Li, true_or, or_true, true_and, and_true]); omega) | (simp <;> fail) | skip) [runM_nil, resL]; rfl), .refl _, (by simp (disch := first | (refine Ok.mk ?_; (try simp only [Lm, La, Lc, Ln, Lt, Ld, Lr, Li, true_or, or_true, true_and, and_true]); omega) | (simp <;> fail) | skip) [resV]), rfl, rfl⟩
      · have hlo := lead_lo b (by omega)
        rw [← hld] at hlo
        first | refine pwp_rif ?_ | refine pwp_rifE ?_
        intro K hK
        simp (disch := first | (refine Ok.mk ?_; (try simp only [Lm, La, Lc, Ln, Lt, Ld, Lr, Li, true_or, or_true, true_and, and_true]); omega) | (simp <;> fail) | skip) [runM_nil]
        refine hK _ _ ?_
        clear hK K
        refine ifF (by simp (disch := first | (refine Ok.mk ?_; (try simp only [Lm, La, Lc, Ln, Lt, Ld, Lr, Li, true_or, or_true, true_and, and_true]); omega) | (simp <;> fail) | skip) [runM_nil]) (pwp_skip ?_)
        first | refine pwp_rif ?_ | refine pwp_rifE ?_
        intro K hK
        simp (disch := first | (refine Ok.mk ?_; (try simp only [Lm, La, Lc, Ln, Lt, Ld, Lr, Li, true_or, or_true, true_and, and_true]); omega) | (simp <;> fail) | skip) [runM_nil]
        refine hK _ _ ?_
        clear hK K
        refine ifF (by simp (disch := first | (refine Ok.mk ?_; (try simp only [Lm, La, Lc, Ln, Lt, Ld, Lr, Li, true_or, or_true, true_and, and_true]); omega) | (simp <;> fail) | skip) [runM_nil]) (pwp_skip ?_)
        first | refine pwp_sr ?_ | refine pwp_regionM ?_
        intro K hK
        simp (disch := first | (refine Ok.mk ?_; (try simp only [Lm, La, Lc, Ln, Lt, Ld, Lr, Li, true_or, or_true, true_and, and_true]); omega) | (simp <;> fail) | skip) [runM_nil]
        refine hK _ _ ?_
        clear hK K
        refine pwp_seq ?_
        first | refine pwp_sr ?_ | refine pwp_regionM ?_
        intro K hK
        simp (disch := first | (refine Ok.mk ?_; (try simp only [Lm, La, Lc, Ln, Lt, Ld, Lr, Li, true_or, or_true, true_and, and_true]); omega) | (simp <;> fail) | skip) [runM_nil]
        refine hK _ _ ?_
        clear hK K
        refine pwp_block ?_
        have hsl : ∀ j, num ((b.take (i + 1)).drop j) = if h : j < i + 1 then num ((b.take (i + 1)).drop (j + 1)) * 128 + b.getD j 0 % 128 else 0 := by
          intro j
          split
          · rename_i h
            have hj : j < (b.take (i + 1)).length := by rw [Lt]; omega
            rw [List.drop_eq_getElem_cons hj, num, List.getElem_take]
            rw [List.getD_eq_getElem?_getD, List.getElem?_eq_getElem (by omega)]
            simp only [Option.getD_some]
            omega
          · rename_i h
            rw [List.drop_eq_nil_of_le (by rw [Lt]; omega)]
            rfl
        refine pwp_loopK [0, 5, 6, 7] (fun m st H2 => m ≤ i + 1 ∧ H2 = H' ∧ st = MS 61 [(0, .lst s (b.map u8) o), (5, .int .i64 i), (6, .int .u64 (num ((b.take (i + 1)).drop m) % 18446744073709551616 : Nat)), (7, .int .i64 ((m : Int) - 1))]) (n := i + 1)
          ⟨_, .refl _, Nat.le_refl _, rfl, ?_⟩ ?_
        · rw [hsl]
          simp [keepL_MS, keepA, getS]
        rintro m st _ ⟨hm, rfl, rfl⟩
        obtain rfl : s = 1 := by omega
        rcases m with _ | m
        · first | refine pwp_rif ?_ | refine pwp_rifE ?_
          intro K hK
          simp (disch := first | (refine Ok.mk ?_; (try simp only [Lm, La, Lc, Ln, Lt, Ld, Lr, Li, true_or, or_true, true_and, and_true]); omega) | (simp <;> fail) | skip) [runM_nil]
          refine hK _ _ ?_
          clear hK K
          refine ifF (by simp (disch := first | (refine Ok.mk ?_; (try simp only [Lm, La, Lc, Ln, Lt, Ld, Lr, Li, true_or, or_true, true_and, and_true]); omega) | (simp <;> fail) | skip) [runM_nil]) ?_
          refine pwp_exit ?_
          have hbi : i < b.length := hbl
          have hcs := cvS_u8 (s := 1) (o := false) (l := b.take (i + 1)) rfl (.inl rfl) (fun x hx => hw x (List.mem_of_mem_take hx))
          rw [List.map_take] at hcs
          by_cases hbad : vbad b i
          · have e : vtake b = (0, [], 3) := by unfold vtake; rw [← hld, if_neg (by omega), if_neg (by omega), if_pos hbad]
            rw [e]
            have hne := not_canon (s := b) (by omega) (by omega) (by rw [← hld]; exact hbad)
            rw [← hld] at hne
            have hm : num (b.take (i + 1)) % 18446744073709551616 < 18446744073709551616 := Nat.mod_lt _ (by omega)
            have hcv := cvS_u8 (s := 1) (o := false) (l := vb (num (b.take (i + 1)) % 18446744073709551616)) rfl (.inl rfl) (vb_lt _)
            have cb := rbytes_ok _ hm
            first | refine pwp_dif hmix ?_ | refine pwp_difE hmix ?_
            intro K hK
            simp (disch := first | (refine Ok.mk ?_; (try simp only [Lm, La, Lc, Ln, Lt, Ld, Lr, Li, true_or, or_true, true_and, and_true]); omega) | (simp <;> fail) | skip) [runM_nil, hcs, hcv, hne]
            refine useD (cb) ?_
            simp (disch := first | (refine Ok.mk ?_; (try simp only [Lm, La, Lc, Ln, Lt, Ld, Lr, Li, true_or, or_true, true_and, and_true]); omega) | (simp <;> fail) | skip) [runM_nil, hcs, hcv, hne]
            refine hK _ _ ?_
            clear hK K
            refine ifT (by simp (disch := first | (refine Ok.mk ?_; (try simp only [Lm, La, Lc, Ln, Lt, Ld, Lr, Li, true_or, or_true, true_and, and_true]); omega) | (simp <;> fail) | skip) [runM_nil, hne]) ?_
            first | refine pwp_sr ?_ | refine pwp_regionM ?_
            intro K hK
            simp (disch := first | (refine Ok.mk ?_; (try simp only [Lm, La, Lc, Ln, Lt, Ld, Lr, Li, true_or, or_true, true_and, and_true]); omega) | (simp <;> fail) | skip) [runM_nil]
            refine hK _ _ ?_
            clear hK K
            refine pwp_ret ⟨.inr rfl, _, _, _, (by simp (disch := first | (refine Ok.mk ?_; (try simp only [Lm, La, Lc, Ln, Lt, Ld, Lr, Li, true_or, or_true, true_and, and_true]); omega) | (simp <;> fail) | skip) [runM_nil, resL]; rfl), .refl _, (by simp (disch := first | (refine Ok.mk ?_; (try simp only [Lm, La, Lc, Ln, Lt, Ld, Lr, Li, true_or, or_true, true_and, and_true]); omega) | (simp <;> fail) | skip) [resV]), rfl, rfl⟩
          · obtain ⟨c1, c2⟩ := canon (s := b) hw (by omega) (by omega) (by rw [← hld]; exact hbad)
            rw [← hld] at c1 c2
            have e : vtake b = (num (b.take (i + 1)), b.drop (i + 1), 0) := by unfold vtake; rw [← hld, if_neg (by omega), if_neg (by omega), if_neg hbad]
            rw [e]
            have hm : num (b.take (i + 1)) % 18446744073709551616 = num (b.take (i + 1)) := Nat.mod_eq_of_lt c1
            have hcv := cvS_u8 (s := 1) (o := false) (l := vb (num (b.take (i + 1)))) rfl (.inl rfl) (vb_lt _)
            have cb := rbytes_ok _ c1
            rw [c2] at hcv
            have hm2 : (num (b.take (i + 1)) : Int) % 18446744073709551616 = num (b.take (i + 1)) := by omega
            first | refine pwp_dif hmix ?_ | refine pwp_difE hmix ?_
            intro K hK
            simp (disch := first | (refine Ok.mk ?_; (try simp only [Lm, La, Lc, Ln, Lt, Ld, Lr, Li, true_or, or_true, true_and, and_true]); omega) | (simp <;> fail) | skip) [runM_nil, hcs, hcv, c2, hm2]
            refine useD (cb) ?_
            simp (disch := first | (refine Ok.mk ?_; (try simp only [Lm, La, Lc, Ln, Lt, Ld, Lr, Li, true_or, or_true, true_and, and_true]); omega) | (simp <;> fail) | skip) [runM_nil, hcs, hcv, c2, hm2]
            refine hK _ _ ?_
            clear hK K
            refine ifF (by simp (disch := first | (refine Ok.mk ?_; (try simp only [Lm, La, Lc, Ln, Lt, Ld, Lr, Li, true_or, or_true, true_and, and_true]); omega) | (simp <;> fail) | skip) [runM_nil]) (pwp_skip ?_)
            first | refine pwp_sr ?_ | refine pwp_regionM ?_
            intro K hK
            simp (disch := first | (refine Ok.mk ?_; (try simp only [Lm, La, Lc, Ln, Lt, Ld, Lr, Li, true_or, or_true, true_and, and_true]); omega) | (simp <;> fail) | skip) [runM_nil, hm2]
            refine hK _ _ ?_
            clear hK K
            refine pwp_ret ⟨.inr rfl, _, _, _, (by simp (disch := first | (refine Ok.mk ?_; (try simp only [Lm, La, Lc, Ln, Lt, Ld, Lr, Li, true_or, or_true, true_and, and_true]); omega) | (simp <;> fail) | skip) [runM_nil, resL]; rfl), .refl _, (by simp (disch := first | (refine Ok.mk ?_; (try simp only [Lm, La, Lc, Ln, Lt, Ld, Lr, Li, true_or, or_true, true_and, and_true]); omega) | (simp <;> fail) | skip) [resV]), rfl, rfl⟩
        · have hxm : ∃ x, b[m]? = some x ∧ b.getD m 0 = x ∧ x < 256 := ⟨b[m]'(by omega), List.getElem?_eq_getElem _, by simp [List.getD, List.getElem?_eq_getElem (show m < b.length by omega)], hw _ (List.getElem_mem _)⟩
          obtain ⟨x, hgx, hgd, hx⟩ := hxm
          have hst := hsl m
          rw [dif_pos (by omega), hgd] at hst
          have e3 : ((num ((b.take (i + 1)).drop (m + 1)) : Int) % 18446744073709551616 * 128 % 18446744073709551616 + x % 128) = ((num ((b.take (i + 1)).drop m) : Nat) : Int) % 18446744073709551616 := by rw [hst]; omega
          first | refine pwp_rif ?_ | refine pwp_rifE ?_
          intro K hK
          simp (disch := first | (refine Ok.mk ?_; (try simp only [Lm, La, Lc, Ln, Lt, Ld, Lr, Li, true_or, or_true, true_and, and_true]); omega) | (simp <;> fail) | skip) [runM_nil]
          refine hK _ _ ?_
          clear hK K
          refine ifT (by simp (disch := first | (refine Ok.mk ?_; (try simp only [Lm, La, Lc, Ln, Lt, Ld, Lr, Li, true_or, or_true, true_and, and_true]); omega) | (simp <;> fail) | skip) [runM_nil]) (pwp_skip ?_)
          refine pwp_seq (pwp_block ?_)
          first | refine pwp_sr ?_ | refine pwp_regionM ?_
          intro K hK
          simp (disch := first | (refine Ok.mk ?_; (try simp only [Lm, La, Lc, Ln, Lt, Ld, Lr, Li, true_or, or_true, true_and, and_true]); omega) | (simp <;> fail) | skip) [runM_nil, hgx, wm_u64]
          refine hK _ _ ?_
          clear hK K
          first | refine pwp_sr ?_ | refine pwp_regionM ?_
          intro K hK
          simp (disch := first | (refine Ok.mk ?_; (try simp only [Lm, La, Lc, Ln, Lt, Ld, Lr, Li, true_or, or_true, true_and, and_true]); omega) | (simp <;> fail) | skip) [runM_nil]
          refine hK _ _ ?_
          clear hK K
          refine ⟨m, by omega, _, .refl _, by omega, rfl, ?_⟩
          simp [keepL_MS, keepA, getS, e3]
    rcases hst with h10 | ⟨h10, hbl⟩ | ⟨h10, hbl, hld⟩
    · by_cases hbl : i < b.length
      all_goals
        simp (disch := first | (refine Ok.mk ?_; (try simp only [Lm, La, Lc, Ln, Lt, Ld, Lr, Li, true_or, or_true, true_and, and_true]); omega) | (simp <;> fail) | skip)
        exact stop _ (by simp) (by simp [keepL_MS, keepA, getS])
    · simp (disch := first | (refine Ok.mk ?_; (try simp only [Lm, La, Lc, Ln, Lt, Ld, Lr, Li, true_or, or_true, true_and, and_true]); omega) | (simp <;> fail) | skip)
      exact stop _ (by simp) (by simp [keepL_MS, keepA, getS])
    · have hlo := lead_lo b (by omega)
      rw [← hld] at hlo
      have hxm : ∃ x, b[i]? = some x ∧ x < 128 := ⟨b[i], List.getElem?_eq_getElem hbl, by rwa [List.getD_eq_getElem?_getD, List.getElem?_eq_getElem hbl] at hlo⟩
      obtain ⟨x, hgx, hx⟩ := hxm
      obtain rfl : s = 1 := by omega
      simp (disch := first | (refine Ok.mk ?_; (try simp only [Lm, La, Lc, Ln, Lt, Ld, Lr, Li, true_or, or_true, true_and, and_true]); omega) | (simp <;> fail) | skip) [hgx]
      exact stop _ (by simp) (by simp [keepL_MS, keepA, getS])
theorem rtakeFrame_ok {s : Nat} {xs : List PV} {o : Bool} {b : List Nat} (hx : xs = b.map u8) (hs : s = 1 ∨ b.length = 0) (hw : ∀ x ∈ b, x < 256) (hl : b.length ≤ 100000000000000) (most : Int) (hm : most < 9223372036854775808) :
    PSpec Tryd.prog 83 [.lst s xs o, .int .i64 most] (.tup [.str (ci (vframe b most).1), bV (vframe b most).2.1 true, .int .i64 ((vframe b most).2.2 : Nat)]) := by
  intro H
  have c := rtake_ok (o := false) hx hs hw hl
  have hwr := vtake_wf hw
  have hn := vtake_lt hw
  have hrl : (vtake b).2.1.length ≤ b.length := (vtake_rest (s := b)).1
  have hc := vframe_cases b most rfl rfl rfl
  have he := vtake_err b
  generalize hv : vframe b most = v at *
  generalize (vtake b).1 = n at *
  generalize (vtake b).2.1 = r at *
  generalize (vtake b).2.2 = e at *
  refine spec_ofU t83 (by simp [p83]) ?_
  simp only [p83]
  first | refine pwp_sr ?_ | refine pwp_regionM ?_
  intro K hK
  simp (disch := first | (refine Ok.mk ?_; (try simp only [Lm, La, Lc, Ln, Lt, Ld, Lr, Li, true_or, or_true, true_and, and_true]); omega) | (simp <;> fail) | skip) [runM_nil]
  refine hK _ _ ?_
  clear hK K
  first | refine pwp_sr ?_ | refine pwp_regionM ?_
  intro K hK
  simp (disch := first | (refine Ok.mk ?_; (try simp only [Lm, La, Lc, Ln, Lt, Ld, Lr, Li, true_or, or_true, true_and, and_true]); omega) | (simp <;> fail) | skip) [runM_nil]
  refine useP (c) ?_
  simp (disch := first | (refine Ok.mk ?_; (try simp only [Lm, La, Lc, Ln, Lt, Ld, Lr, Li, true_or, or_true, true_and, and_true]); omega) | (simp <;> fail) | skip) [runM_nil]
  refine hK _ _ ?_
  clear hK K
  rcases hc with ⟨q1, rfl⟩ | ⟨q1, q2, rfl⟩ | ⟨q1, q2, q3, rfl⟩ | ⟨q1, q2, q3, q4, rfl⟩ | ⟨q1, q2, q3, q4, rfl⟩
  · first | refine pwp_rif ?_ | refine pwp_rifE ?_
    intro K hK
    simp (disch := first | (refine Ok.mk ?_; (try simp only [Lm, La, Lc, Ln, Lt, Ld, Lr, Li, true_or, or_true, true_and, and_true]); omega) | (simp <;> fail) | skip) [runM_nil]
    refine hK _ _ ?_
    clear hK K
    refine ifT (by simp (disch := first | (refine Ok.mk ?_; (try simp only [Lm, La, Lc, Ln, Lt, Ld, Lr, Li, true_or, or_true, true_and, and_true]); omega) | (simp <;> fail) | skip) [runM_nil]) ?_
    first | refine pwp_sr ?_ | refine pwp_regionM ?_
    intro K hK
    simp (disch := first | (refine Ok.mk ?_; (try simp only [Lm, La, Lc, Ln, Lt, Ld, Lr, Li, true_or, or_true, true_and, and_true]); omega) | (simp <;> fail) | skip) [runM_nil]
    refine hK _ _ ?_
    clear hK K
    refine pwp_ret ⟨.inr rfl, _, _, _, (by simp (disch := first | (refine Ok.mk ?_; (try simp only [Lm, La, Lc, Ln, Lt, Ld, Lr, Li, true_or, or_true, true_and, and_true]); omega) | (simp <;> fail) | skip) [runM_nil, resL]; rfl), .refl _, (by simp (disch := first | (refine Ok.mk ?_; (try simp only [Lm, La, Lc, Ln, Lt, Ld, Lr, Li, true_or, or_true, true_and, and_true]); omega) | (simp <;> fail) | skip) [resV]), rfl, rfl⟩
  · first | refine pwp_rif ?_ | refine pwp_rifE ?_
    intro K hK
    simp (disch := first | (refine Ok.mk ?_; (try simp only [Lm, La, Lc, Ln, Lt, Ld, Lr, Li, true_or, or_true, true_and, and_true]); omega) | (simp <;> fail) | skip) [runM_nil]
    refine hK _ _ ?_
    clear hK K
    refine ifF (by simp (disch := first | (refine Ok.mk ?_; (try simp only [Lm, La, Lc, Ln, Lt, Ld, Lr, Li, true_or, or_true, true_and, and_true]); omega) | (simp <;> fail) | skip) [runM_nil]) (pwp_skip ?_)
    first | refine pwp_rif ?_ | refine pwp_rifE ?_
    intro K hK
    simp (disch := first | (refine Ok.mk ?_; (try simp only [Lm, La, Lc, Ln, Lt, Ld, Lr, Li, true_or, or_true, true_and, and_true]); omega) | (simp <;> fail) | skip) [runM_nil]
    refine hK _ _ ?_
    clear hK K
    refine ifT (by simp (disch := first | (refine Ok.mk ?_; (try simp only [Lm, La, Lc, Ln, Lt, Ld, Lr, Li, true_or, or_true, true_and, and_true]); omega) | (simp <;> fail) | skip) [runM_nil]) ?_
    first | refine pwp_sr ?_ | refine pwp_regionM ?_
    intro K hK
    simp (disch := first | (refine Ok.mk ?_; (try simp only [Lm, La, Lc, Ln, Lt, Ld, Lr, Li, true_or, or_true, true_and, and_true]); omega) | (simp <;> fail) | skip) [runM_nil]
    refine hK _ _ ?_
    clear hK K
    refine pwp_ret ⟨.inr rfl, _, _, _, (by simp (disch := first | (refine Ok.mk ?_; (try simp only [Lm, La, Lc, Ln, Lt, Ld, Lr, Li, true_or, or_true, true_and, and_true]); omega) | (simp <;> fail) | skip) [runM_nil, resL]; rfl), .refl _, (by simp (disch := first | (refine Ok.mk ?_; (try simp only [Lm, La, Lc, Ln, Lt, Ld, Lr, Li, true_or, or_true, true_and, and_true]); omega) | (simp <;> fail) | skip) [resV]), rfl, rfl⟩
  · first | refine pwp_rif ?_ | refine pwp_rifE ?_
    intro K hK
    simp (disch := first | (refine Ok.mk ?_; (try simp only [Lm, La, Lc, Ln, Lt, Ld, Lr, Li, true_or, or_true, true_and, and_true]); omega) | (simp <;> fail) | skip) [runM_nil]
    refine hK _ _ ?_
    clear hK K
    refine ifF (by simp (disch := first | (refine Ok.mk ?_; (try simp only [Lm, La, Lc, Ln, Lt, Ld, Lr, Li, true_or, or_true, true_and, and_true]); omega) | (simp <;> fail) | skip) [runM_nil]) (pwp_skip ?_)
    first | refine pwp_rif ?_ | refine pwp_rifE ?_
    intro K hK
    simp (disch := first | (refine Ok.mk ?_; (try simp only [Lm, La, Lc, Ln, Lt, Ld, Lr, Li, true_or, or_true, true_and, and_true]); omega) | (simp <;> fail) | skip) [runM_nil]
    refine hK _ _ ?_
    clear hK K
    refine ifT (by simp (disch := first | (refine Ok.mk ?_; (try simp only [Lm, La, Lc, Ln, Lt, Ld, Lr, Li, true_or, or_true, true_and, and_true]); omega) | (simp <;> fail) | skip) [runM_nil]) ?_
    first | refine pwp_sr ?_ | refine pwp_regionM ?_
    intro K hK
    simp (disch := first | (refine Ok.mk ?_; (try simp only [Lm, La, Lc, Ln, Lt, Ld, Lr, Li, true_or, or_true, true_and, and_true]); omega) | (simp <;> fail) | skip) [runM_nil]
    refine hK _ _ ?_
    clear hK K
    refine pwp_ret ⟨.inr rfl, _, _, _, (by simp (disch := first | (refine Ok.mk ?_; (try simp only [Lm, La, Lc, Ln, Lt, Ld, Lr, Li, true_or, or_true, true_and, and_true]); omega) | (simp <;> fail) | skip) [runM_nil, resL]; rfl), .refl _, (by simp (disch := first | (refine Ok.mk ?_; (try simp only [Lm, La, Lc, Ln, Lt, Ld, Lr, Li, true_or, or_true, true_and, and_true]); omega) | (simp <;> fail) | skip) [resV]), rfl, rfl⟩
  · first | refine pwp_rif ?_ | refine pwp_rifE ?_
    intro K hK
    simp (disch := first | (refine Ok.mk ?_; (try simp only [Lm, La, Lc, Ln, Lt, Ld, Lr, Li, true_or, or_true, true_and, and_true]); omega) | (simp <;> fail) | skip) [runM_nil]
    refine hK _ _ ?_
    clear hK K
    refine ifF (by simp (disch := first | (refine Ok.mk ?_; (try simp only [Lm, La, Lc, Ln, Lt, Ld, Lr, Li, true_or, or_true, true_and, and_true]); omega) | (simp <;> fail) | skip) [runM_nil]) (pwp_skip ?_)
    first | refine pwp_rif ?_ | refine pwp_rifE ?_
    intro K hK
    simp (disch := first | (refine Ok.mk ?_; (try simp only [Lm, La, Lc, Ln, Lt, Ld, Lr, Li, true_or, or_true, true_and, and_true]); omega) | (simp <;> fail) | skip) [runM_nil]
    refine hK _ _ ?_
    clear hK K
    refine ifF (by simp (disch := first | (refine Ok.mk ?_; (try simp only [Lm, La, Lc, Ln, Lt, Ld, Lr, Li, true_or, or_true, true_and, and_true]); omega) | (simp <;> fail) | skip) [runM_nil]) (pwp_skip ?_)
    first | refine pwp_rif ?_ | refine pwp_rifE ?_
    intro K hK
    simp (disch := first | (refine Ok.mk ?_; (try simp only [Lm, La, Lc, Ln, Lt, Ld, Lr, Li, true_or, or_true, true_and, and_true]); omega) | (simp <;> fail) | skip) [runM_nil]
    refine hK _ _ ?_
    clear hK K
    refine ifT (by simp (disch := first | (refine Ok.mk ?_; (try simp only [Lm, La, Lc, Ln, Lt, Ld, Lr, Li, true_or, or_true, true_and, and_true]); omega) | (simp <;> fail) | skip) [runM_nil]) ?_
    first | refine pwp_sr ?_ | refine pwp_regionM ?_
    intro K hK
    simp (disch := first | (refine Ok.mk ?_; (try simp only [Lm, La, Lc, Ln, Lt, Ld, Lr, Li, true_or, or_true, true_and, and_true]); omega) | (simp <;> fail) | skip) [runM_nil]
    refine hK _ _ ?_
    clear hK K
    refine pwp_ret ⟨.inr rfl, _, _, _, (by simp (disch := first | (refine Ok.mk ?_; (try simp only [Lm, La, Lc, Ln, Lt, Ld, Lr, Li, true_or, or_true, true_and, and_true]); omega) | (simp <;> fail) | skip) [runM_nil, resL]; rfl), .refl _, (by simp (disch := first | (refine Ok.mk ?_; (try simp only [Lm, La, Lc, Ln, Lt, Ld, Lr, Li, true_or, or_true, true_and, and_true]); omega) | (simp <;> fail) | skip) [resV]), rfl, rfl⟩
  · first | refine pwp_rif ?_ | refine pwp_rifE ?_
    intro K hK
    simp (disch := first | (refine Ok.mk ?_; (try simp only [Lm, La, Lc, Ln, Lt, Ld, Lr, Li, true_or, or_true, true_and, and_true]); omega) | (simp <;> fail) | skip) [runM_nil]
    refine hK _ _ ?_
    clear hK K
    refine ifF (by simp (disch := first | (refine Ok.mk ?_; (try simp only [Lm, La, Lc, Ln, Lt, Ld, Lr, Li, true_or, or_true, true_and, and_true]); omega) | (simp <;> fail) | skip) [runM_nil]) (pwp_skip ?_)
    first | refine pwp_rif ?_ | refine pwp_rifE ?_
    intro K hK
    simp (disch := first | (refine Ok.mk ?_; (try simp only [Lm, La, Lc, Ln, Lt, Ld, Lr, Li, true_or, or_true, true_and, and_true]); omega) | (simp <;> fail) | skip) [runM_nil]
    refine hK _ _ ?_
    clear hK K
    refine ifF (by simp (disch := first | (refine Ok.mk ?_; (try simp only [Lm, La, Lc, Ln, Lt, Ld, Lr, Li, true_or, or_true, true_and, and_true]); omega) | (simp <;> fail) | skip) [runM_nil]) (pwp_skip ?_)
    first | refine pwp_rif ?_ | refine pwp_rifE ?_
    intro K hK
    simp (disch := first | (refine Ok.mk ?_; (try simp only [Lm, La, Lc, Ln, Lt, Ld, Lr, Li, true_or, or_true, true_and, and_true]); omega) | (simp <;> fail) | skip) [runM_nil]
    refine hK _ _ ?_
    clear hK K
    refine ifF (by simp (disch := first | (refine Ok.mk ?_; (try simp only [Lm, La, Lc, Ln, Lt, Ld, Lr, Li, true_or, or_true, true_and, and_true]); omega) | (simp <;> fail) | skip) [runM_nil]) (pwp_skip ?_)
    have cs := cvS_u8 (s := 1) (o := false) (l := r.take n) rfl (.inl rfl) (fun x hx => hwr x (List.mem_of_mem_take hx))
    rw [List.map_take] at cs
    first | refine pwp_sd hmix ?_ | refine pwp_drawM hmix ?_
    intro K hK
    simp (disch := first | (refine Ok.mk ?_; (try simp only [Lm, La, Lc, Ln, Lt, Ld, Lr, Li, true_or, or_true, true_and, and_true]); omega) | (simp <;> fail) | skip) [runM_nil, cs]
    refine hK _ _ ?_
    clear hK K
    refine pwp_ret ⟨.inr rfl, _, _, _, (by simp (disch := first | (refine Ok.mk ?_; (try simp only [Lm, La, Lc, Ln, Lt, Ld, Lr, Li, true_or, or_true, true_and, and_true]); omega) | (simp <;> fail) | skip) [runM_nil, resL]; rfl), .refl _, (by simp (disch := first | (refine Ok.mk ?_; (try simp only [Lm, La, Lc, Ln, Lt, Ld, Lr, Li, true_or, or_true, true_and, and_true]); omega) | (simp <;> fail) | skip) [resV]), rfl, rfl⟩
end Go.Proofs.YtjcjbpbkakfjdaaDoor.E
/- Sums over bytes: the document's. -/
namespace Go.Proofs.YtjcjbpbkakfjdaaDoor.E
open Go Go.RowKit Go.Proofs
set_option linter.unusedVariables false
set_option linter.unusedSimpArgs false
theorem entry_ok (i : Nat) (hi : i < 4294967296) : PSpec Tryd.prog 70 [.int .i64 i] (.int .u32 (ent i : Nat)) := by
  intro H
  refine spec_of t70 (by simp [p70]) ?_
  simp only [p70]
  first | refine pwp_sr ?_ | refine pwp_regionM ?_
  intro K hK
  simp (disch := first | (refine Ok.mk ?_; (try simp only [Lm, La, Lc, Ln, Lt, Ld, Lr, Li, true_or, or_true, true_and, and_true]); omega) | (simp <;> fail) | skip) [runM_nil]
  refine hK _ _ ?_
  clear hK K
  first | refine pwp_sr ?_ | refine pwp_regionM ?_
  intro K hK
  simp (disch := first | (refine Ok.mk ?_; (try simp only [Lm, La, Lc, Ln, Lt, Ld, Lr, Li, true_or, or_true, true_and, and_true]); omega) | (simp <;> fail) | skip) [runM_nil]
  refine hK _ _ ?_
  clear hK K
  refine pwp_seq ?_
  first | refine pwp_sr ?_ | refine pwp_regionM ?_
  intro K hK
  simp (disch := first | (refine Ok.mk ?_; (try simp only [Lm, La, Lc, Ln, Lt, Ld, Lr, Li, true_or, or_true, true_and, and_true]); omega) | (simp <;> fail) | skip) [runM_nil]
  refine hK _ _ ?_
  clear hK K
  refine pwp_block ?_
  refine pwp_loopK [3, 4] (fun m st H' => ∃ j : Nat, j ≤ 8 ∧ m = 8 - j ∧ H' = H ∧ st = MS 21 [(3, .int .u32 (stps j i : Nat)), (4, .int .i64 j)]) (n := 8)
    ⟨_, .refl _, 0, by omega, rfl, rfl, by simp [keepL_MS, keepA, getS, stps]⟩ ?_
  rintro m st H' ⟨j, hj, rfl, rfl, rfl⟩
  have hsl := stps_lt hi j
  have hst : stps (j + 1) i = stp (stps j i) := rfl
  by_cases hj8 : j < 8
  · generalize stps j i = c at *
    have e : ((c : Int) / 2).toNat = c / 2 := by omega
    have hx : c / 2 ^^^ 3988292384 < 4294967296 := xor_lt32 (by omega) (by omega)
    first | refine pwp_rif ?_ | refine pwp_rifE ?_
    intro K hK
    simp (disch := first | (refine Ok.mk ?_; (try simp only [Lm, La, Lc, Ln, Lt, Ld, Lr, Li, true_or, or_true, true_and, and_true]); omega) | (simp <;> fail) | skip) [runM_nil]
    refine hK _ _ ?_
    clear hK K
    refine ifT (by simp (disch := first | (refine Ok.mk ?_; (try simp only [Lm, La, Lc, Ln, Lt, Ld, Lr, Li, true_or, or_true, true_and, and_true]); omega) | (simp <;> fail) | skip) [runM_nil]) (pwp_skip ?_)
    refine pwp_seq (pwp_block ?_)
    by_cases hc : c % 2 = 1
    · have hc' : (c : Int) % 2 = 1 := by omega
      first | refine pwp_sr ?_ | refine pwp_regionM ?_
      intro K hK
      simp (disch := first | (refine Ok.mk ?_; (try simp only [Lm, La, Lc, Ln, Lt, Ld, Lr, Li, true_or, or_true, true_and, and_true]); omega) | (simp <;> fail) | skip) [runM_nil]
      refine hK _ _ ?_
      clear hK K
      first | refine pwp_sr ?_ | refine pwp_regionM ?_
      intro K hK
      simp (disch := first | (refine Ok.mk ?_; (try simp only [Lm, La, Lc, Ln, Lt, Ld, Lr, Li, true_or, or_true, true_and, and_true]); omega) | (simp <;> fail) | skip) [runM_nil]
      refine hK _ _ ?_
      clear hK K
      first | refine pwp_rif ?_ | refine pwp_rifE ?_
      intro K hK
      simp (disch := first | (refine Ok.mk ?_; (try simp only [Lm, La, Lc, Ln, Lt, Ld, Lr, Li, true_or, or_true, true_and, and_true]); omega) | (simp <;> fail) | skip) [runM_nil]
      refine hK _ _ ?_
      clear hK K
      refine ifT (by simp (disch := first | (refine Ok.mk ?_; (try simp only [Lm, La, Lc, Ln, Lt, Ld, Lr, Li, true_or, or_true, true_and, and_true]); omega) | (simp <;> fail) | skip) [runM_nil]) ?_
      first | refine pwp_sr ?_ | refine pwp_regionM ?_
      intro K hK
      simp (disch := first | (refine Ok.mk ?_; (try simp only [Lm, La, Lc, Ln, Lt, Ld, Lr, Li, true_or, or_true, true_and, and_true]); omega) | (simp <;> fail) | skip) [runM_nil, e]
      refine hK _ _ ?_
      clear hK K
      first | refine pwp_sr ?_ | refine pwp_regionM ?_
      intro K hK
      simp (disch := first | (refine Ok.mk ?_; (try simp only [Lm, La, Lc, Ln, Lt, Ld, Lr, Li, true_or, or_true, true_and, and_true]); omega) | (simp <;> fail) | skip) [runM_nil]
      refine hK _ _ ?_
      clear hK K
      exact ⟨8 - (j + 1), by omega, _, .refl _, j + 1, by omega, rfl, rfl, by simp [keepL_MS, keepA, getS, hst, stp, hc]⟩
    · have hc' : ¬ (c : Int) % 2 = 1 := by omega
      first | refine pwp_sr ?_ | refine pwp_regionM ?_
      intro K hK
      simp (disch := first | (refine Ok.mk ?_; (try simp only [Lm, La, Lc, Ln, Lt, Ld, Lr, Li, true_or, or_true, true_and, and_true]); omega) | (simp <;> fail) | skip) [runM_nil]
      refine hK _ _ ?_
      clear hK K
      first | refine pwp_sr ?_ | refine pwp_regionM ?_
      intro K hK
      simp (disch := first | (refine Ok.mk ?_; (try simp only [Lm, La, Lc, Ln, Lt, Ld, Lr, Li, true_or, or_true, true_and, and_true]); omega) | (simp <;> fail) | skip) [runM_nil]
      refine hK _ _ ?_
      clear hK K
      first | refine pwp_rif ?_ | refine pwp_rifE ?_
      intro K hK
      simp (disch := first | (refine Ok.mk ?_; (try simp only [Lm, La, Lc, Ln, Lt, Ld, Lr, Li, true_or, or_true, true_and, and_true]); omega) | (simp <;> fail) | skip) [runM_nil]
      refine hK _ _ ?_
      clear hK K
      refine ifF (by simp (disch := first | (refine Ok.mk ?_; (try simp only [Lm, La, Lc, Ln, Lt, Ld, Lr, Li, true_or, or_true, true_and, and_true]); omega) | (simp <;> fail) | skip) [runM_nil]) (pwp_skip ?_)
      first | refine pwp_sr ?_ | refine pwp_regionM ?_
      intro K hK
      simp (disch := first | (refine Ok.mk ?_; (try simp only [Lm, La, Lc, Ln, Lt, Ld, Lr, Li, true_or, or_true, true_and, and_true]); omega) | (simp <;> fail) | skip) [runM_nil]
      refine hK _ _ ?_
      clear hK K
      exact ⟨8 - (j + 1), by omega, _, .refl _, j + 1, by omega, rfl, rfl, by simp [keepL_MS, keepA, getS, hst, stp, hc]⟩
  · obtain rfl : j = 8 := by omega
    have he : stps 8 i = ent i := rfl
    first | refine pwp_rif ?_ | refine pwp_rifE ?_
    intro K hK
    simp (disch := first | (refine Ok.mk ?_; (try simp only [Lm, La, Lc, Ln, Lt, Ld, Lr, Li, true_or, or_true, true_and, and_true]); omega) | (simp <;> fail) | skip) [runM_nil]
    refine hK _ _ ?_
    clear hK K
    refine ifF (by simp (disch := first | (refine Ok.mk ?_; (try simp only [Lm, La, Lc, Ln, Lt, Ld, Lr, Li, true_or, or_true, true_and, and_true]); omega) | (simp <;> fail) | skip) [runM_nil]) ?_
    refine pwp_exit ?_
    first | refine pwp_sr ?_ | refine pwp_regionM ?_
    intro K hK
    simp (disch := first | (refine Ok.mk ?_; (try simp only [Lm, La, Lc, Ln, Lt, Ld, Lr, Li, true_or, or_true, true_and, and_true]); omega) | (simp <;> fail) | skip) [runM_nil]
    refine hK _ _ ?_
    clear hK K
    rw [he]
    refine pwp_ret ⟨.inr rfl, _, _, (by simp (disch := first | (refine Ok.mk ?_; (try simp only [Lm, La, Lc, Ln, Lt, Ld, Lr, Li, true_or, or_true, true_and, and_true]); omega) | (simp <;> fail) | skip) [runM_nil, resL]; rfl), .refl _, by simp (disch := first | (refine Ok.mk ?_; (try simp only [Lm, La, Lc, Ln, Lt, Ld, Lr, Li, true_or, or_true, true_and, and_true]); omega) | (simp <;> fail) | skip) [resV], rfl⟩
set_option maxRecDepth 4000 in
theorem plainSum_ok {o : Bool} {s : Nat} {xs : List PV} {b : List Nat} (hx : xs = b.map u8) (hs : s = 1 ∨ b.length = 0) (hw : ∀ x ∈ b, x < 256) (hl : b.length ≤ 100000000000000) :
    PSpec Tryd.prog 55 [.lst s xs o] (.int .u32 (csum tbl b : Nat)) := by
  subst hx
  intro H
  refine spec_of t55 (by simp [p55]) ?_
  simp only [p55]
  first | refine pwp_sr ?_ | refine pwp_regionM ?_
  intro K hK
  simp (disch := first | (refine Ok.mk ?_; (try simp only [Lm, La, Lc, Ln, Lt, Ld, Lr, Li, true_or, or_true, true_and, and_true]); omega) | (simp <;> fail) | skip) [runM_nil]
  refine hK _ _ ?_
  clear hK K
  first | refine pwp_sr ?_ | refine pwp_regionM ?_
  intro K hK
  simp (disch := first | (refine Ok.mk ?_; (try simp only [Lm, La, Lc, Ln, Lt, Ld, Lr, Li, true_or, or_true, true_and, and_true]); omega) | (simp <;> fail) | skip) [runM_nil]
  refine hK _ _ ?_
  clear hK K
  refine pwp_seq ?_
  first | refine pwp_sr ?_ | refine pwp_regionM ?_
  intro K hK
  simp (disch := first | (refine Ok.mk ?_; (try simp only [Lm, La, Lc, Ln, Lt, Ld, Lr, Li, true_or, or_true, true_and, and_true]); omega) | (simp <;> fail) | skip) [runM_nil]
  refine hK _ _ ?_
  clear hK K
  refine pwp_block ?_
  refine pwp_loopK [0, 3, 4] (fun m st H' => ∃ i d : Nat, i ≤ b.length ∧ m = b.length - i ∧ d < 4294967296 ∧ mor tbl d (b.drop i) = mor tbl 4294967295 b ∧ H' = H ∧ st = MS 26 [(0, .lst s (b.map u8) o), (3, .int .u32 d), (4, .int .i64 i)]) (n := b.length)
    ⟨_, .refl _, 0, 4294967295, Nat.zero_le _, rfl, by omega, rfl, rfl, by simp [keepL_MS, keepA, getS]⟩ ?_
  rintro m st H' ⟨i, d, hi, rfl, hd, hm, rfl, rfl⟩
  by_cases hlt : i < b.length
  · obtain rfl : s = 1 := by omega
    have hxb : b[i] < 256 := hw _ (List.getElem_mem hlt)
    have hgx : b[i]? = some b[i] := List.getElem?_eq_getElem hlt
    rw [mor_drop hlt] at hm
    generalize b[i] = x at *
    have hk : (d % 256) ^^^ x < 256 := xor_lt8 (by omega) hxb
    have hdx : d ^^^ x < 4294967296 := xor_lt32 hd (by omega)
    have hxm : (d ^^^ x) % 256 = (d % 256) ^^^ x := xor_mod256 hxb
    have hxm' : ((d ^^^ x : Nat) : Int) % 256 = ((d % 256) ^^^ x : Nat) := by omega
    have hta : tbl.getD ((d % 256) ^^^ x) 0 = ent ((d % 256) ^^^ x) := tbl_at hk
    have htl : tbl.getD ((d % 256) ^^^ x) 0 < 4294967296 := getD_lt tbl_lt (by omega)
    have hnx : nxt tbl d x = tbl.getD ((d % 256) ^^^ x) 0 ^^^ (d / 256) := rfl
    have hnl : nxt tbl d x < 4294967296 := nxt_lt tbl_lt d x hd
    rw [hta] at htl hnx
    have ce := entry_ok ((d % 256) ^^^ x) (by omega)
    have e2 : ((d : Int) / 256).toNat = d / 256 := by omega
    generalize ent ((d % 256) ^^^ x) = y at *
    first | refine pwp_rif ?_ | refine pwp_rifE ?_
    intro K hK
    simp (disch := first | (refine Ok.mk ?_; (try simp only [Lm, La, Lc, Ln, Lt, Ld, Lr, Li, true_or, or_true, true_and, and_true]); omega) | (simp <;> fail) | skip) [runM_nil]
    refine hK _ _ ?_
    clear hK K
    refine ifT (by simp (disch := first | (refine Ok.mk ?_; (try simp only [Lm, La, Lc, Ln, Lt, Ld, Lr, Li, true_or, or_true, true_and, and_true]); omega) | (simp <;> fail) | skip) [runM_nil]) (pwp_skip ?_)
    refine pwp_seq (pwp_block ?_)
    first | refine pwp_sr ?_ | refine pwp_regionM ?_
    intro K hK
    simp (disch := first | (refine Ok.mk ?_; (try simp only [Lm, La, Lc, Ln, Lt, Ld, Lr, Li, true_or, or_true, true_and, and_true]); omega) | (simp <;> fail) | skip) [runM_nil, hgx, hxm', e2]
    refine useP (ce) ?_
    simp (disch := first | (refine Ok.mk ?_; (try simp only [Lm, La, Lc, Ln, Lt, Ld, Lr, Li, true_or, or_true, true_and, and_true]); omega) | (simp <;> fail) | skip) [runM_nil, hgx, hxm', e2]
    refine hK _ _ ?_
    clear hK K
    first | refine pwp_sr ?_ | refine pwp_regionM ?_
    intro K hK
    simp (disch := first | (refine Ok.mk ?_; (try simp only [Lm, La, Lc, Ln, Lt, Ld, Lr, Li, true_or, or_true, true_and, and_true]); omega) | (simp <;> fail) | skip) [runM_nil]
    refine hK _ _ ?_
    clear hK K
    exact ⟨b.length - (i + 1), by omega, _, .refl _, i + 1, nxt tbl d x, by omega, rfl, hnl, hm, rfl, by simp [keepL_MS, keepA, getS, hnx]⟩
  · obtain rfl : i = b.length := by omega
    rw [List.drop_length] at hm
    first | refine pwp_rif ?_ | refine pwp_rifE ?_
    intro K hK
    simp (disch := first | (refine Ok.mk ?_; (try simp only [Lm, La, Lc, Ln, Lt, Ld, Lr, Li, true_or, or_true, true_and, and_true]); omega) | (simp <;> fail) | skip) [runM_nil]
    refine hK _ _ ?_
    clear hK K
    refine ifF (by simp (disch := first | (refine Ok.mk ?_; (try simp only [Lm, La, Lc, Ln, Lt, Ld, Lr, Li, true_or, or_true, true_and, and_true]); omega) | (simp <;> fail) | skip) [runM_nil]) ?_
    refine pwp_exit ?_
    first | refine pwp_sr ?_ | refine pwp_regionM ?_
    intro K hK
    simp (disch := first | (refine Ok.mk ?_; (try simp only [Lm, La, Lc, Ln, Lt, Ld, Lr, Li, true_or, or_true, true_and, and_true]); omega) | (simp <;> fail) | skip) [runM_nil]
    refine hK _ _ ?_
    clear hK K
    have hcs : csum tbl b = d ^^^ 4294967295 := by rw [csum, ← hm]; rfl
    rw [hcs]
    refine pwp_ret ⟨.inr rfl, _, _, (by simp (disch := first | (refine Ok.mk ?_; (try simp only [Lm, La, Lc, Ln, Lt, Ld, Lr, Li, true_or, or_true, true_and, and_true]); omega) | (simp <;> fail) | skip) [runM_nil, resL]; rfl), .refl _, by simp (disch := first | (refine Ok.mk ?_; (try simp only [Lm, La, Lc, Ln, Lt, Ld, Lr, Li, true_or, or_true, true_and, and_true]); omega) | (simp <;> fail) | skip) [resV], rfl⟩
theorem four_ok (c : Nat) (hc : c < 4294967296) : PSpec Tryd.prog 54 [.int .u32 c] (bV (four c) true) := by
  intro H
  refine spec_of t54 (by simp [p54]) ?_
  simp only [p54]
  first | refine pwp_sr ?_ | refine pwp_regionM ?_
  intro K hK
  simp (disch := first | (refine Ok.mk ?_; (try simp only [Lm, La, Lc, Ln, Lt, Ld, Lr, Li, true_or, or_true, true_and, and_true]); omega) | (simp <;> fail) | skip) [runM_nil]
  refine hK _ _ ?_
  clear hK K
  have e : ((c : Int) / 16777216) % 256 = (c : Int) / 16777216 := by omega
  first | refine pwp_sr ?_ | refine pwp_regionM ?_
  intro K hK
  simp (disch := first | (refine Ok.mk ?_; (try simp only [Lm, La, Lc, Ln, Lt, Ld, Lr, Li, true_or, or_true, true_and, and_true]); omega) | (simp <;> fail) | skip) [runM_nil, wm_u8]
  refine hK _ _ ?_
  clear hK K
  refine pwp_ret ⟨.inr rfl, _, _, (by simp (disch := first | (refine Ok.mk ?_; (try simp only [Lm, La, Lc, Ln, Lt, Ld, Lr, Li, true_or, or_true, true_and, and_true]); omega) | (simp <;> fail) | skip) [runM_nil, resL, four, e]; rfl), .refl _, by simp (disch := first | (refine Ok.mk ?_; (try simp only [Lm, La, Lc, Ln, Lt, Ld, Lr, Li, true_or, or_true, true_and, and_true]); omega) | (simp <;> fail) | skip) [resV, four, e], rfl⟩
set_option maxRecDepth 4000 in
theorem rOpened_ok {o : Bool} {s : Nat} {xs : List PV} {b : List Nat} (hx : xs = b.map u8) (hs : s = 1 ∨ b.length = 0) (hw : ∀ x ∈ b, x < 256) (hl : b.length ≤ 100000000000000) :
    PSpec Tryd.prog 66 [.lst s xs o] (.tup [bV (opened tbl b).1 true, .int .i64 ((opened tbl b).2 : Nat)]) := by
  subst hx
  intro H
  have hoc := opened_cases tbl b
  refine spec_ofU t66 (by simp [p66]) ?_
  simp only [p66]
  first | refine pwp_sr ?_ | refine pwp_regionM ?_
  intro K hK
  simp (disch := first | (refine Ok.mk ?_; (try simp only [Lm, La, Lc, Ln, Lt, Ld, Lr, Li, true_or, or_true, true_and, and_true]); omega) | (simp <;> fail) | skip) [runM_nil]
  refine hK _ _ ?_
  clear hK K
  first | refine pwp_sr ?_ | refine pwp_regionM ?_
  intro K hK
  simp (disch := first | (refine Ok.mk ?_; (try simp only [Lm, La, Lc, Ln, Lt, Ld, Lr, Li, true_or, or_true, true_and, and_true]); omega) | (simp <;> fail) | skip) [runM_nil]
  refine hK _ _ ?_
  clear hK K
  rcases hoc with ⟨h4, e⟩ | ⟨h4, h5, e⟩ | ⟨h4, h5, e⟩
  · first | refine pwp_rif ?_ | refine pwp_rifE ?_
    intro K hK
    simp (disch := first | (refine Ok.mk ?_; (try simp only [Lm, La, Lc, Ln, Lt, Ld, Lr, Li, true_or, or_true, true_and, and_true]); omega) | (simp <;> fail) | skip) [runM_nil]
    refine hK _ _ ?_
    clear hK K
    refine ifT (by simp (disch := first | (refine Ok.mk ?_; (try simp only [Lm, La, Lc, Ln, Lt, Ld, Lr, Li, true_or, or_true, true_and, and_true]); omega) | (simp <;> fail) | skip) [runM_nil]) ?_
    first | refine pwp_sr ?_ | refine pwp_regionM ?_
    intro K hK
    simp (disch := first | (refine Ok.mk ?_; (try simp only [Lm, La, Lc, Ln, Lt, Ld, Lr, Li, true_or, or_true, true_and, and_true]); omega) | (simp <;> fail) | skip) [runM_nil]
    refine hK _ _ ?_
    clear hK K
    rw [e]
    refine pwp_ret ⟨.inr rfl, _, _, _, (by simp (disch := first | (refine Ok.mk ?_; (try simp only [Lm, La, Lc, Ln, Lt, Ld, Lr, Li, true_or, or_true, true_and, and_true]); omega) | (simp <;> fail) | skip) [runM_nil, resL]; rfl), .refl _, (by simp (disch := first | (refine Ok.mk ?_; (try simp only [Lm, La, Lc, Ln, Lt, Ld, Lr, Li, true_or, or_true, true_and, and_true]); omega) | (simp <;> fail) | skip) [resV]), rfl, rfl⟩
  all_goals
    have hml := csum_lt tbl_lt (b.take (b.length - 4))
    have e1 : ((b.length : Int) - 4).toNat = b.length - 4 := by omega
    have hsT : s = 1 := by omega
    subst hsT
    have v1 := cvS_u8 (s := 1) (o := false) (l := four (csum tbl (b.take (b.length - 4)))) rfl (.inl rfl) (four_lt _)
    have v2 := cvS_u8 (s := 1) (o := false) (xs := (b.map u8).drop (b.length - 4)) (l := b.drop (b.length - 4)) (by simp) (.inl rfl) (fun x hx => hw x (List.mem_of_mem_drop hx))
    rw [e]
    first | refine pwp_rif ?_ | refine pwp_rifE ?_
    intro K hK
    simp (disch := first | (refine Ok.mk ?_; (try simp only [Lm, La, Lc, Ln, Lt, Ld, Lr, Li, true_or, or_true, true_and, and_true]); omega) | (simp <;> fail) | skip) [runM_nil]
    refine hK _ _ ?_
    clear hK K
    refine ifF (by simp (disch := first | (refine Ok.mk ?_; (try simp only [Lm, La, Lc, Ln, Lt, Ld, Lr, Li, true_or, or_true, true_and, and_true]); omega) | (simp <;> fail) | skip) [runM_nil]) (pwp_skip ?_)
    first | refine pwp_dif hmix ?_ | refine pwp_difE hmix ?_
    intro K hK
    simp (disch := first | (refine Ok.mk ?_; (try simp only [Lm, La, Lc, Ln, Lt, Ld, Lr, Li, true_or, or_true, true_and, and_true]); omega) | (simp <;> fail) | skip) [runM_nil, e1, v1, v2]
    refine useD (plainSum_ok (b := b.take (b.length - 4)) (by simp) (.inl rfl) (fun x hx => hw x (List.mem_of_mem_take hx)) (by rw [Lt]; omega)) ?_
    simp (disch := first | (refine Ok.mk ?_; (try simp only [Lm, La, Lc, Ln, Lt, Ld, Lr, Li, true_or, or_true, true_and, and_true]); omega) | (simp <;> fail) | skip) [runM_nil, e1, v1, v2]
    refine useD (four_ok _ hml) ?_
    simp (disch := first | (refine Ok.mk ?_; (try simp only [Lm, La, Lc, Ln, Lt, Ld, Lr, Li, true_or, or_true, true_and, and_true]); omega) | (simp <;> fail) | skip) [runM_nil, e1, v1, v2]
    refine hK _ _ ?_
    clear hK K
  · refine ifF (by simp (disch := first | (refine Ok.mk ?_; (try simp only [Lm, La, Lc, Ln, Lt, Ld, Lr, Li, true_or, or_true, true_and, and_true]); omega) | (simp <;> fail) | skip) [runM_nil, h5]) (pwp_skip ?_)
    first | refine pwp_sr ?_ | refine pwp_regionM ?_
    intro K hK
    simp (disch := first | (refine Ok.mk ?_; (try simp only [Lm, La, Lc, Ln, Lt, Ld, Lr, Li, true_or, or_true, true_and, and_true]); omega) | (simp <;> fail) | skip) [runM_nil, e1]
    refine hK _ _ ?_
    clear hK K
    refine pwp_ret ⟨.inr rfl, _, _, _, (by simp (disch := first | (refine Ok.mk ?_; (try simp only [Lm, La, Lc, Ln, Lt, Ld, Lr, Li, true_or, or_true, true_and, and_true]); omega) | (simp <;> fail) | skip) [runM_nil, resL]; rfl), .refl _, (by simp (disch := first | (refine Ok.mk ?_; (try simp only [Lm, La, Lc, Ln, Lt, Ld, Lr, Li, true_or, or_true, true_and, and_true]); omega) | (simp <;> fail) | skip) [resV]), rfl, rfl⟩
  · refine ifT (by simp (disch := first | (refine Ok.mk ?_; (try simp only [Lm, La, Lc, Ln, Lt, Ld, Lr, Li, true_or, or_true, true_and, and_true]); omega) | (simp <;> fail) | skip) [runM_nil, h5]) ?_
    first | refine pwp_sr ?_ | refine pwp_regionM ?_
    intro K hK
    simp (disch := first | (refine Ok.mk ?_; (try simp only [Lm, La, Lc, Ln, Lt, Ld, Lr, Li, true_or, or_true, true_and, and_true]); omega) | (simp <;> fail) | skip) [runM_nil]
    refine hK _ _ ?_
    clear hK K
    refine pwp_ret ⟨.inr rfl, _, _, _, (by simp (disch := first | (refine Ok.mk ?_; (try simp only [Lm, La, Lc, Ln, Lt, Ld, Lr, Li, true_or, or_true, true_and, and_true]); omega) | (simp <;> fail) | skip) [runM_nil, resL]; rfl), .refl _, (by simp (disch := first | (refine Ok.mk ?_; (try simp only [Lm, La, Lc, Ln, Lt, Ld, Lr, Li, true_or, or_true, true_and, and_true]); omega) | (simp <;> fail) | skip) [resV]), rfl, rfl⟩
end Go.Proofs.YtjcjbpbkakfjdaaDoor.E
/- The document's escapes and markers. -/
namespace Go.Proofs.YtjcjbpbkakfjdaaDoor.E
open Go Go.RowKit Go.Proofs
set_option linter.unusedVariables false
set_option linter.unusedSimpArgs false
theorem repW_pre {p n : List Nat} {a : Nat} {l : List Nat} (h1 : 1 ≤ p.length) (h : p.isPrefixOf (a :: l) = true) : repW p n (a :: l) = n ++ repW p n ((a :: l).drop p.length) := by
  have hd : dist p (a :: l) = 0 := by rw [dist, if_pos h]
  rw [repW_hit h1 (by rw [hd]; simp), hd]
  simp
theorem repW_not {p n : List Nat} {a : Nat} {l : List Nat} (h1 : 1 ≤ p.length) (h : ¬ p.isPrefixOf (a :: l) = true) : repW p n (a :: l) = a :: repW p n l := by
  have hd : dist p (a :: l) = dist p l + 1 := by rw [dist, if_neg h]
  by_cases hc : dist p l < l.length
  · rw [repW_hit h1 (by rw [hd, List.length_cons]; omega), repW_hit h1 hc, hd, List.take_succ_cons, show dist p l + 1 + p.length = (dist p l + p.length) + 1 by omega, List.drop_succ_cons]
    rfl
  · rw [repW_miss (by rw [hd, List.length_cons]; omega), repW_miss hc]
def una : List Nat → Option (List Nat)
  | [] => some []
  | [a] => if a = 255 then none else some [a]
  | a :: c :: l => if a = 255 then (if c = 0 then (una l).map (255 :: ·) else none) else (una (c :: l)).map (a :: ·)
abbrev rep2 (b : List Nat) : List Nat := repW [255, 0] [255] b
theorem rep2_esc (l : List Nat) : rep2 (255 :: 0 :: l) = 255 :: rep2 l := repW_pre (by simp) (by simp)
theorem rep2_no {a : Nat} {l : List Nat} (h : ¬ (a = 255 ∧ l.head? = some 0)) : rep2 (a :: l) = a :: rep2 l := repW_not (by simp) (by
  cases l with
  | nil => simp
  | cons c l =>
    simp only [List.isPrefixOf, Bool.and_eq_true, beq_iff_eq]
    rintro ⟨h1, h2, _⟩
    exact h ⟨h1.symm, by rw [← h2]; rfl⟩)
theorem rep2_nil : rep2 [] = [] := by unfold rep2 repW; simp
theorem una_cnt : ∀ (n : Nat) (b : List Nat), b.length ≤ n → b.length ≤ b.count 255 + (rep2 b).length ∧ (∀ r, una b = some r → rep2 b = r ∧ b.count 255 + r.length = b.length) ∧ (una b = none → b.length < b.count 255 + (rep2 b).length)
  | _, [], _ => by
    refine ⟨Nat.zero_le _, fun r h => ?_, fun h => by cases h⟩
    simp only [una, Option.some.injEq] at h
    subst h
    exact ⟨rep2_nil, rfl⟩
  | 0, _ :: _, h => by cases h
  | n + 1, [a], h => by
    have e := rep2_no (a := a) (l := []) (by simp)
    rw [rep2_nil] at e
    by_cases ha : a = 255
    · subst ha
      rw [e]
      exact ⟨by simp, fun r h => by simp [una] at h, fun _ => by simp⟩
    · rw [e]
      refine ⟨by simp, fun r h => ?_, fun h => by simp [una, ha] at h⟩
      simp only [una, if_neg ha, Option.some.injEq] at h
      subst h
      exact ⟨rfl, by simp [ha]⟩
  | n + 1, a :: c :: l, h => by
    by_cases ha : a = 255
    · subst ha
      by_cases hc : c = 0
      · subst hc
        obtain ⟨i1, i2, i3⟩ := una_cnt n l (by simp at h; omega)
        rw [rep2_esc]
        have hcn : (255 :: 0 :: l).count 255 = l.count 255 + 1 := by simp
        simp only [hcn, List.length_cons, una, if_true]
        refine ⟨by omega, fun r hr => ?_, fun hr => ?_⟩
        · obtain ⟨r', hr', rfl⟩ := Option.map_eq_some_iff.1 hr
          obtain ⟨q1, q2⟩ := i2 r' hr'
          exact ⟨by rw [q1], by simp only [List.length_cons]; omega⟩
        · have := i3 (Option.map_eq_none_iff.1 hr)
          omega
      · obtain ⟨i1, _, _⟩ := una_cnt n (c :: l) (by simp at h ⊢; omega)
        rw [rep2_no (by simpa using hc)]
        have hcn : (255 :: c :: l).count 255 = (c :: l).count 255 + 1 := by simp
        simp only [hcn, una, if_true, if_neg hc]
        simp only [List.length_cons] at i1 ⊢
        exact ⟨by omega, fun r hr => by simp at hr, fun _ => by omega⟩
    · obtain ⟨i1, i2, i3⟩ := una_cnt n (c :: l) (by simp at h ⊢; omega)
      rw [rep2_no (by simp [ha])]
      have hcn : (a :: c :: l).count 255 = (c :: l).count 255 := List.count_cons_of_ne ha
      simp only [hcn, una, if_neg ha]
      refine ⟨by simp only [List.length_cons] at i1 ⊢; omega, fun r hr => ?_, fun hr => ?_⟩
      · obtain ⟨r', hr', rfl⟩ := Option.map_eq_some_iff.1 hr
        obtain ⟨q1, q2⟩ := i2 r' hr'
        exact ⟨by rw [q1], by simp only [List.length_cons] at q2 ⊢; omega⟩
      · have := i3 (Option.map_eq_none_iff.1 hr)
        simp only [List.length_cons] at this ⊢
        omega
theorem unaB_some {b r : List Nat} (h : una b = some r) : unaB b = (r, 0) := by
  obtain ⟨q1, q2⟩ := (una_cnt _ b (Nat.le_refl _)).2.1 r h
  unfold unaB
  rw [show repW [255, 0] [255] b = r from q1, if_pos q2]
theorem unaB_none {b : List Nat} (h : una b = none) : unaB b = ([], 3) := by
  have := (una_cnt _ b (Nat.le_refl _)).2.2 h
  unfold unaB
  rw [if_neg (fun e => by simp only [rep2] at this; omega)]
theorem una_drop {b : List Nat} {i : Nat} (h : i < b.length) : una (b.drop i) = if b[i] = 255 then (if h2 : i + 1 < b.length then (if b[i + 1] = 0 then (una (b.drop (i + 2))).map (255 :: ·) else none) else none) else (una (b.drop (i + 1))).map (b[i] :: ·) := by
  rw [List.drop_eq_getElem_cons h]
  by_cases h2 : i + 1 < b.length
  · rw [List.drop_eq_getElem_cons h2, una, dif_pos h2]
  · rw [List.drop_of_length_le (show b.length ≤ i + 1 by omega), una, dif_neg h2]
    rfl
theorem runa_ok {s : Nat} {xs : List PV} {o : Bool} {b : List Nat} (hx : xs = b.map u8) (hs : s = 1 ∨ b.length = 0) (hw : ∀ x ∈ b, x < 256) (hl : b.length ≤ 100000000) :
    PSpec Tryd.prog 14 [.lst s xs o] (.tup [bV (unaB b).1 true, .int .i64 ((unaB b).2 : Nat)]) := by
  intro H
  have hxl : xs.length = b.length := by rw [hx, Lm]
  have hge : ∀ i (h : i < b.length), xs[i]? = some (.int .u8 (b[i] : Nat)) := fun i h => by rw [hx, List.getElem?_map, List.getElem?_eq_getElem h]; rfl
  refine spec_ofU t14 (by simp [p14]) ?_
  simp only [p14]
  first | refine pwp_sr ?_ | refine pwp_regionM ?_
  intro K hK
  simp (disch := first | (refine Ok.mk ?_; (try simp only [Lm, La, Lc, Ln, Lt, Ld, Lr, Li, true_or, or_true, true_and, and_true]); omega) | (simp <;> fail) | skip) [runM_nil]
  refine hK _ _ ?_
  clear hK K
  first | refine pwp_sr ?_ | refine pwp_regionM ?_
  intro K hK
  simp (disch := first | (refine Ok.mk ?_; (try simp only [Lm, La, Lc, Ln, Lt, Ld, Lr, Li, true_or, or_true, true_and, and_true]); omega) | (simp <;> fail) | skip) [runM_nil]
  refine hK _ _ ?_
  clear hK K
  refine pwp_seq (pwp_seq ?_)
  first | refine pwp_sr ?_ | refine pwp_regionM ?_
  intro K hK
  simp (disch := first | (refine Ok.mk ?_; (try simp only [Lm, La, Lc, Ln, Lt, Ld, Lr, Li, true_or, or_true, true_and, and_true]); omega) | (simp <;> fail) | skip) [runM_nil]
  refine hK _ _ ?_
  clear hK K
  refine pwp_block ?_
  refine pwp_loopK [0, 4, 5] (fun m st H' => ∃ (i : Nat) (out : List Nat), i ≤ b.length ∧ out.length ≤ i ∧ una b = (una (b.drop i)).map (out ++ ·) ∧ m = b.length - i ∧ H' = H ∧ st = MS 39 [(0, .lst s xs o), (4, bV out true), (5, .int .i64 i)]) (n := b.length)
    ⟨_, .refl _, 0, [], by omega, by simp, (by simp), rfl, rfl, by simp [keepL_MS, keepA, getS]⟩ ?_
  rintro m st _ ⟨i, out, hi, hol, hun, rfl, rfl, rfl⟩
  by_cases hlt : i < b.length
  · have hg := hge i hlt
    have hst := una_drop hlt
    obtain rfl : s = 1 := hs.resolve_right (by omega)
    have hg1 : ∀ h : i + 1 < b.length, xs[i + 1]? = some (.int .u8 (b[i + 1] : Nat)) := hge (i + 1)
    rw [hst] at hun
    generalize b[i] = x at *
    refine pwp_seq ?_
    first | refine pwp_sr ?_ | refine pwp_regionM ?_
    intro K hK
    simp (disch := first | (refine Ok.mk ?_; (try simp only [Lm, La, Lc, Ln, Lt, Ld, Lr, Li, true_or, or_true, true_and, and_true]); omega) | (simp <;> fail) | skip) [runM_nil, hxl]
    refine hK _ _ ?_
    clear hK K
    refine pwp_cT (by simp [hlt]) (pwp_skip ?_)
    refine pwp_seq (pwp_block ?_)
    first | refine pwp_sr ?_ | refine pwp_regionM ?_
    intro K hK
    simp (disch := first | (refine Ok.mk ?_; (try simp only [Lm, La, Lc, Ln, Lt, Ld, Lr, Li, true_or, or_true, true_and, and_true]); omega) | (simp <;> fail) | skip) [runM_nil, hg, hxl]
    refine hK _ _ ?_
    clear hK K
    by_cases hx5 : x = 255
    · subst hx5
      rw [if_pos rfl] at hun
      refine pwp_rifE ?_
      intro K hK
      simp (disch := first | (refine Ok.mk ?_; (try simp only [Lm, La, Lc, Ln, Lt, Ld, Lr, Li, true_or, or_true, true_and, and_true]); omega) | (simp <;> fail) | skip) [runM_nil, hg, hxl]
      refine hK _ _ ?_
      clear hK K
      refine ifT (by simp (disch := first | (refine Ok.mk ?_; (try simp only [Lm, La, Lc, Ln, Lt, Ld, Lr, Li, true_or, or_true, true_and, and_true]); omega) | (simp <;> fail) | skip) [runM_nil]) ?_
      first | refine pwp_sr ?_ | refine pwp_regionM ?_
      intro K hK
      simp (disch := first | (refine Ok.mk ?_; (try simp only [Lm, La, Lc, Ln, Lt, Ld, Lr, Li, true_or, or_true, true_and, and_true]); omega) | (simp <;> fail) | skip) [runM_nil]
      refine hK _ _ ?_
      clear hK K
      by_cases h2 : i + 1 < b.length
      · have g1 := hg1 h2
        rw [dif_pos h2] at hun
        generalize b[i + 1] = y at *
        have n1 : ¬ (i : Int) + 1 = b.length := by omega
        have n2 : ((i : Int) + 1).toNat = i + 1 := by omega
        by_cases hy : y = 0
        · subst hy
          rw [if_pos rfl] at hun
          have e2 : ((i : Int) + 1 + 1) = i + 2 := by omega
          refine pwp_rifE ?_
          intro K hK
          simp (disch := first | (refine Ok.mk ?_; (try simp only [Lm, La, Lc, Ln, Lt, Ld, Lr, Li, true_or, or_true, true_and, and_true]); omega) | (simp <;> fail) | skip) [runM_nil, hxl, n1, n2, g1]
          refine hK _ _ ?_
          clear hK K
          refine ifF (by simp [runM_nil, n1]) (pwp_skip ?_)
          first | refine pwp_sr ?_ | refine pwp_regionM ?_
          intro K hK
          simp (disch := first | (refine Ok.mk ?_; (try simp only [Lm, La, Lc, Ln, Lt, Ld, Lr, Li, true_or, or_true, true_and, and_true]); omega) | (simp <;> fail) | skip) [runM_nil]
          refine hK _ _ ?_
          clear hK K
          refine ⟨b.length - (i + 2), by omega, _, .refl _, i + 2, out ++ [255], by omega, by simp; omega, ?_, rfl, rfl, by simp [keepL_MS, keepA, getS, e2]⟩
          rw [hun, Option.map_map]
          congr 1
          funext l
          simp
        · have hy' : ¬ (y : Int) = 0 := by omega
          rw [if_neg hy] at hun
          refine pwp_rifE ?_
          intro K hK
          simp (disch := first | (refine Ok.mk ?_; (try simp only [Lm, La, Lc, Ln, Lt, Ld, Lr, Li, true_or, or_true, true_and, and_true]); omega) | (simp <;> fail) | skip) [runM_nil, hxl, n1, n2, g1, hy, hy']
          refine hK _ _ ?_
          clear hK K
          refine ifT (by simp [runM_nil, n1, hy, hy']) ?_
          first | refine pwp_sr ?_ | refine pwp_regionM ?_
          intro K hK
          simp (disch := first | (refine Ok.mk ?_; (try simp only [Lm, La, Lc, Ln, Lt, Ld, Lr, Li, true_or, or_true, true_and, and_true]); omega) | (simp <;> fail) | skip) [runM_nil]
          refine hK _ _ ?_
          clear hK K
          rw [unaB_none hun]
          refine pwp_ret (And.intro (.inr rfl) ⟨_, _, _, (by simp (disch := first | (refine Ok.mk ?_; (try simp only [Lm, La, Lc, Ln, Lt, Ld, Lr, Li, true_or, or_true, true_and, and_true]); omega) | (simp <;> fail) | skip) [runM_nil, resL]; rfl), .refl _, (by simp (disch := first | (refine Ok.mk ?_; (try simp only [Lm, La, Lc, Ln, Lt, Ld, Lr, Li, true_or, or_true, true_and, and_true]); omega) | (simp <;> fail) | skip) [resV]), rfl, rfl⟩)
      · have n1 : (i : Int) + 1 = b.length := by omega
        rw [dif_neg h2] at hun
        refine pwp_rifE ?_
        intro K hK
        simp (disch := first | (refine Ok.mk ?_; (try simp only [Lm, La, Lc, Ln, Lt, Ld, Lr, Li, true_or, or_true, true_and, and_true]); omega) | (simp <;> fail) | skip) [runM_nil, hxl, n1]
        refine hK _ _ ?_
        clear hK K
        refine ifT (by simp [runM_nil, n1]) ?_
        first | refine pwp_sr ?_ | refine pwp_regionM ?_
        intro K hK
        simp (disch := first | (refine Ok.mk ?_; (try simp only [Lm, La, Lc, Ln, Lt, Ld, Lr, Li, true_or, or_true, true_and, and_true]); omega) | (simp <;> fail) | skip) [runM_nil]
        refine hK _ _ ?_
        clear hK K
        rw [unaB_none hun]
        refine pwp_ret (And.intro (.inr rfl) ⟨_, _, _, (by simp (disch := first | (refine Ok.mk ?_; (try simp only [Lm, La, Lc, Ln, Lt, Ld, Lr, Li, true_or, or_true, true_and, and_true]); omega) | (simp <;> fail) | skip) [runM_nil, resL]; rfl), .refl _, (by simp (disch := first | (refine Ok.mk ?_; (try simp only [Lm, La, Lc, Ln, Lt, Ld, Lr, Li, true_or, or_true, true_and, and_true]); omega) | (simp <;> fail) | skip) [resV]), rfl, rfl⟩)
    · rw [if_neg hx5] at hun
      have hx6 : ¬ (x : Int) = 255 := by omega
      refine pwp_rifE ?_
      intro K hK
      simp (disch := first | (refine Ok.mk ?_; (try simp only [Lm, La, Lc, Ln, Lt, Ld, Lr, Li, true_or, or_true, true_and, and_true]); omega) | (simp <;> fail) | skip) [runM_nil, hg, hxl, hx5, hx6]
      refine hK _ _ ?_
      clear hK K
      refine ifF (by simp [runM_nil, hx5, hx6]) (pwp_skip ?_)
      first | refine pwp_sr ?_ | refine pwp_regionM ?_
      intro K hK
      simp (disch := first | (refine Ok.mk ?_; (try simp only [Lm, La, Lc, Ln, Lt, Ld, Lr, Li, true_or, or_true, true_and, and_true]); omega) | (simp <;> fail) | skip) [runM_nil]
      refine hK _ _ ?_
      clear hK K
      refine ⟨b.length - (i + 1), by omega, _, .refl _, i + 1, out ++ [x], by omega, by simp; omega, ?_, rfl, rfl, by simp [keepL_MS, keepA, getS]⟩
      rw [hun, Option.map_map]
      congr 1
      funext l
      simp
  · obtain rfl : i = b.length := by omega
    rw [List.drop_length, una, Option.map_some, List.append_nil] at hun
    rw [unaB_some hun]
    refine pwp_seq ?_
    first | refine pwp_sr ?_ | refine pwp_regionM ?_
    intro K hK
    simp (disch := first | (refine Ok.mk ?_; (try simp only [Lm, La, Lc, Ln, Lt, Ld, Lr, Li, true_or, or_true, true_and, and_true]); omega) | (simp <;> fail) | skip) [runM_nil, hxl]
    refine hK _ _ ?_
    clear hK K
    refine pwp_cF (by simp) (pwp_exit ?_)
    first | refine pwp_sr ?_ | refine pwp_regionM ?_
    intro K hK
    simp (disch := first | (refine Ok.mk ?_; (try simp only [Lm, La, Lc, Ln, Lt, Ld, Lr, Li, true_or, or_true, true_and, and_true]); omega) | (simp <;> fail) | skip) [runM_nil]
    refine hK _ _ ?_
    clear hK K
    refine pwp_ret ⟨.inr rfl, _, _, _, (by simp (disch := first | (refine Ok.mk ?_; (try simp only [Lm, La, Lc, Ln, Lt, Ld, Lr, Li, true_or, or_true, true_and, and_true]); omega) | (simp <;> fail) | skip) [runM_nil, resL]; rfl), .refl _, (by simp (disch := first | (refine Ok.mk ?_; (try simp only [Lm, La, Lc, Ln, Lt, Ld, Lr, Li, true_or, or_true, true_and, and_true]); omega) | (simp <;> fail) | skip) [resV]), rfl, rfl⟩
end Go.Proofs.YtjcjbpbkakfjdaaDoor.E
/- The document's markers, pairs, records and blocks. -/
namespace Go.Proofs.YtjcjbpbkakfjdaaDoor.E
open Go Go.RowKit Go.Proofs
set_option linter.unusedVariables false
set_option linter.unusedSimpArgs false
theorem pre2_iff {b : List Nat} {k : Nat} : [255, 83].isPrefixOf (b.drop k) = true ↔ ∃ h : k + 1 < b.length, b[k] = 255 ∧ b[k + 1] = 83 := by
  constructor
  · intro h
    have h2 := prefix2 h
    refine ⟨by omega, ?_⟩
    rw [List.drop_eq_getElem_cons (show k < b.length by omega), List.drop_eq_getElem_cons (show k + 1 < b.length by omega)] at h
    simp only [List.isPrefixOf, Bool.and_eq_true, beq_iff_eq] at h
    exact ⟨h.1.symm, h.2.1.symm⟩
  · rintro ⟨h1, h2, h3⟩
    rw [List.drop_eq_getElem_cons (show k < b.length by omega), List.drop_eq_getElem_cons h1, h2, h3]
    simp
theorem mkB_here {b : List Nat} {k : Nat} (h : [255, 83].isPrefixOf (b.drop k) = true) : mkB b k = k := by
  have h2 := prefix2 h
  have e : min k b.length = k := by omega
  unfold mkB
  rw [e]
  have : dist [255, 83] (b.drop k) = 0 := by
    rw [List.drop_eq_getElem_cons (show k < b.length by omega)] at h ⊢
    rw [dist, if_pos h]
  omega
theorem mkB_next {b : List Nat} {k : Nat} (hk : k < b.length) (h : ¬ [255, 83].isPrefixOf (b.drop k) = true) : mkB b k = mkB b (k + 1) := by
  unfold mkB
  rw [show min k b.length = k by omega, show min (k + 1) b.length = k + 1 by omega]
  have : dist [255, 83] (b.drop k) = dist [255, 83] (b.drop (k + 1)) + 1 := by
    rw [List.drop_eq_getElem_cons hk] at h ⊢
    rw [dist, if_neg h]
  omega
theorem mkB_end {b : List Nat} {k : Nat} (hk : b.length ≤ k + 1) : mkB b k = b.length := by
  by_cases h : k < b.length
  · rw [mkB_next h (fun hp => by have := prefix2 hp; omega)]
    unfold mkB
    rw [show min (k + 1) b.length = b.length by omega]
    simp [dist]
  · unfold mkB
    rw [show min k b.length = b.length by omega]
    simp [dist]
theorem rmarker_ok {s : Nat} {xs : List PV} {o : Bool} {b : List Nat} (hx : xs = b.map u8) (hs : s = 1 ∨ b.length = 0) (hw : ∀ x ∈ b, x < 256) (hl : b.length ≤ 100000000) (n : Int) (hn : n ≤ 9223372036854775807) :
    PSpec Tryd.prog 65 [.lst s xs o, .int .i64 n] (.int .i64 (mkB b n.toNat : Nat)) := by
  intro H
  have hxl : xs.length = b.length := by rw [hx, Lm]
  have hge : ∀ i (h : i < b.length), xs[i]? = some (.int .u8 (b[i] : Nat)) := fun i h => by rw [hx, List.getElem?_map, List.getElem?_eq_getElem h]; rfl
  have m1 : (if (0 : Int) < n then n else 0) = (n.toNat : Int) := by split <;> omega
  have m1b : (if n < (0 : Int) then 0 else n) = (n.toNat : Int) := by split <;> omega
  refine spec_of t65 (by simp [p65]) ?_
  simp only [p65]
  obtain ⟨k, hk⟩ : ∃ k, n.toNat = k := ⟨_, rfl⟩
  have hk3 : k ≤ 9223372036854775807 := by omega
  rw [hk] at m1 m1b ⊢
  first | refine pwp_sr ?_ | refine pwp_regionM ?_
  intro K hK
  simp (disch := first | (refine Ok.mk ?_; (try simp only [Lm, La, Lc, Ln, Lt, Ld, Lr, Li, true_or, or_true, true_and, and_true]); omega) | (simp <;> fail) | skip) [runM_nil]
  refine hK _ _ ?_
  clear hK K
  refine pwp_seq (pwp_seq ?_)
  first | refine pwp_sr ?_ | refine pwp_regionM ?_
  intro K hK
  simp (disch := first | (refine Ok.mk ?_; (try simp only [Lm, La, Lc, Ln, Lt, Ld, Lr, Li, true_or, or_true, true_and, and_true]); omega) | (simp <;> fail) | skip) [runM_nil, m1, m1b]
  refine hK _ _ ?_
  clear hK K
  refine pwp_block ?_
  refine pwp_loopK [0, 5] (fun m st H' => ∃ i : Nat, i ≤ 9223372036854775807 ∧ mkB b k = mkB b i ∧ m = b.length - i ∧ H' = H ∧ st = MS 31 [(0, .lst s xs o), (5, .int .i64 i)]) (n := b.length - k)
    ⟨_, .refl _, k, hk3, rfl, rfl, rfl, by simp [keepL_MS, keepA, getS]⟩ ?_
  rintro m st _ ⟨i, hi, hmk, rfl, rfl, rfl⟩
  by_cases hlt : i + 1 < b.length
  · have hlt' : (i : Int) < (b.length : Int) - 1 := by omega
    have g0 := hge i (by omega)
    have g1 := hge (i + 1) hlt
    have n2 : ((i : Int) + 1).toNat = i + 1 := by omega
    obtain rfl : s = 1 := hs.resolve_right (by omega)
    have hp := pre2_iff (b := b) (k := i)
    have hh := mkB_here (b := b) (k := i)
    have hn := mkB_next (b := b) (k := i) (by omega)
    refine pwp_seq ?_
    first | refine pwp_sr ?_ | refine pwp_regionM ?_
    intro K hK
    simp (disch := first | (refine Ok.mk ?_; (try simp only [Lm, La, Lc, Ln, Lt, Ld, Lr, Li, true_or, or_true, true_and, and_true]); omega) | (simp <;> fail) | skip) [runM_nil, hxl, hlt']
    refine hK _ _ ?_
    clear hK K
    refine pwp_cT (by simp [hlt']) (pwp_skip ?_)
    refine pwp_seq (pwp_block ?_)
    by_cases q1 : b[i] = 255
    · have q1' : ((b[i] : Nat) : Int) = 255 := by omega
      by_cases q2 : b[i + 1] = 83
      · have q2' : ((b[i + 1] : Nat) : Int) = 83 := by omega
        have hpt := hp.2 ⟨hlt, q1, q2⟩
        rw [hmk, hh hpt]
        generalize b[i] = x at *
        generalize b[i + 1] = y at *
        refine pwp_rifE ?_
        intro K hK
        simp (disch := first | (refine Ok.mk ?_; (try simp only [Lm, La, Lc, Ln, Lt, Ld, Lr, Li, true_or, or_true, true_and, and_true]); omega) | (simp <;> fail) | skip) [runM_nil, hxl, n2, g0, g1, q1, q2, q1', q2']
        refine hK _ _ ?_
        clear hK K
        refine ifT (by simp [runM_nil, q1, q2, q1', q2']) ?_
        first | refine pwp_sr ?_ | refine pwp_regionM ?_
        intro K hK
        simp (disch := first | (refine Ok.mk ?_; (try simp only [Lm, La, Lc, Ln, Lt, Ld, Lr, Li, true_or, or_true, true_and, and_true]); omega) | (simp <;> fail) | skip) [runM_nil]
        refine hK _ _ ?_
        clear hK K
        refine pwp_ret (And.intro (.inr rfl) ⟨_, _, (by simp (disch := first | (refine Ok.mk ?_; (try simp only [Lm, La, Lc, Ln, Lt, Ld, Lr, Li, true_or, or_true, true_and, and_true]); omega) | (simp <;> fail) | skip) [runM_nil, resL]; rfl), .refl _, by simp (disch := first | (refine Ok.mk ?_; (try simp only [Lm, La, Lc, Ln, Lt, Ld, Lr, Li, true_or, or_true, true_and, and_true]); omega) | (simp <;> fail) | skip) [resV], rfl⟩)
      · have q2' : ¬ ((b[i + 1] : Nat) : Int) = 83 := by omega
        have hpt := hn fun h => by obtain ⟨_, _, h3⟩ := hp.1 h; exact q2 h3
        generalize b[i] = x at *
        generalize b[i + 1] = y at *
        refine pwp_rifE ?_
        intro K hK
        simp (disch := first | (refine Ok.mk ?_; (try simp only [Lm, La, Lc, Ln, Lt, Ld, Lr, Li, true_or, or_true, true_and, and_true]); omega) | (simp <;> fail) | skip) [runM_nil, hxl, n2, g0, g1, q1, q2, q1', q2']
        refine hK _ _ ?_
        clear hK K
        refine ifF (by simp [runM_nil, q1, q2, q1', q2']) (pwp_skip ?_)
        first | refine pwp_sr ?_ | refine pwp_regionM ?_
        intro K hK
        simp (disch := first | (refine Ok.mk ?_; (try simp only [Lm, La, Lc, Ln, Lt, Ld, Lr, Li, true_or, or_true, true_and, and_true]); omega) | (simp <;> fail) | skip) [runM_nil]
        refine hK _ _ ?_
        clear hK K
        exact ⟨b.length - (i + 1), by omega, _, .refl _, i + 1, by omega, hmk.trans hpt, rfl, rfl, by simp [keepL_MS, keepA, getS]⟩
    · have q1' : ¬ ((b[i] : Nat) : Int) = 255 := by omega
      have hpt := hn fun h => by obtain ⟨_, h2, _⟩ := hp.1 h; exact q1 h2
      generalize b[i] = x at *
      generalize b[i + 1] = y at *
      refine pwp_rifE ?_
      intro K hK
      simp (disch := first | (refine Ok.mk ?_; (try simp only [Lm, La, Lc, Ln, Lt, Ld, Lr, Li, true_or, or_true, true_and, and_true]); omega) | (simp <;> fail) | skip) [runM_nil, hxl, n2, g0, g1, q1, q1']
      refine hK _ _ ?_
      clear hK K
      refine ifF (by simp [runM_nil, q1, q1']) (pwp_skip ?_)
      first | refine pwp_sr ?_ | refine pwp_regionM ?_
      intro K hK
      simp (disch := first | (refine Ok.mk ?_; (try simp only [Lm, La, Lc, Ln, Lt, Ld, Lr, Li, true_or, or_true, true_and, and_true]); omega) | (simp <;> fail) | skip) [runM_nil]
      refine hK _ _ ?_
      clear hK K
      exact ⟨b.length - (i + 1), by omega, _, .refl _, i + 1, by omega, hmk.trans hpt, rfl, rfl, by simp [keepL_MS, keepA, getS]⟩
  · have hlt' : ¬ (i : Int) < (b.length : Int) - 1 := by omega
    rw [hmk, mkB_end (by omega)]
    refine pwp_seq ?_
    first | refine pwp_sr ?_ | refine pwp_regionM ?_
    intro K hK
    simp (disch := first | (refine Ok.mk ?_; (try simp only [Lm, La, Lc, Ln, Lt, Ld, Lr, Li, true_or, or_true, true_and, and_true]); omega) | (simp <;> fail) | skip) [runM_nil, hxl, hlt']
    refine hK _ _ ?_
    clear hK K
    refine pwp_cF (by simp [hlt']) (pwp_exit ?_)
    first | refine pwp_sr ?_ | refine pwp_regionM ?_
    intro K hK
    simp (disch := first | (refine Ok.mk ?_; (try simp only [Lm, La, Lc, Ln, Lt, Ld, Lr, Li, true_or, or_true, true_and, and_true]); omega) | (simp <;> fail) | skip) [runM_nil, hxl]
    refine hK _ _ ?_
    clear hK K
    refine pwp_ret ⟨.inr rfl, _, _, (by simp (disch := first | (refine Ok.mk ?_; (try simp only [Lm, La, Lc, Ln, Lt, Ld, Lr, Li, true_or, or_true, true_and, and_true]); omega) | (simp <;> fail) | skip) [runM_nil, resL]; rfl), .refl _, by simp (disch := first | (refine Ok.mk ?_; (try simp only [Lm, La, Lc, Ln, Lt, Ld, Lr, Li, true_or, or_true, true_and, and_true]); omega) | (simp <;> fail) | skip) [resV], rfl⟩
theorem rtakePair_ok {s : Nat} {xs : List PV} {o : Bool} {b : List Nat} (hx : xs = b.map u8) (hs : s = 1 ∨ b.length = 0) (hw : ∀ x ∈ b, x < 256) (hl : b.length ≤ 1000000) :
    PSpec Tryd.prog 78 [.lst s xs o, .int .i64 1000] (.tup [.agg [.str (ci (vpair b).1.1), .str (ci (vpair b).1.2)], bV (vpair b).2.1 true, .int .i64 ((vpair b).2.2 : Nat)]) := by
  intro H
  have c1 := rtakeFrame_ok (o := false) hx hs hw (by omega) 1000 (by omega)
  obtain ⟨w1, w2, w3, w4⟩ := vframe_wf hw 1000
  have c2 := rtakeFrame_ok (s := 1) (xs := (vframe b 1000).2.1.map u8) (o := false) rfl (.inl rfl) w2 (by omega) 1000 (by omega)
  unfold vpair
  generalize vframe b 1000 = F at *
  obtain ⟨f1, f2, f3⟩ := F
  dsimp only at *
  generalize vframe f2 1000 = T at *
  obtain ⟨t1, t2, t3⟩ := T
  dsimp only at *
  refine spec_ofU t78 (by simp [p78]) ?_
  simp only [p78]
  first | refine pwp_sr ?_ | refine pwp_regionM ?_
  intro K hK
  simp (disch := first | (refine Ok.mk ?_; (try simp only [Lm, La, Lc, Ln, Lt, Ld, Lr, Li, true_or, or_true, true_and, and_true]); omega) | (simp <;> fail) | skip) [runM_nil]
  intro b4 h_b4
  try simp (disch := first | (refine Ok.mk ?_; (try simp only [Lm, La, Lc, Ln, Lt, Ld, Lr, Li, true_or, or_true, true_and, and_true]); omega) | (simp <;> fail) | skip) [runM_nil]
  refine hK _ _ ?_
  clear hK K
  first | refine pwp_sr ?_ | refine pwp_regionM ?_
  intro K hK
  simp (disch := first | (refine Ok.mk ?_; (try simp only [Lm, La, Lc, Ln, Lt, Ld, Lr, Li, true_or, or_true, true_and, and_true]); omega) | (simp <;> fail) | skip) [runM_nil]
  refine useP (c1) ?_
  simp (disch := first | (refine Ok.mk ?_; (try simp only [Lm, La, Lc, Ln, Lt, Ld, Lr, Li, true_or, or_true, true_and, and_true]); omega) | (simp <;> fail) | skip) [runM_nil]
  refine hK _ _ ?_
  clear hK K
  by_cases h3 : f3 = 0
  · subst h3
    first | refine pwp_rif ?_ | refine pwp_rifE ?_
    intro K hK
    simp (disch := first | (refine Ok.mk ?_; (try simp only [Lm, La, Lc, Ln, Lt, Ld, Lr, Li, true_or, or_true, true_and, and_true]); omega) | (simp <;> fail) | skip) [runM_nil]
    refine hK _ _ ?_
    clear hK K
    refine ifF (by simp [runM_nil]) (pwp_skip ?_)
    first | refine pwp_sr ?_ | refine pwp_regionM ?_
    intro K hK
    simp (disch := first | (refine Ok.mk ?_; (try simp only [Lm, La, Lc, Ln, Lt, Ld, Lr, Li, true_or, or_true, true_and, and_true]); omega) | (simp <;> fail) | skip) [runM_nil]
    refine useP (c2) ?_
    simp (disch := first | (refine Ok.mk ?_; (try simp only [Lm, La, Lc, Ln, Lt, Ld, Lr, Li, true_or, or_true, true_and, and_true]); omega) | (simp <;> fail) | skip) [runM_nil]
    refine hK _ _ ?_
    clear hK K
    by_cases h4 : t3 = 0
    · subst h4
      first | refine pwp_rif ?_ | refine pwp_rifE ?_
      intro K hK
      simp (disch := first | (refine Ok.mk ?_; (try simp only [Lm, La, Lc, Ln, Lt, Ld, Lr, Li, true_or, or_true, true_and, and_true]); omega) | (simp <;> fail) | skip) [runM_nil]
      refine hK _ _ ?_
      clear hK K
      refine ifF (by simp [runM_nil]) (pwp_skip ?_)
      first | refine pwp_sr ?_ | refine pwp_regionM ?_
      intro K hK
      simp (disch := first | (refine Ok.mk ?_; (try simp only [Lm, La, Lc, Ln, Lt, Ld, Lr, Li, true_or, or_true, true_and, and_true]); omega) | (simp <;> fail) | skip) [runM_nil]
      refine hK _ _ ?_
      clear hK K
      refine pwp_ret (And.intro (.inr rfl) ⟨_, _, _, (by simp (disch := first | (refine Ok.mk ?_; (try simp only [Lm, La, Lc, Ln, Lt, Ld, Lr, Li, true_or, or_true, true_and, and_true]); omega) | (simp <;> fail) | skip) [runM_nil, resL]; rfl), (.cons _ (.refl _)), (by simp (disch := first | (refine Ok.mk ?_; (try simp only [Lm, La, Lc, Ln, Lt, Ld, Lr, Li, true_or, or_true, true_and, and_true]); omega) | (simp <;> fail) | skip) [resV]), rfl, rfl⟩)
    · have h4' : ¬ (t3 : Int) = 0 := by omega
      first | refine pwp_rif ?_ | refine pwp_rifE ?_
      intro K hK
      simp (disch := first | (refine Ok.mk ?_; (try simp only [Lm, La, Lc, Ln, Lt, Ld, Lr, Li, true_or, or_true, true_and, and_true]); omega) | (simp <;> fail) | skip) [runM_nil, h4, h4']
      refine hK _ _ ?_
      clear hK K
      refine ifT (by simp [runM_nil, h4, h4']) ?_
      first | refine pwp_sr ?_ | refine pwp_regionM ?_
      intro K hK
      simp (disch := first | (refine Ok.mk ?_; (try simp only [Lm, La, Lc, Ln, Lt, Ld, Lr, Li, true_or, or_true, true_and, and_true]); omega) | (simp <;> fail) | skip) [runM_nil]
      refine hK _ _ ?_
      clear hK K
      refine pwp_ret (And.intro (.inr rfl) ⟨_, _, _, (by simp (disch := first | (refine Ok.mk ?_; (try simp only [Lm, La, Lc, Ln, Lt, Ld, Lr, Li, true_or, or_true, true_and, and_true]); omega) | (simp <;> fail) | skip) [runM_nil, resL, h4]; rfl), (.cons _ (.refl _)), (by simp (disch := first | (refine Ok.mk ?_; (try simp only [Lm, La, Lc, Ln, Lt, Ld, Lr, Li, true_or, or_true, true_and, and_true]); omega) | (simp <;> fail) | skip) [resV, h4]), rfl, rfl⟩)
  · have h3' : ¬ (f3 : Int) = 0 := by omega
    first | refine pwp_rif ?_ | refine pwp_rifE ?_
    intro K hK
    simp (disch := first | (refine Ok.mk ?_; (try simp only [Lm, La, Lc, Ln, Lt, Ld, Lr, Li, true_or, or_true, true_and, and_true]); omega) | (simp <;> fail) | skip) [runM_nil, h3, h3']
    refine hK _ _ ?_
    clear hK K
    refine ifT (by simp [runM_nil, h3, h3']) ?_
    first | refine pwp_sr ?_ | refine pwp_regionM ?_
    intro K hK
    simp (disch := first | (refine Ok.mk ?_; (try simp only [Lm, La, Lc, Ln, Lt, Ld, Lr, Li, true_or, or_true, true_and, and_true]); omega) | (simp <;> fail) | skip) [runM_nil]
    refine hK _ _ ?_
    clear hK K
    refine pwp_ret (And.intro (.inr rfl) ⟨_, _, _, (by simp (disch := first | (refine Ok.mk ?_; (try simp only [Lm, La, Lc, Ln, Lt, Ld, Lr, Li, true_or, or_true, true_and, and_true]); omega) | (simp <;> fail) | skip) [runM_nil, resL, h3]; rfl), (.cons _ (.refl _)), (by simp (disch := first | (refine Ok.mk ?_; (try simp only [Lm, La, Lc, Ln, Lt, Ld, Lr, Li, true_or, or_true, true_and, and_true]); omega) | (simp <;> fail) | skip) [resV, h3]), rfl, rfl⟩)
def recsR (b : List Nat) : List Rc × Bool :=
  if (vtake b).2.2 ≠ 0 ∨ (vtake b).1 < 1 ∨ 100 < (vtake b).1 then ([], false) else
  if (recL (vtake b).1 [] (vtake b).2.1).2.2 ≠ 0 then ([], false) else
  ((recL (vtake b).1 [] (vtake b).2.1).1, decide ((recL (vtake b).1 [] (vtake b).2.1).2.1 = []))
theorem rrecords_ok {s : Nat} {xs : List PV} {o : Bool} {b : List Nat} (hx : xs = b.map u8) (hs : s = 1 ∨ b.length = 0) (hw : ∀ x ∈ b, x < 256) (hl : b.length ≤ 1000000) :
    PSpec Tryd.prog 67 [.lst s xs o] (.tup [.lst 1 (rowsC (recsR b).1) true, .bool (recsR b).2]) := by
  intro H
  have hxl : xs.length = b.length := by rw [hx, List.length_map]
  have c1 := rtake_ok (o := false) hx hs hw (by omega)
  have hrw := vtake_wf hw
  have hrl : (vtake b).2.1.length ≤ b.length := (vtake_rest (s := b)).1
  unfold recsR
  generalize vtake b = T at *
  obtain ⟨n, r, e⟩ := T
  dsimp only at *
  refine spec_ofU t67 (by simp [p67]) ?_
  simp only [p67]
  first | refine pwp_sr ?_ | refine pwp_regionM ?_
  intro K hK
  simp (disch := first | (refine Ok.mk ?_; (try simp only [Lm, La, Lc, Ln, Lt, Ld, Lr, Li, true_or, or_true, true_and, and_true]); omega) | (simp <;> fail) | skip) [runM_nil]
  refine hK _ _ ?_
  clear hK K
  first | refine pwp_sr ?_ | refine pwp_regionM ?_
  intro K hK
  simp (disch := first | (refine Ok.mk ?_; (try simp only [Lm, La, Lc, Ln, Lt, Ld, Lr, Li, true_or, or_true, true_and, and_true]); omega) | (simp <;> fail) | skip) [runM_nil]
  refine useP (c1) ?_
  simp (disch := first | (refine Ok.mk ?_; (try simp only [Lm, La, Lc, Ln, Lt, Ld, Lr, Li, true_or, or_true, true_and, and_true]); omega) | (simp <;> fail) | skip) [runM_nil]
  refine hK _ _ ?_
  clear hK K
  by_cases h3 : e = 0
  · subst h3
    by_cases h0 : n < 1
    · have h0' : (n : Int) < 1 := by omega
      first | refine pwp_rif ?_ | refine pwp_rifE ?_
      intro K hK
      simp (disch := first | (refine Ok.mk ?_; (try simp only [Lm, La, Lc, Ln, Lt, Ld, Lr, Li, true_or, or_true, true_and, and_true]); omega) | (simp <;> fail) | skip) [runM_nil, h0, h0']
      refine hK _ _ ?_
      clear hK K
      refine ifT (by simp (disch := first | (refine Ok.mk ?_; (try simp only [Lm, La, Lc, Ln, Lt, Ld, Lr, Li, true_or, or_true, true_and, and_true]); omega) | (simp <;> fail) | skip) [runM_nil]) ?_
      first | refine pwp_sr ?_ | refine pwp_regionM ?_
      intro K hK
      simp (disch := first | (refine Ok.mk ?_; (try simp only [Lm, La, Lc, Ln, Lt, Ld, Lr, Li, true_or, or_true, true_and, and_true]); omega) | (simp <;> fail) | skip) [runM_nil]
      refine hK _ _ ?_
      clear hK K
      refine pwp_ret (And.intro (.inr rfl) ⟨_, _, _, (by simp (disch := first | (refine Ok.mk ?_; (try simp only [Lm, La, Lc, Ln, Lt, Ld, Lr, Li, true_or, or_true, true_and, and_true]); omega) | (simp <;> fail) | skip) [runM_nil, resL, h0, rowsC]; rfl), .refl _, (by simp (disch := first | (refine Ok.mk ?_; (try simp only [Lm, La, Lc, Ln, Lt, Ld, Lr, Li, true_or, or_true, true_and, and_true]); omega) | (simp <;> fail) | skip) [resV, h0, rowsC]), rfl, rfl⟩)
    by_cases h5 : 100 < n
    · have h5' : (100 : Int) < n := by omega
      have h0' : ¬ (n : Int) < 1 := by omega
      first | refine pwp_rif ?_ | refine pwp_rifE ?_
      intro K hK
      simp (disch := first | (refine Ok.mk ?_; (try simp only [Lm, La, Lc, Ln, Lt, Ld, Lr, Li, true_or, or_true, true_and, and_true]); omega) | (simp <;> fail) | skip) [runM_nil, h5', h0, h0']
      refine hK _ _ ?_
      clear hK K
      refine ifT (by simp (disch := first | (refine Ok.mk ?_; (try simp only [Lm, La, Lc, Ln, Lt, Ld, Lr, Li, true_or, or_true, true_and, and_true]); omega) | (simp <;> fail) | skip) [runM_nil]) ?_
      first | refine pwp_sr ?_ | refine pwp_regionM ?_
      intro K hK
      simp (disch := first | (refine Ok.mk ?_; (try simp only [Lm, La, Lc, Ln, Lt, Ld, Lr, Li, true_or, or_true, true_and, and_true]); omega) | (simp <;> fail) | skip) [runM_nil]
      refine hK _ _ ?_
      clear hK K
      refine pwp_ret (And.intro (.inr rfl) ⟨_, _, _, (by simp (disch := first | (refine Ok.mk ?_; (try simp only [Lm, La, Lc, Ln, Lt, Ld, Lr, Li, true_or, or_true, true_and, and_true]); omega) | (simp <;> fail) | skip) [runM_nil, resL, h5, rowsC]; rfl), .refl _, (by simp (disch := first | (refine Ok.mk ?_; (try simp only [Lm, La, Lc, Ln, Lt, Ld, Lr, Li, true_or, or_true, true_and, and_true]); omega) | (simp <;> fail) | skip) [resV, h5, rowsC]), rfl, rfl⟩)
    · have h5' : ¬ (100 : Int) < n := by omega
      have h0' : ¬ (n : Int) < 1 := by omega
      rw [if_neg (by omega)]
      first | refine pwp_rif ?_ | refine pwp_rifE ?_
      intro K hK
      simp (disch := first | (refine Ok.mk ?_; (try simp only [Lm, La, Lc, Ln, Lt, Ld, Lr, Li, true_or, or_true, true_and, and_true]); omega) | (simp <;> fail) | skip) [runM_nil, h5', h0, h0']
      refine hK _ _ ?_
      clear hK K
      refine ifF (by simp [runM_nil, h5']) (pwp_skip ?_)
      first | refine pwp_sr ?_ | refine pwp_regionM ?_
      intro K hK
      simp (disch := first | (refine Ok.mk ?_; (try simp only [Lm, La, Lc, Ln, Lt, Ld, Lr, Li, true_or, or_true, true_and, and_true]); omega) | (simp <;> fail) | skip) [runM_nil]
      refine hK _ _ ?_
      clear hK K
      refine pwp_seq (pwp_seq ?_)
      first | refine pwp_sr ?_ | refine pwp_regionM ?_
      intro K hK
      simp (disch := first | (refine Ok.mk ?_; (try simp only [Lm, La, Lc, Ln, Lt, Ld, Lr, Li, true_or, or_true, true_and, and_true]); omega) | (simp <;> fail) | skip) [runM_nil]
      refine hK _ _ ?_
      clear hK K
      refine pwp_block ?_
      refine pwp_loopU [0, 4, 6, 7] (fun q st H' => ∃ (i : Nat) (acc : List Rc) (c : List Nat) (o1 : Bool), i ≤ n ∧ (∀ x ∈ c, x < 256) ∧ c.length ≤ b.length ∧ acc.length = i ∧ recL n [] r = recL (n - i) acc c ∧ q = n - i ∧ H' = H ∧
          st = MS 54 [(0, .lst 1 (c.map u8) o1), (4, .int .u64 n), (6, .lst 1 (rowsC acc) true), (7, .int .u64 i)]) (n := n)
        ⟨_, _, keep_up (l' := [(0, .lst 1 (r.map u8) true), (4, .int .u64 n), (6, .lst 1 [] true), (7, .int .u64 0)]) (by simp), List.Sublist.refl _, 0, [], r, true, Nat.zero_le _, hrw, hrl, rfl, rfl, rfl, rfl, by simp [rowsC]⟩ ?_
      rintro q st H' ⟨i, acc, c, o1, hi, hcw, hcl, hac, hent, rfl, hH, rfl⟩
      subst hH
      refine pwp_seq ?_
      by_cases hlt : i < n
      · have hlt' : (i : Int) < n := by omega
        have ct := rtakePair_ok (s := 1) (o := false) (xs := c.map u8) rfl (.inl rfl) hcw (by omega)
        obtain ⟨k, hk⟩ : ∃ k, n - i = k + 1 := ⟨n - i - 1, by omega⟩
        rw [hk, recL] at hent
        obtain ⟨x1, x2, x3, x4, x5, x6⟩ := vpair_wf hcw
        generalize vpair c = B at *
        obtain ⟨⟨kk, vv⟩, r2, e2⟩ := B
        dsimp only at *
        first | refine pwp_sr ?_ | refine pwp_regionM ?_
        intro K hK
        simp (disch := first | (refine Ok.mk ?_; (try simp only [Lm, La, Lc, Ln, Lt, Ld, Lr, Li, true_or, or_true, true_and, and_true]); omega) | (simp <;> fail) | skip) [runM_nil, hlt']
        refine hK _ _ ?_
        clear hK K
        refine pwp_cT (by simp) (pwp_skip ?_)
        refine pwp_seq (pwp_block ?_)
        by_cases h2 : e2 = 0
        · subst h2
          rw [if_neg (by simp)] at hent
          have hrl2 : (rowsC acc).length = acc.length := by simp [rowsC]
          first | refine pwp_sr ?_ | refine pwp_regionM ?_
          intro K hK
          simp (disch := first | (refine Ok.mk ?_; (try simp only [Lm, La, Lc, Ln, Lt, Ld, Lr, Li, true_or, or_true, true_and, and_true]); omega) | (simp <;> fail) | skip) [runM_nil]
          refine useP (ct) ?_
          simp (disch := first | (refine Ok.mk ?_; (try simp only [Lm, La, Lc, Ln, Lt, Ld, Lr, Li, true_or, or_true, true_and, and_true]); omega) | (simp <;> fail) | skip) [runM_nil]
          intro b8 h_b8
          try simp (disch := first | (refine Ok.mk ?_; (try simp only [Lm, La, Lc, Ln, Lt, Ld, Lr, Li, true_or, or_true, true_and, and_true]); omega) | (simp <;> fail) | skip) [runM_nil]
          refine hK _ _ ?_
          clear hK K
          first | refine pwp_rif ?_ | refine pwp_rifE ?_
          intro K hK
          simp (disch := first | (refine Ok.mk ?_; (try simp only [Lm, La, Lc, Ln, Lt, Ld, Lr, Li, true_or, or_true, true_and, and_true]); omega) | (simp <;> fail) | skip) [runM_nil]
          refine hK _ _ ?_
          clear hK K
          refine ifF (by simp [runM_nil]) (pwp_skip ?_)
          first | refine pwp_sr ?_ | refine pwp_regionM ?_
          intro K hK
          simp (disch := first | (refine Ok.mk ?_; (try simp only [Lm, La, Lc, Ln, Lt, Ld, Lr, Li, true_or, or_true, true_and, and_true]); omega) | (simp <;> fail) | skip) [runM_nil, hrl2]
          refine hK _ _ ?_
          clear hK K
          first | refine pwp_sr ?_ | refine pwp_regionM ?_
          intro K hK
          simp (disch := first | (refine Ok.mk ?_; (try simp only [Lm, La, Lc, Ln, Lt, Ld, Lr, Li, true_or, or_true, true_and, and_true]); omega) | (simp <;> fail) | skip) [runM_nil]
          refine hK _ _ ?_
          clear hK K
          first | refine pwp_sr ?_ | refine pwp_regionM ?_
          intro K hK
          simp (disch := first | (refine Ok.mk ?_; (try simp only [Lm, La, Lc, Ln, Lt, Ld, Lr, Li, true_or, or_true, true_and, and_true]); omega) | (simp <;> fail) | skip) [runM_nil]
          refine hK _ _ ?_
          clear hK K
          refine ⟨n - (i + 1), by omega, _, _, keep_up (l' := [(0, .lst 1 (r2.map u8) false), (4, .int .u64 n), (6, .lst 1 (rowsC (acc ++ [[kk, vv]])) true), (7, .int .u64 ((i : Int) + 1))]) (by simp [rowsC, sV]), List.Sublist.cons _ (.refl _), i + 1, acc ++ [[kk, vv]], r2, false, by omega, x3, by omega, by rw [List.length_append, hac]; rfl, ?_, rfl, rfl, by simp⟩
          rw [hent, show n - (i + 1) = k by omega]
        · have h2' : ¬ (e2 : Int) = 0 := by omega
          rw [if_pos h2] at hent
          first | refine pwp_sr ?_ | refine pwp_regionM ?_
          intro K hK
          simp (disch := first | (refine Ok.mk ?_; (try simp only [Lm, La, Lc, Ln, Lt, Ld, Lr, Li, true_or, or_true, true_and, and_true]); omega) | (simp <;> fail) | skip) [runM_nil]
          refine useP (ct) ?_
          simp (disch := first | (refine Ok.mk ?_; (try simp only [Lm, La, Lc, Ln, Lt, Ld, Lr, Li, true_or, or_true, true_and, and_true]); omega) | (simp <;> fail) | skip) [runM_nil]
          intro b8 h_b8
          try simp (disch := first | (refine Ok.mk ?_; (try simp only [Lm, La, Lc, Ln, Lt, Ld, Lr, Li, true_or, or_true, true_and, and_true]); omega) | (simp <;> fail) | skip) [runM_nil]
          refine hK _ _ ?_
          clear hK K
          first | refine pwp_rif ?_ | refine pwp_rifE ?_
          intro K hK
          simp (disch := first | (refine Ok.mk ?_; (try simp only [Lm, La, Lc, Ln, Lt, Ld, Lr, Li, true_or, or_true, true_and, and_true]); omega) | (simp <;> fail) | skip) [runM_nil, h2, h2']
          refine hK _ _ ?_
          clear hK K
          refine ifT (by simp [runM_nil, h2, h2']) ?_
          first | refine pwp_sr ?_ | refine pwp_regionM ?_
          intro K hK
          simp (disch := first | (refine Ok.mk ?_; (try simp only [Lm, La, Lc, Ln, Lt, Ld, Lr, Li, true_or, or_true, true_and, and_true]); omega) | (simp <;> fail) | skip) [runM_nil]
          refine hK _ _ ?_
          clear hK K
          rw [hent]
          refine pwp_ret (And.intro (.inr rfl) ⟨_, _, _, (by simp (disch := first | (refine Ok.mk ?_; (try simp only [Lm, La, Lc, Ln, Lt, Ld, Lr, Li, true_or, or_true, true_and, and_true]); omega) | (simp <;> fail) | skip) [runM_nil, resL, h2, rowsC]; rfl), (.cons _ (.refl _)), (by simp (disch := first | (refine Ok.mk ?_; (try simp only [Lm, La, Lc, Ln, Lt, Ld, Lr, Li, true_or, or_true, true_and, and_true]); omega) | (simp <;> fail) | skip) [resV, h2, rowsC]), rfl, rfl⟩)
      · obtain rfl : i = n := by omega
        rw [Nat.sub_self, recL] at hent
        have hxc : (c.map u8).length = c.length := List.length_map _
        first | refine pwp_sr ?_ | refine pwp_regionM ?_
        intro K hK
        simp (disch := first | (refine Ok.mk ?_; (try simp only [Lm, La, Lc, Ln, Lt, Ld, Lr, Li, true_or, or_true, true_and, and_true]); omega) | (simp <;> fail) | skip) [runM_nil]
        refine hK _ _ ?_
        clear hK K
        refine pwp_cF (by simp) (pwp_exit ?_)
        rw [hent]
        dsimp only
        first | refine pwp_sr ?_ | refine pwp_regionM ?_
        intro K hK
        simp (disch := first | (refine Ok.mk ?_; (try simp only [Lm, La, Lc, Ln, Lt, Ld, Lr, Li, true_or, or_true, true_and, and_true]); omega) | (simp <;> fail) | skip) [runM_nil]
        refine hK _ _ ?_
        clear hK K
        cases c with
        | nil =>
          refine pwp_ret (And.intro (.inr rfl) ⟨_, _, _, (by simp (disch := first | (refine Ok.mk ?_; (try simp only [Lm, La, Lc, Ln, Lt, Ld, Lr, Li, true_or, or_true, true_and, and_true]); omega) | (simp <;> fail) | skip) [runM_nil, resL]; rfl), .refl _, (by simp (disch := first | (refine Ok.mk ?_; (try simp only [Lm, La, Lc, Ln, Lt, Ld, Lr, Li, true_or, or_true, true_and, and_true]); omega) | (simp <;> fail) | skip) [resV]), rfl, rfl⟩)
        | cons x c =>
          have hne : ¬ ((c.length : Int) + 1 = 0) := by omega
          refine pwp_ret (And.intro (.inr rfl) ⟨_, _, _, (by simp (disch := first | (refine Ok.mk ?_; (try simp only [Lm, La, Lc, Ln, Lt, Ld, Lr, Li, true_or, or_true, true_and, and_true]); omega) | (simp <;> fail) | skip) [runM_nil, resL, hne]; rfl), .refl _, (by simp (disch := first | (refine Ok.mk ?_; (try simp only [Lm, La, Lc, Ln, Lt, Ld, Lr, Li, true_or, or_true, true_and, and_true]); omega) | (simp <;> fail) | skip) [resV, hne]), rfl, rfl⟩)
  · have h3' : ¬ (e : Int) = 0 := by omega
    first | refine pwp_rif ?_ | refine pwp_rifE ?_
    intro K hK
    simp (disch := first | (refine Ok.mk ?_; (try simp only [Lm, La, Lc, Ln, Lt, Ld, Lr, Li, true_or, or_true, true_and, and_true]); omega) | (simp <;> fail) | skip) [runM_nil, h3, h3']
    refine hK _ _ ?_
    clear hK K
    refine ifT (by simp [runM_nil, h3, h3']) ?_
    first | refine pwp_sr ?_ | refine pwp_regionM ?_
    intro K hK
    simp (disch := first | (refine Ok.mk ?_; (try simp only [Lm, La, Lc, Ln, Lt, Ld, Lr, Li, true_or, or_true, true_and, and_true]); omega) | (simp <;> fail) | skip) [runM_nil]
    refine hK _ _ ?_
    clear hK K
    refine pwp_ret (And.intro (.inr rfl) ⟨_, _, _, (by simp (disch := first | (refine Ok.mk ?_; (try simp only [Lm, La, Lc, Ln, Lt, Ld, Lr, Li, true_or, or_true, true_and, and_true]); omega) | (simp <;> fail) | skip) [runM_nil, resL, h3, rowsC]; rfl), .refl _, (by simp (disch := first | (refine Ok.mk ?_; (try simp only [Lm, La, Lc, Ln, Lt, Ld, Lr, Li, true_or, or_true, true_and, and_true]); omega) | (simp <;> fail) | skip) [resV, h3, rowsC]), rfl, rfl⟩)
end Go.Proofs.YtjcjbpbkakfjdaaDoor.E
/- The document's blocks, pieces and splits. -/
namespace Go.Proofs.YtjcjbpbkakfjdaaDoor.E
open Go Go.RowKit Go.Proofs
set_option linter.unusedVariables false
set_option linter.unusedSimpArgs false
def rblkB (b : List Nat) (k : Nat) : List Rc × Nat × Bool :=
  if [255, 83].isPrefixOf (b.drop k) = false then ([], 0, false) else
  if (unaB (rawB b k)).2 ≠ 0 then ([], 0, false) else
  if (opened tbl (unaB (rawB b k)).1).2 ≠ 0 then ([], 0, false) else
  ((recsR (opened tbl (unaB (rawB b k)).1).1).1, mkB b (k + 2), (recsR (opened tbl (unaB (rawB b k)).1).1).2)
theorem recs_rel (b : List Nat) : ((recsB b).2 = 0 ↔ (recsR b).2 = true) ∧ ((recsB b).2 = 0 → (recsR b).1 = (recsB b).1) := by
  unfold recsB recsR
  by_cases h : (vtake b).2.2 ≠ 0 ∨ (vtake b).1 = 0 ∨ 100 < (vtake b).1
  · have h' : (vtake b).2.2 ≠ 0 ∨ (vtake b).1 < 1 ∨ 100 < (vtake b).1 := by omega
    rw [if_pos h, if_pos h']
    simp
  · have h' : ¬ ((vtake b).2.2 ≠ 0 ∨ (vtake b).1 < 1 ∨ 100 < (vtake b).1) := by omega
    rw [if_neg h, if_neg h']
    by_cases h2 : (recL (vtake b).1 [] (vtake b).2.1).2.2 ≠ 0
    · rw [if_pos h2, if_pos h2]
      simpa using h2
    · rw [if_neg h2, if_neg h2]
      by_cases h3 : (recL (vtake b).1 [] (vtake b).2.1).2.1 = []
      · simp [h3]
      · simp [h3]
theorem rblk_rel (b : List Nat) (k : Nat) : ((blkB b k).2.2.2 = 0 ↔ (rblkB b k).2.2 = true) ∧ ((blkB b k).2.2.2 = 0 → (rblkB b k).1 = (blkB b k).2.1 ∧ (rblkB b k).2.1 = (blkB b k).2.2.1) := by
  unfold blkB rblkB
  by_cases h0 : [255, 83].isPrefixOf (b.drop k) = false
  · rw [if_pos h0, if_pos h0]; simp
  · rw [if_neg h0, if_neg h0]
    by_cases h1 : (unaB (rawB b k)).2 ≠ 0
    · rw [if_pos h1, if_pos h1]; simpa using h1
    · rw [if_neg h1, if_neg h1]
      by_cases h2 : (opened tbl (unaB (rawB b k)).1).2 ≠ 0
      · rw [if_pos h2, if_pos h2]; simpa using h2
      · rw [if_neg h2, if_neg h2]
        obtain ⟨r1, r2⟩ := recs_rel (opened tbl (unaB (rawB b k)).1).1
        exact ⟨r1, fun h => ⟨r2 h, rfl⟩⟩
theorem rblock_ok {s : Nat} {xs : List PV} {o : Bool} {b : List Nat} (hx : xs = b.map u8) (hs : s = 1 ∨ b.length = 0) (hw : ∀ x ∈ b, x < 256) (hl : b.length ≤ 1000000) (k : Nat) (hk : k ≤ b.length) :
    PSpec Tryd.prog 43 [.lst s xs o, .int .i64 k] (.tup [.lst 1 (rowsC (rblkB b k).1) true, .int .i64 ((rblkB b k).2.1 : Nat), .bool (rblkB b k).2.2]) := by
  intro H
  have hxl : xs.length = b.length := by rw [hx, Lm]
  have hge : ∀ i (h : i < b.length), xs[i]? = some (.int .u8 (b[i] : Nat)) := fun i h => by rw [hx, List.getElem?_map, List.getElem?_eq_getElem h]; rfl
  have hp := pre2_iff (b := b) (k := k)
  unfold rblkB
  refine spec_ofU t43 (by simp [p43]) ?_
  simp only [p43]
  first | refine pwp_sr ?_ | refine pwp_regionM ?_
  intro K hK
  simp (disch := first | (refine Ok.mk ?_; (try simp only [Lm, La, Lc, Ln, Lt, Ld, Lr, Li, true_or, or_true, true_and, and_true]); omega) | (simp <;> fail) | skip) [runM_nil]
  refine hK _ _ ?_
  clear hK K
  have htn1 : ((k : Int) + 1).toNat = k + 1 := by omega
  by_cases h1 : k + 1 < b.length
  · have h1' : ¬ (b.length : Int) ≤ (k : Int) + 1 := by omega
    have g0 := hge k (by omega)
    have g1 := hge (k + 1) h1
    obtain rfl : s = 1 := hs.resolve_right (by omega)
    by_cases q1 : b[k] = 255
    · have q1' : ((b[k] : Nat) : Int) = 255 := by omega
      by_cases q2 : b[k + 1] = 83
      · have q2' : ((b[k + 1] : Nat) : Int) = 83 := by omega
        have hpt := hp.2 ⟨h1, q1, q2⟩
        rw [hpt, if_neg (by simp)]
        generalize b[k] = x at *
        generalize b[k + 1] = y at *
        clear hge hp
        have htn : ((k : Int) + 2).toNat = k + 2 := by omega
        have c2 := rmarker_ok (o := false) hx hs hw (by omega) ((k : Int) + 2) (by omega)
        rw [htn] at c2
        obtain ⟨m1, m2⟩ := mkB_le b (k + 2)
        have hraw : rawB b k = (b.take (mkB b (k + 2))).drop (k + 2) := rfl
        have c3 := runa_ok (s := 1) (xs := (xs.take (mkB b (k + 2))).drop (k + 2)) (o := false) (b := rawB b k) (by rw [hx, hraw, List.map_drop, List.map_take]) (.inl rfl) (fun x hx => hw x (List.mem_of_mem_take (List.mem_of_mem_drop (by rw [hraw] at hx; exact hx)))) (by rw [hraw, List.length_drop, List.length_take]; omega)
        have hrw : ∀ x ∈ rawB b k, x < 256 := fun x hx => hw x (List.mem_of_mem_take (List.mem_of_mem_drop (by rw [hraw] at hx; exact hx)))
        have hrl : (rawB b k).length ≤ b.length := by rw [hraw, List.length_drop, List.length_take]; omega
        clear hraw
        obtain ⟨u1, u2⟩ := unaB_wf hrw
        generalize rawB b k = R at *
        generalize unaB R = U at *
        obtain ⟨raw, e1⟩ := U
        dsimp only at *
        have c4 := rOpened_ok (o := false) (s := 1) (xs := raw.map u8) rfl (.inl rfl) u1 (by omega)
        obtain ⟨v1, v2, _⟩ := opened_wf (t := tbl) u1
        generalize opened tbl raw = O at *
        obtain ⟨inn, e2⟩ := O
        dsimp only at *
        have c5 := rrecords_ok (s := 1) (xs := inn.map u8) (o := false) rfl (.inl rfl) v1 (by omega)
        generalize recsR inn = RR at *
        obtain ⟨l, ok⟩ := RR
        dsimp only at *
        generalize mkB b (k + 2) = E at *
        first | refine pwp_rif ?_ | refine pwp_rifE ?_
        intro K hK
        simp (disch := first | (refine Ok.mk ?_; (try simp only [Lm, La, Lc, Ln, Lt, Ld, Lr, Li, true_or, or_true, true_and, and_true]); omega) | (simp <;> fail) | skip) [runM_nil, hxl, h1', htn1, g0, g1, q1, q2, q1', q2']
        refine hK _ _ ?_
        clear hK K
        refine ifF (by simp [runM_nil, h1', q1, q2, q1', q2']) (pwp_skip ?_)
        first | refine pwp_sr ?_ | refine pwp_regionM ?_
        intro K hK
        simp (disch := first | (refine Ok.mk ?_; (try simp only [Lm, La, Lc, Ln, Lt, Ld, Lr, Li, true_or, or_true, true_and, and_true]); omega) | (simp <;> fail) | skip) [runM_nil]
        refine useP (c2) ?_
        simp (disch := first | (refine Ok.mk ?_; (try simp only [Lm, La, Lc, Ln, Lt, Ld, Lr, Li, true_or, or_true, true_and, and_true]); omega) | (simp <;> fail) | skip) [runM_nil]
        refine hK _ _ ?_
        clear hK K
        first | refine pwp_sr ?_ | refine pwp_regionM ?_
        intro K hK
        simp (disch := first | (refine Ok.mk ?_; (try simp only [Lm, La, Lc, Ln, Lt, Ld, Lr, Li, true_or, or_true, true_and, and_true]); omega) | (simp <;> fail) | skip) [runM_nil, hxl, htn]
        refine useP (c3) ?_
        simp (disch := first | (refine Ok.mk ?_; (try simp only [Lm, La, Lc, Ln, Lt, Ld, Lr, Li, true_or, or_true, true_and, and_true]); omega) | (simp <;> fail) | skip) [runM_nil, hxl, htn]
        refine hK _ _ ?_
        clear hK K
        by_cases h1 : e1 = 0
        · subst h1
          first | refine pwp_rif ?_ | refine pwp_rifE ?_
          intro K hK
          simp (disch := first | (refine Ok.mk ?_; (try simp only [Lm, La, Lc, Ln, Lt, Ld, Lr, Li, true_or, or_true, true_and, and_true]); omega) | (simp <;> fail) | skip) [runM_nil]
          refine hK _ _ ?_
          clear hK K
          refine ifF (by simp (disch := first | (refine Ok.mk ?_; (try simp only [Lm, La, Lc, Ln, Lt, Ld, Lr, Li, true_or, or_true, true_and, and_true]); omega) | (simp <;> fail) | skip) [runM_nil]) (pwp_skip ?_)
          first | refine pwp_sr ?_ | refine pwp_regionM ?_
          intro K hK
          simp (disch := first | (refine Ok.mk ?_; (try simp only [Lm, La, Lc, Ln, Lt, Ld, Lr, Li, true_or, or_true, true_and, and_true]); omega) | (simp <;> fail) | skip) [runM_nil]
          refine useP (c4) ?_
          simp (disch := first | (refine Ok.mk ?_; (try simp only [Lm, La, Lc, Ln, Lt, Ld, Lr, Li, true_or, or_true, true_and, and_true]); omega) | (simp <;> fail) | skip) [runM_nil]
          refine hK _ _ ?_
          clear hK K
          by_cases h2 : e2 = 0
          · subst h2
            first | refine pwp_rif ?_ | refine pwp_rifE ?_
            intro K hK
            simp (disch := first | (refine Ok.mk ?_; (try simp only [Lm, La, Lc, Ln, Lt, Ld, Lr, Li, true_or, or_true, true_and, and_true]); omega) | (simp <;> fail) | skip) [runM_nil]
            refine hK _ _ ?_
            clear hK K
            refine ifF (by simp (disch := first | (refine Ok.mk ?_; (try simp only [Lm, La, Lc, Ln, Lt, Ld, Lr, Li, true_or, or_true, true_and, and_true]); omega) | (simp <;> fail) | skip) [runM_nil]) (pwp_skip ?_)
            first | refine pwp_sr ?_ | refine pwp_regionM ?_
            intro K hK
            simp (disch := first | (refine Ok.mk ?_; (try simp only [Lm, La, Lc, Ln, Lt, Ld, Lr, Li, true_or, or_true, true_and, and_true]); omega) | (simp <;> fail) | skip) [runM_nil]
            refine useP (c5) ?_
            simp (disch := first | (refine Ok.mk ?_; (try simp only [Lm, La, Lc, Ln, Lt, Ld, Lr, Li, true_or, or_true, true_and, and_true]); omega) | (simp <;> fail) | skip) [runM_nil]
            refine hK _ _ ?_
            clear hK K
            first | refine pwp_sr ?_ | refine pwp_regionM ?_
            intro K hK
            simp (disch := first | (refine Ok.mk ?_; (try simp only [Lm, La, Lc, Ln, Lt, Ld, Lr, Li, true_or, or_true, true_and, and_true]); omega) | (simp <;> fail) | skip) [runM_nil]
            refine hK _ _ ?_
            clear hK K
            refine pwp_ret ⟨.inr rfl, _, _, _, (by simp (disch := first | (refine Ok.mk ?_; (try simp only [Lm, La, Lc, Ln, Lt, Ld, Lr, Li, true_or, or_true, true_and, and_true]); omega) | (simp <;> fail) | skip) [runM_nil, resL]; rfl), .refl _, (by simp (disch := first | (refine Ok.mk ?_; (try simp only [Lm, La, Lc, Ln, Lt, Ld, Lr, Li, true_or, or_true, true_and, and_true]); omega) | (simp <;> fail) | skip) [resV]), rfl, rfl⟩
          · have h2' : ¬ (e2 : Int) = 0 := by omega
            first | refine pwp_rif ?_ | refine pwp_rifE ?_
            intro K hK
            simp (disch := first | (refine Ok.mk ?_; (try simp only [Lm, La, Lc, Ln, Lt, Ld, Lr, Li, true_or, or_true, true_and, and_true]); omega) | (simp <;> fail) | skip) [runM_nil, h2, h2']
            refine hK _ _ ?_
            clear hK K
            refine ifT (by simp [runM_nil, h2, h2']) ?_
            first | refine pwp_sr ?_ | refine pwp_regionM ?_
            intro K hK
            simp (disch := first | (refine Ok.mk ?_; (try simp only [Lm, La, Lc, Ln, Lt, Ld, Lr, Li, true_or, or_true, true_and, and_true]); omega) | (simp <;> fail) | skip) [runM_nil]
            refine hK _ _ ?_
            clear hK K
            refine pwp_ret (And.intro (.inr rfl) ⟨_, _, _, (by simp (disch := first | (refine Ok.mk ?_; (try simp only [Lm, La, Lc, Ln, Lt, Ld, Lr, Li, true_or, or_true, true_and, and_true]); omega) | (simp <;> fail) | skip) [runM_nil, resL, h2, rowsC]; rfl), .refl _, (by simp (disch := first | (refine Ok.mk ?_; (try simp only [Lm, La, Lc, Ln, Lt, Ld, Lr, Li, true_or, or_true, true_and, and_true]); omega) | (simp <;> fail) | skip) [resV, h2, rowsC]), rfl, rfl⟩)
        · have h1' : ¬ (e1 : Int) = 0 := by omega
          first | refine pwp_rif ?_ | refine pwp_rifE ?_
          intro K hK
          simp (disch := first | (refine Ok.mk ?_; (try simp only [Lm, La, Lc, Ln, Lt, Ld, Lr, Li, true_or, or_true, true_and, and_true]); omega) | (simp <;> fail) | skip) [runM_nil, h1, h1']
          refine hK _ _ ?_
          clear hK K
          refine ifT (by simp [runM_nil, h1, h1']) ?_
          first | refine pwp_sr ?_ | refine pwp_regionM ?_
          intro K hK
          simp (disch := first | (refine Ok.mk ?_; (try simp only [Lm, La, Lc, Ln, Lt, Ld, Lr, Li, true_or, or_true, true_and, and_true]); omega) | (simp <;> fail) | skip) [runM_nil]
          refine hK _ _ ?_
          clear hK K
          refine pwp_ret (And.intro (.inr rfl) ⟨_, _, _, (by simp (disch := first | (refine Ok.mk ?_; (try simp only [Lm, La, Lc, Ln, Lt, Ld, Lr, Li, true_or, or_true, true_and, and_true]); omega) | (simp <;> fail) | skip) [runM_nil, resL, h1, rowsC]; rfl), .refl _, (by simp (disch := first | (refine Ok.mk ?_; (try simp only [Lm, La, Lc, Ln, Lt, Ld, Lr, Li, true_or, or_true, true_and, and_true]); omega) | (simp <;> fail) | skip) [resV, h1, rowsC]), rfl, rfl⟩)
      · have q2' : ¬ ((b[k + 1] : Nat) : Int) = 83 := by omega
        have hpt : [255, 83].isPrefixOf (b.drop k) = false := by
          rw [← Bool.not_eq_true]
          exact fun h => by obtain ⟨_, _, h3⟩ := hp.1 h; exact q2 h3
        rw [if_pos hpt]
        generalize b[k] = x at *
        generalize b[k + 1] = y at *
        first | refine pwp_rif ?_ | refine pwp_rifE ?_
        intro K hK
        simp (disch := first | (refine Ok.mk ?_; (try simp only [Lm, La, Lc, Ln, Lt, Ld, Lr, Li, true_or, or_true, true_and, and_true]); omega) | (simp <;> fail) | skip) [runM_nil, hxl, h1', htn1, g0, g1, q1, q2, q1', q2']
        refine hK _ _ ?_
        clear hK K
        refine ifT (by simp [runM_nil, h1', q1, q2, q1', q2']) ?_
        first | refine pwp_sr ?_ | refine pwp_regionM ?_
        intro K hK
        simp (disch := first | (refine Ok.mk ?_; (try simp only [Lm, La, Lc, Ln, Lt, Ld, Lr, Li, true_or, or_true, true_and, and_true]); omega) | (simp <;> fail) | skip) [runM_nil]
        refine hK _ _ ?_
        clear hK K
        refine pwp_ret (And.intro (.inr rfl) ⟨_, _, _, (by simp (disch := first | (refine Ok.mk ?_; (try simp only [Lm, La, Lc, Ln, Lt, Ld, Lr, Li, true_or, or_true, true_and, and_true]); omega) | (simp <;> fail) | skip) [runM_nil, resL, rowsC]; rfl), .refl _, (by simp (disch := first | (refine Ok.mk ?_; (try simp only [Lm, La, Lc, Ln, Lt, Ld, Lr, Li, true_or, or_true, true_and, and_true]); omega) | (simp <;> fail) | skip) [resV, rowsC]), rfl, rfl⟩)
    · have q1' : ¬ ((b[k] : Nat) : Int) = 255 := by omega
      have hpt : [255, 83].isPrefixOf (b.drop k) = false := by
        rw [← Bool.not_eq_true]
        exact fun h => by obtain ⟨_, h2, _⟩ := hp.1 h; exact q1 h2
      rw [if_pos hpt]
      generalize b[k] = x at *
      generalize b[k + 1] = y at *
      first | refine pwp_rif ?_ | refine pwp_rifE ?_
      intro K hK
      simp (disch := first | (refine Ok.mk ?_; (try simp only [Lm, La, Lc, Ln, Lt, Ld, Lr, Li, true_or, or_true, true_and, and_true]); omega) | (simp <;> fail) | skip) [runM_nil, hxl, h1', htn1, g0, g1, q1, q1']
      refine hK _ _ ?_
      clear hK K
      refine ifT (by simp [runM_nil, h1', q1, q1']) ?_
      first | refine pwp_sr ?_ | refine pwp_regionM ?_
      intro K hK
      simp (disch := first | (refine Ok.mk ?_; (try simp only [Lm, La, Lc, Ln, Lt, Ld, Lr, Li, true_or, or_true, true_and, and_true]); omega) | (simp <;> fail) | skip) [runM_nil]
      refine hK _ _ ?_
      clear hK K
      refine pwp_ret (And.intro (.inr rfl) ⟨_, _, _, (by simp (disch := first | (refine Ok.mk ?_; (try simp only [Lm, La, Lc, Ln, Lt, Ld, Lr, Li, true_or, or_true, true_and, and_true]); omega) | (simp <;> fail) | skip) [runM_nil, resL, rowsC]; rfl), .refl _, (by simp (disch := first | (refine Ok.mk ?_; (try simp only [Lm, La, Lc, Ln, Lt, Ld, Lr, Li, true_or, or_true, true_and, and_true]); omega) | (simp <;> fail) | skip) [resV, rowsC]), rfl, rfl⟩)
  · have h1' : (b.length : Int) ≤ (k : Int) + 1 := by omega
    have hpt : [255, 83].isPrefixOf (b.drop k) = false := by
      rw [← Bool.not_eq_true]
      exact fun h => by have := prefix2 h; omega
    rw [if_pos hpt]
    first | refine pwp_rif ?_ | refine pwp_rifE ?_
    intro K hK
    simp (disch := first | (refine Ok.mk ?_; (try simp only [Lm, La, Lc, Ln, Lt, Ld, Lr, Li, true_or, or_true, true_and, and_true]); omega) | (simp <;> fail) | skip) [runM_nil, hxl, h1']
    refine hK _ _ ?_
    clear hK K
    refine ifT (by simp [runM_nil, h1']) ?_
    first | refine pwp_sr ?_ | refine pwp_regionM ?_
    intro K hK
    simp (disch := first | (refine Ok.mk ?_; (try simp only [Lm, La, Lc, Ln, Lt, Ld, Lr, Li, true_or, or_true, true_and, and_true]); omega) | (simp <;> fail) | skip) [runM_nil]
    refine hK _ _ ?_
    clear hK K
    refine pwp_ret (And.intro (.inr rfl) ⟨_, _, _, (by simp (disch := first | (refine Ok.mk ?_; (try simp only [Lm, La, Lc, Ln, Lt, Ld, Lr, Li, true_or, or_true, true_and, and_true]); omega) | (simp <;> fail) | skip) [runM_nil, resL, rowsC]; rfl), .refl _, (by simp (disch := first | (refine Ok.mk ?_; (try simp only [Lm, La, Lc, Ln, Lt, Ld, Lr, Li, true_or, or_true, true_and, and_true]); omega) | (simp <;> fail) | skip) [resV, rowsC]), rfl, rfl⟩)
theorem rscan_ok {s : Nat} {xs : List PV} {o : Bool} {b : List Nat} (hx : xs = b.map u8) (hs : s = 1 ∨ b.length = 0) (hw : ∀ x ∈ b, x < 256) (hl : b.length ≤ 1000000) :
    PSpec Tryd.prog 22 [.lst s xs o] (scW (scanS b)) := by
  intro H
  have hxl : xs.length = b.length := by rw [hx, Lm]
  have hcut : cvSP (.lst s (xs.take 4) false) = some (.str (ci (b.take 4))) := cvS_u8 (by rw [hx, List.map_take]) (hs.imp id fun h => by rw [List.length_take]; omega) fun x hx => hw x (List.mem_of_mem_take hx)
  have hpf : [84, 83, 81, 49].isPrefixOf b = true ↔ 4 ≤ b.length ∧ b.take 4 = [84, 83, 81, 49] := by
    rw [List.isPrefixOf_iff_prefix, List.prefix_iff_eq_take]
    constructor
    · intro h
      refine ⟨?_, h.symm⟩
      have := congrArg List.length h
      rw [List.length_take] at this
      simp at this
      omega
    · exact fun h => h.2.symm
  refine SpecH_mono (SpecH_lend (R := fun r H' => r = scWo true (scanS b) ∧ H' = H) ?_) (by
    rintro r H' ⟨_, ⟨rfl, rfl⟩, rfl⟩
    exact ⟨by simp [scWo, lend, lendL], rfl⟩)
  unfold scanS
  refine spec_of t22 (by simp [p22]) ?_
  simp only [p22]
  first | refine pwp_sr ?_ | refine pwp_regionM ?_
  intro K hK
  simp (disch := first | (refine Ok.mk ?_; (try simp only [Lm, La, Lc, Ln, Lt, Ld, Lr, Li, true_or, or_true, true_and, and_true]); omega) | (simp <;> fail) | skip) [runM_nil]
  refine hK _ _ ?_
  clear hK K
  first | refine pwp_sr ?_ | refine pwp_regionM ?_
  intro K hK
  simp (disch := first | (refine Ok.mk ?_; (try simp only [Lm, La, Lc, Ln, Lt, Ld, Lr, Li, true_or, or_true, true_and, and_true]); omega) | (simp <;> fail) | skip) [runM_nil]
  refine hK _ _ ?_
  clear hK K
  by_cases h4 : 4 ≤ b.length
  · have h4' : ¬ (b.length : Int) < 4 := by omega
    by_cases hT : b.take 4 = [84, 83, 81, 49]
    · rw [if_pos (hpf.2 ⟨h4, hT⟩)]
      rw [hT] at hcut
      first | refine pwp_rif ?_ | refine pwp_rifE ?_
      intro K hK
      simp (disch := first | (refine Ok.mk ?_; (try simp only [Lm, La, Lc, Ln, Lt, Ld, Lr, Li, true_or, or_true, true_and, and_true]); omega) | (simp <;> fail) | skip) [runM_nil, hxl, h4', hcut, strP]
      refine hK _ _ ?_
      clear hK K
      refine ifF (by simp [runM_nil, h4', ci]) (pwp_skip ?_)
      first | refine pwp_sr ?_ | refine pwp_regionM ?_
      intro K hK
      simp (disch := first | (refine Ok.mk ?_; (try simp only [Lm, La, Lc, Ln, Lt, Ld, Lr, Li, true_or, or_true, true_and, and_true]); omega) | (simp <;> fail) | skip) [runM_nil]
      refine hK _ _ ?_
      clear hK K
      refine pwp_seq (pwp_block ?_)
      refine pwp_loopK [0, 5, 6] (fun m st H' => ∃ (k : Nat) (done : List Bk), k ≤ b.length ∧ blkAt b 4 = done ++ blkAt b k ∧ k = lastE 4 done ∧ m = b.length - k ∧ H' = H ∧ st = MS 45 [(0, .lst s xs o), (5, .lst 2 (done.map fun p => pcW p.2) true), (6, .int .i64 k)]) (n := b.length - 4)
        ⟨_, .refl _, 4, [], h4, rfl, rfl, rfl, rfl, by simp [keepL_MS, keepA, getS]⟩ ?_
      rintro m st _ ⟨k, done, hk, hbl, hkl, rfl, rfl, rfl⟩
      have hml : (done.map fun p => pcW p.2) = (done.map (·.2)).map pcW := by rw [List.map_map]; rfl
      have hdl : done.length ≤ b.length := by
        have h1 : (blkAt b 4).length ≤ b.length - 4 := (blks_facts b (b.length - 4) 4).1
        rw [hbl, List.length_append] at h1
        omega
      by_cases hlt : k < b.length
      · have cb := rblock_ok (o := false) hx hs hw hl k hk
        obtain ⟨r1, r2⟩ := rblk_rel b k
        have hst := blkAt_step (b := b) (k := k) hlt
        have hsp := blkAt_stop (b := b) (k := k)
        have hok := blkB_ok (b := b) (k := k)
        generalize rblkB b k = Y at *
        obtain ⟨l', en', ok⟩ := Y
        generalize blkB b k = X at *
        obtain ⟨at_, l, en, e⟩ := X
        dsimp only at *
        refine pwp_seq ?_
        first | refine pwp_sr ?_ | refine pwp_regionM ?_
        intro K hK
        simp (disch := first | (refine Ok.mk ?_; (try simp only [Lm, La, Lc, Ln, Lt, Ld, Lr, Li, true_or, or_true, true_and, and_true]); omega) | (simp <;> fail) | skip) [runM_nil, hxl]
        refine hK _ _ ?_
        clear hK K
        refine pwp_cT (by simp [hlt]) (pwp_skip ?_)
        refine pwp_block ?_
        first | refine pwp_sr ?_ | refine pwp_regionM ?_
        intro K hK
        simp (disch := first | (refine Ok.mk ?_; (try simp only [Lm, La, Lc, Ln, Lt, Ld, Lr, Li, true_or, or_true, true_and, and_true]); omega) | (simp <;> fail) | skip) [runM_nil]
        refine useP (cb) ?_
        simp (disch := first | (refine Ok.mk ?_; (try simp only [Lm, La, Lc, Ln, Lt, Ld, Lr, Li, true_or, or_true, true_and, and_true]); omega) | (simp <;> fail) | skip) [runM_nil]
        refine hK _ _ ?_
        clear hK K
        cases ok with
        | false =>
          have he : ¬ e = 0 := fun h => by have := r1.1 h; cases this
          rw [hbl, hsp (fun h => he h.2), List.append_nil, ← hkl, if_pos hlt]
          first | refine pwp_rif ?_ | refine pwp_rifE ?_
          intro K hK
          simp (disch := first | (refine Ok.mk ?_; (try simp only [Lm, La, Lc, Ln, Lt, Ld, Lr, Li, true_or, or_true, true_and, and_true]); omega) | (simp <;> fail) | skip) [runM_nil]
          refine hK _ _ ?_
          clear hK K
          refine ifT (by simp (disch := first | (refine Ok.mk ?_; (try simp only [Lm, La, Lc, Ln, Lt, Ld, Lr, Li, true_or, or_true, true_and, and_true]); omega) | (simp <;> fail) | skip) [runM_nil]) ?_
          first | refine pwp_sr ?_ | refine pwp_regionM ?_
          intro K hK
          simp (disch := first | (refine Ok.mk ?_; (try simp only [Lm, La, Lc, Ln, Lt, Ld, Lr, Li, true_or, or_true, true_and, and_true]); omega) | (simp <;> fail) | skip) [runM_nil]
          refine hK _ _ ?_
          clear hK K
          refine pwp_ret (And.intro (.inr rfl) ⟨_, _, (by simp [runM_nil, resL]; rfl), .refl _, (by simp [resV, scWo, hml]), rfl⟩)
        | true =>
          have he : e = 0 := r1.2 rfl
          obtain ⟨rfl, q1, q2⟩ := hok he
          obtain ⟨rfl, rfl⟩ := r2 he
          have hst := hst he
          have hla := lastE_snoc done 4 (en', at_, l')
          have hdl2 : (done.map fun p => pcW p.2).length = done.length := Lm
          first | refine pwp_rif ?_ | refine pwp_rifE ?_
          intro K hK
          simp (disch := first | (refine Ok.mk ?_; (try simp only [Lm, La, Lc, Ln, Lt, Ld, Lr, Li, true_or, or_true, true_and, and_true]); omega) | (simp <;> fail) | skip) [runM_nil]
          refine hK _ _ ?_
          clear hK K
          refine ifF (by simp (disch := first | (refine Ok.mk ?_; (try simp only [Lm, La, Lc, Ln, Lt, Ld, Lr, Li, true_or, or_true, true_and, and_true]); omega) | (simp <;> fail) | skip) [runM_nil]) (pwp_skip ?_)
          first | refine pwp_sr ?_ | refine pwp_regionM ?_
          intro K hK
          simp (disch := first | (refine Ok.mk ?_; (try simp only [Lm, La, Lc, Ln, Lt, Ld, Lr, Li, true_or, or_true, true_and, and_true]); omega) | (simp <;> fail) | skip) [runM_nil, hdl2]
          refine hK _ _ ?_
          clear hK K
          first | refine pwp_sr ?_ | refine pwp_regionM ?_
          intro K hK
          simp (disch := first | (refine Ok.mk ?_; (try simp only [Lm, La, Lc, Ln, Lt, Ld, Lr, Li, true_or, or_true, true_and, and_true]); omega) | (simp <;> fail) | skip) [runM_nil]
          refine hK _ _ ?_
          clear hK K
          refine ⟨b.length - en', by omega, _, .refl _, en', done ++ [(en', at_, l')], q2, by rw [hbl, hst]; simp, hla.symm, rfl, rfl, by simp [keepL_MS, keepA, getS, pcW]⟩
      · obtain rfl : k = b.length := by omega
        rw [hbl, blkAt_stop (fun h => hlt h.1), List.append_nil, ← hkl, if_neg (by omega)]
        refine pwp_seq ?_
        first | refine pwp_sr ?_ | refine pwp_regionM ?_
        intro K hK
        simp (disch := first | (refine Ok.mk ?_; (try simp only [Lm, La, Lc, Ln, Lt, Ld, Lr, Li, true_or, or_true, true_and, and_true]); omega) | (simp <;> fail) | skip) [runM_nil, hxl]
        refine hK _ _ ?_
        clear hK K
        refine pwp_cF (by simp) (pwp_exit ?_)
        first | refine pwp_sr ?_ | refine pwp_regionM ?_
        intro K hK
        simp (disch := first | (refine Ok.mk ?_; (try simp only [Lm, La, Lc, Ln, Lt, Ld, Lr, Li, true_or, or_true, true_and, and_true]); omega) | (simp <;> fail) | skip) [runM_nil]
        refine hK _ _ ?_
        clear hK K
        refine pwp_ret (And.intro (.inr rfl) ⟨_, _, (by simp [runM_nil, resL]; rfl), .refl _, (by simp [resV, scWo, hml]), rfl⟩)
    · have hT' : ¬ ci (b.take 4) = [84, 83, 81, 49] := fun h => hT (ci_inj (b := [84, 83, 81, 49]) h)
      rw [if_neg (fun h => hT (hpf.1 h).2)]
      first | refine pwp_rif ?_ | refine pwp_rifE ?_
      intro K hK
      simp (disch := first | (refine Ok.mk ?_; (try simp only [Lm, La, Lc, Ln, Lt, Ld, Lr, Li, true_or, or_true, true_and, and_true]); omega) | (simp <;> fail) | skip) [runM_nil, hxl, h4', hcut, strP, hT']
      refine hK _ _ ?_
      clear hK K
      refine ifT (by simp [runM_nil, h4', hT, hT']) ?_
      first | refine pwp_sr ?_ | refine pwp_regionM ?_
      intro K hK
      simp (disch := first | (refine Ok.mk ?_; (try simp only [Lm, La, Lc, Ln, Lt, Ld, Lr, Li, true_or, or_true, true_and, and_true]); omega) | (simp <;> fail) | skip) [runM_nil]
      refine hK _ _ ?_
      clear hK K
      refine pwp_ret (And.intro (.inr rfl) ⟨_, _, (by simp [runM_nil, resL]; rfl), .refl _, (by simp [resV, scWo]), rfl⟩)
  · have h4' : (b.length : Int) < 4 := by omega
    rw [if_neg (fun h => h4 (hpf.1 h).1)]
    first | refine pwp_rif ?_ | refine pwp_rifE ?_
    intro K hK
    simp (disch := first | (refine Ok.mk ?_; (try simp only [Lm, La, Lc, Ln, Lt, Ld, Lr, Li, true_or, or_true, true_and, and_true]); omega) | (simp <;> fail) | skip) [runM_nil, hxl, h4']
    refine hK _ _ ?_
    clear hK K
    refine ifT (by simp (disch := first | (refine Ok.mk ?_; (try simp only [Lm, La, Lc, Ln, Lt, Ld, Lr, Li, true_or, or_true, true_and, and_true]); omega) | (simp <;> fail) | skip) [runM_nil]) ?_
    first | refine pwp_sr ?_ | refine pwp_regionM ?_
    intro K hK
    simp (disch := first | (refine Ok.mk ?_; (try simp only [Lm, La, Lc, Ln, Lt, Ld, Lr, Li, true_or, or_true, true_and, and_true]); omega) | (simp <;> fail) | skip) [runM_nil]
    refine hK _ _ ?_
    clear hK K
    refine pwp_ret (And.intro (.inr rfl) ⟨_, _, (by simp [runM_nil, resL]; rfl), .refl _, (by simp [resV, scWo]), rfl⟩)
end Go.Proofs.YtjcjbpbkakfjdaaDoor.E
/- slices.Chunk of records, ranged over, walked. -/
namespace Go.Proofs.YtjcjbpbkakfjdaaDoor.E
open Go Go.RowKit Go.Proofs
set_option linter.unusedVariables false
set_option linter.unusedSimpArgs false
theorem pwpE_sd {P : Program} {B : Bs} {s : Option PExit} {Q : Option PExit → PPost} {st : List PV} {H : Heap} (hmix : P.follows .mixedOrders = true) {ops : List POp} {late : List (Nat × Nat)} {y : PCode}
    (h : ∀ K : List PV → Heap → Prop, (∀ st' H', pwpE P B s y Q st' H' → K st' H') → planM P ops K st H) : pwpE P B s (.seq (.draw ops late) y) Q st H := pwpE_seq (pwpE_lift (pwp_drawM hmix h))
def chk {α : Type} (m : Nat) (l : List α) : List (List α) := if h : 1 ≤ m ∧ 0 < l.length then l.take m :: chk m (l.drop m) else []
termination_by l.length
decreasing_by rw [List.length_drop]; omega
theorem chk_step {α : Type} {m : Nat} {l : List α} (h1 : 1 ≤ m) (h : 0 < l.length) : chk m l = l.take m :: chk m (l.drop m) := by
  conv => lhs; unfold chk
  rw [dif_pos ⟨h1, h⟩]
theorem chk_stop {α : Type} {m : Nat} {l : List α} (h : ¬ 0 < l.length) : chk m l = [] := by
  unfold chk
  rw [dif_neg fun k => h k.2]
theorem chk_map {α β : Type} (f : α → β) {m : Nat} (h1 : 1 ≤ m) : ∀ (n : Nat) (l : List α), l.length ≤ n → chk m (l.map f) = (chk m l).map (List.map f)
  | n, l, hn => by
    by_cases h : 0 < l.length
    · cases n with
      | zero => omega
      | succ n => rw [chk_step h1 h, chk_step h1 (by simpa using h), List.map_cons, ← List.map_take, ← List.map_drop, chk_map f h1 n (l.drop m) (by rw [List.length_drop]; omega)]
    · rw [chk_stop h, chk_stop (by simpa using h)]; rfl
theorem chk_flat {α : Type} {m : Nat} (h1 : 1 ≤ m) : ∀ (n : Nat) (l : List α), l.length ≤ n → (chk m l).flatten = l
  | n, l, hn => by
    by_cases h : 0 < l.length
    · cases n with
      | zero => omega
      | succ n => rw [chk_step h1 h, List.flatten_cons, chk_flat h1 n (l.drop m) (by rw [List.length_drop]; omega), List.take_append_drop]
    · rw [chk_stop h]; exact (List.eq_nil_of_length_eq_zero (by omega)).symm
theorem chk_facts {α : Type} {m : Nat} (h1 : 1 ≤ m) : ∀ (n : Nat) (l : List α), l.length ≤ n → (∀ p ∈ chk m l, 1 ≤ p.length ∧ p.length ≤ m) ∧ (chk m l).length = (l.length + m - 1) / m
  | n, l, hn => by
    by_cases h : 0 < l.length
    · cases n with
      | zero => omega
      | succ n =>
        obtain ⟨i1, i2⟩ := chk_facts h1 n (l.drop m) (by rw [List.length_drop]; omega)
        rw [chk_step h1 h]
        refine ⟨fun p hp => ?_, ?_⟩
        · rcases List.mem_cons.1 hp with rfl | hp
          · rw [List.length_take]; omega
          · exact i1 p hp
        · rw [List.length_cons, i2, List.length_drop]
          by_cases hm : l.length ≤ m
          · have e1 : l.length - m + m - 1 = m - 1 := by omega
            have e2 : (m - 1) / m = 0 := Nat.div_eq_of_lt (by omega)
            have e3 : (l.length + m - 1) / m = 1 := by
              rw [show l.length + m - 1 = (l.length - 1) + m by omega, Nat.add_div_right _ (by omega), Nat.div_eq_of_lt (by omega)]
            rw [e1, e2, e3]
          · have e1 : l.length + m - 1 = (l.length - m + m - 1) + m := by omega
            rw [e1, Nat.add_div_right _ (by omega)]
    · rw [chk_stop h]
      have h0 : l.length = 0 := by omega
      rw [h0]
      refine ⟨by simp, ?_⟩
      simp only [List.length_nil, Nat.zero_add]
      exact (Nat.div_eq_of_lt (by omega)).symm
theorem chkR_iter {s : Nat} {l : List PV} (hs : s = 1 ∨ l.length = 0) (hl : l.length ≤ 1000000) (m : Nat) (hm : 1 ≤ m) (hm2 : m ≤ 1000) (o : Bool) :
    Iter Tryd.prog 46 [.ip 1 [.lst s l o] 0 0, .ip 1 [.int .i64 m] 0 0] ((chk m l).map fun p => [.lst 1 p false]) := by
  have hmix := mixS
  refine iter_of t46 (by simp [p46]) ?_
  intro B J Jx Ho hY hJ
  simp only [p46]
  refine pwpE_sr ?_
  intro K hK
  simp (disch := first | (refine Ok.mk ?_; (try simp only [Lm, La, Lc, Ln, Lt, Ld, Lr, Li, true_or, or_true, true_and, and_true]); omega) | (simp <;> fail) | skip) [runM_nil]
  refine hK _ _ ?_
  clear hK K
  refine pwpE_block ?_
  refine pwpE_loopK [0, 1, 2, 4] (fun q st H' => ∃ (k : Nat) (done : List (List PV)), k ≤ l.length + m ∧ chk m l = done ++ chk m (l.drop k) ∧ J (done.map fun p => [.lst 1 p false]) H' ∧ q = l.length - k ∧
      st = MS 31 [(0, .fn (.yield B.l) [] []), (1, .ip 1 [.lst s l o] 0 0), (2, .ip 1 [.int .i64 m] 0 0), (4, .int .i64 k)]) (n := l.length)
    ⟨_, .refl _, 0, [], by omega, rfl, hJ, rfl, by simp [keepL_MS, keepA, getS, lendL, lend]⟩ ?_
  rintro q st Ho' ⟨k, done, hk, hbl, hJ', rfl, rfl⟩
  by_cases hlt : k < l.length
  · obtain rfl : s = 1 := hs.resolve_right (by omega)
    have hdl : (l.drop k).length = l.length - k := List.length_drop ..
    have hst := chk_step (m := m) (l := l.drop k) hm (by omega)
    rw [List.drop_drop] at hst
    have hcut : (l.take (k + min m (l.length - k))).drop k = (l.drop k).take m := by
      rw [List.drop_take, Nat.add_sub_cancel_left]
      rcases Nat.le_total m (l.length - k) with h | h
      · rw [Nat.min_eq_left h]
      · rw [Nat.min_eq_right h, List.take_of_length_le (by omega), List.take_of_length_le (by omega)]
    obtain ⟨n, hn⟩ : ∃ n, n = min m (l.length - k) := ⟨_, rfl⟩
    rw [← hn] at hcut
    have hmn : (if (m : Int) < (l.length : Int) - k then (m : Int) else (l.length : Int) - k) = n := by split <;> omega
    have hmn2 : (if (l.length : Int) - k < m then (l.length : Int) - k else (m : Int)) = n := by split <;> omega
    have hmn3 : (if l.length - k < m then ((l.length - k : Nat) : Int) else (m : Int)) = n := by split <;> omega
    have hmn4 : (if m < l.length - k then (m : Int) else ((l.length - k : Nat) : Int)) = n := by split <;> omega
    have hkn : k + n ≤ l.length := by omega
    have htn : ((k : Int) + n).toNat = k + n := by omega
    refine pwpE_seq ?_
    refine pwpE_sr ?_
    intro K hK
    simp (disch := first | (refine Ok.mk ?_; (try simp only [Lm, La, Lc, Ln, Lt, Ld, Lr, Li, true_or, or_true, true_and, and_true]); omega) | (simp <;> fail) | skip) [runM_nil]
    refine hK _ _ ?_
    clear hK K
    refine pwpE_cT (by simp [hlt]) (pwpE_skip ?_)
    refine pwpE_seq (pwpE_block ?_)
    refine pwpE_sd hmix ?_
    intro K hK
    simp (disch := first | (refine Ok.mk ?_; (try simp only [Lm, La, Lc, Ln, Lt, Ld, Lr, Li, true_or, or_true, true_and, and_true]); omega) | (simp <;> fail) | skip) [runM_nil, hdl, hmn, hmn2, hmn3, hmn4]
    refine hK _ _ ?_
    clear hK K
    refine pwpE_seq ?_
    refine pwpE_yieldM hY 10 rfl rfl ?_
    intro K hK
    simp only [List.take_succ_cons, List.take_zero]
    simp (disch := first | (refine Ok.mk ?_; (try simp only [Lm, La, Lc, Ln, Lt, Ld, Lr, Li, true_or, or_true, true_and, and_true]); omega) | (simp <;> fail) | skip) [runM_nil, htn, hcut]
    refine hK _ _ ?_
    clear hK K
    have hmem : [PV.lst 1 ((l.drop k).take m) false] ∈ (chk m l).map fun p => [PV.lst 1 p false] := List.mem_map.2 ⟨_, by rw [hbl, hst]; simp, rfl⟩
    have hpre : (done.map fun p => [PV.lst 1 p false]).length < ((chk m l).map fun p => [PV.lst 1 p false]).length := by rw [hbl, hst]; simp
    refine .inr ⟨(by simp [goes, gval]), [], Ho', done.map fun p => [.lst 1 p false], [.lst 1 ((l.drop k).take m) false], rfl, (by simp), (by simp), hmem, hpre, hJ', fun Ho2 hJ2 K hK => ?_, fun pe Ho2 hne hJx K hK => ?_⟩
    · simp (disch := first | (refine Ok.mk ?_; (try simp only [Lm, La, Lc, Ln, Lt, Ld, Lr, Li, true_or, or_true, true_and, and_true]); omega) | (simp <;> fail) | skip) [runM_nil]
      refine hK _ _ ?_
      clear hK K
      refine pwpE_cF (by simp) (pwpE_skip ?_)
      refine pwpE_region ?_
      intro K hK
      simp (disch := first | (refine Ok.mk ?_; (try simp only [Lm, La, Lc, Ln, Lt, Ld, Lr, Li, true_or, or_true, true_and, and_true]); omega) | (simp <;> fail) | skip) [runM_nil]
      refine hK _ _ ?_
      clear hK K
      refine ⟨rfl, l.length - (k + m), by omega, _, .refl _, k + m, done ++ [(l.drop k).take m], by omega, ?_, ?_, rfl, ?_⟩
      · rw [hbl, hst]; simp
      · rw [List.map_append]; exact hJ2
      · simp [keepL_MS, keepA, getS]
    · simp (disch := first | (refine Ok.mk ?_; (try simp only [Lm, La, Lc, Ln, Lt, Ld, Lr, Li, true_or, or_true, true_and, and_true]); omega) | (simp <;> fail) | skip) [runM_nil]
      refine hK _ _ ?_
      clear hK K
      refine pwpE_cT (by simp) (pwpE_ret ⟨.inr rfl, _, _, rfl, .refl _, hne, (done.map fun p => [.lst 1 p false]) ++ [[.lst 1 ((l.drop k).take m) false]], ?_, hJx⟩)
      rw [hbl, hst, List.map_append, List.map_cons]
      exact ⟨(chk m (l.drop (k + m))).map fun p => [.lst 1 p false], by simp⟩
  · have hsp := chk_stop (m := m) (l := l.drop k) (by rw [List.length_drop]; omega)
    rw [hsp, List.append_nil] at hbl
    refine pwpE_seq ?_
    refine pwpE_sr ?_
    intro K hK
    simp (disch := first | (refine Ok.mk ?_; (try simp only [Lm, La, Lc, Ln, Lt, Ld, Lr, Li, true_or, or_true, true_and, and_true]); omega) | (simp <;> fail) | skip) [runM_nil]
    refine hK _ _ ?_
    clear hK K
    refine pwpE_cF (by simp [hlt]) (pwpE_exit ⟨.inl rfl, _, _, rfl, .refl _, ?_⟩)
    show J _ _
    rw [hbl]
    exact hJ'
theorem chkR_ok {s : Nat} {xs : List PV} {o : Bool} (m : Nat) (hm : 1 ≤ m) (hm2 : m ≤ 1000) :
    PSpec Tryd.prog 27 [.lst s xs o, .int .i64 m] (.fn (.func 46) [] [.ip 1 [.lst s xs false] 0 0, .ip 1 [.int .i64 m] 0 0]) := by
  intro H
  have h1 : ¬ ((m : Int) < 1) := by omega
  refine spec_of t27 (by simp [p27]) ?_
  simp only [p27]
  first | refine pwp_sr ?_ | refine pwp_regionM ?_
  intro K hK
  simp (disch := first | (refine Ok.mk ?_; (try simp only [Lm, La, Lc, Ln, Lt, Ld, Lr, Li, true_or, or_true, true_and, and_true]); omega) | (simp <;> fail) | skip) [runM_nil]
  refine hK _ _ ?_
  clear hK K
  first | refine pwp_rif ?_ | refine pwp_rifE ?_
  intro K hK
  simp (disch := first | (refine Ok.mk ?_; (try simp only [Lm, La, Lc, Ln, Lt, Ld, Lr, Li, true_or, or_true, true_and, and_true]); omega) | (simp <;> fail) | skip) [runM_nil, h1]
  refine hK _ _ ?_
  clear hK K
  refine ifF (by simp (disch := first | (refine Ok.mk ?_; (try simp only [Lm, La, Lc, Ln, Lt, Ld, Lr, Li, true_or, or_true, true_and, and_true]); omega) | (simp <;> fail) | skip) [runM_nil]) (pwp_skip ?_)
  first | refine pwp_sr ?_ | refine pwp_regionM ?_
  intro K hK
  simp (disch := first | (refine Ok.mk ?_; (try simp only [Lm, La, Lc, Ln, Lt, Ld, Lr, Li, true_or, or_true, true_and, and_true]); omega) | (simp <;> fail) | skip) [runM_nil]
  refine hK _ _ ?_
  clear hK K
  refine pwp_ret ⟨.inr rfl, _, _, (by simp (disch := first | (refine Ok.mk ?_; (try simp only [Lm, La, Lc, Ln, Lt, Ld, Lr, Li, true_or, or_true, true_and, and_true]); omega) | (simp <;> fail) | skip) [runM_nil, resL]; rfl), .refl _, by simp (disch := first | (refine Ok.mk ?_; (try simp only [Lm, La, Lc, Ln, Lt, Ld, Lr, Li, true_or, or_true, true_and, and_true]); omega) | (simp <;> fail) | skip) [resV], rfl⟩
end Go.Proofs.YtjcjbpbkakfjdaaDoor.E
/- Few: how many records there are, and of how many bytes. -/
namespace Go.Proofs.YtjcjbpbkakfjdaaDoor.E
open Go Go.RowKit Go.Proofs
set_option linter.unusedVariables false
set_option linter.unusedSimpArgs false
end Go.Proofs.YtjcjbpbkakfjdaaDoor.E
/- Records as a file, by the program. -/
namespace Go.Proofs.YtjcjbpbkakfjdaaDoor.E
open Go Go.RowKit Go.Proofs
set_option linter.unusedVariables false
set_option linter.unusedSimpArgs false
def okR : Rc → Bool
  | [k, v] => decide (k.length ≤ 1000) && decide (v.length ≤ 1000)
  | _ => false
theorem isPair_ok (r : Rc) (hr : r.length ≤ 1000000) {o : Bool} : PSpec Tryd.prog 29 [.lst 1 (r.map sV) o] (.bool (okR r)) := by
  intro H
  refine spec_of t29 (by simp [p29]) ?_
  simp only [p29]
  first | refine pwp_sr ?_ | refine pwp_regionM ?_
  intro K hK
  simp (disch := first | (refine Ok.mk ?_; (try simp only [Lm, La, Lc, Ln, Lt, Ld, Lr, Li, true_or, or_true, true_and, and_true]); omega) | (simp <;> fail) | skip) [runM_nil]
  refine hK _ _ ?_
  clear hK K
  match r, hr with
  | [], _ =>
    first | refine pwp_sr ?_ | refine pwp_regionM ?_
    intro K hK
    simp (disch := first | (refine Ok.mk ?_; (try simp only [Lm, La, Lc, Ln, Lt, Ld, Lr, Li, true_or, or_true, true_and, and_true]); omega) | (simp <;> fail) | skip) [runM_nil]
    refine hK _ _ ?_
    clear hK K
    refine pwp_ret ⟨.inr rfl, _, _, (by simp (disch := first | (refine Ok.mk ?_; (try simp only [Lm, La, Lc, Ln, Lt, Ld, Lr, Li, true_or, or_true, true_and, and_true]); omega) | (simp <;> fail) | skip) [runM_nil, resL, okR]; rfl), .refl _, by simp (disch := first | (refine Ok.mk ?_; (try simp only [Lm, La, Lc, Ln, Lt, Ld, Lr, Li, true_or, or_true, true_and, and_true]); omega) | (simp <;> fail) | skip) [resV, okR], rfl⟩
  | [a], _ =>
    first | refine pwp_sr ?_ | refine pwp_regionM ?_
    intro K hK
    simp (disch := first | (refine Ok.mk ?_; (try simp only [Lm, La, Lc, Ln, Lt, Ld, Lr, Li, true_or, or_true, true_and, and_true]); omega) | (simp <;> fail) | skip) [runM_nil]
    refine hK _ _ ?_
    clear hK K
    refine pwp_ret ⟨.inr rfl, _, _, (by simp (disch := first | (refine Ok.mk ?_; (try simp only [Lm, La, Lc, Ln, Lt, Ld, Lr, Li, true_or, or_true, true_and, and_true]); omega) | (simp <;> fail) | skip) [runM_nil, resL, okR]; rfl), .refl _, by simp (disch := first | (refine Ok.mk ?_; (try simp only [Lm, La, Lc, Ln, Lt, Ld, Lr, Li, true_or, or_true, true_and, and_true]); omega) | (simp <;> fail) | skip) [resV, okR], rfl⟩
  | [a, b], _ =>
    by_cases h1 : a.length ≤ 1000
    · by_cases h2 : b.length ≤ 1000
      · first | refine pwp_sr ?_ | refine pwp_regionM ?_
        intro K hK
        simp (disch := first | (refine Ok.mk ?_; (try simp only [Lm, La, Lc, Ln, Lt, Ld, Lr, Li, true_or, or_true, true_and, and_true]); omega) | (simp <;> fail) | skip) [runM_nil, sV, h1, h2]
        refine hK _ _ ?_
        clear hK K
        refine pwp_ret ⟨.inr rfl, _, _, (by simp (disch := first | (refine Ok.mk ?_; (try simp only [Lm, La, Lc, Ln, Lt, Ld, Lr, Li, true_or, or_true, true_and, and_true]); omega) | (simp <;> fail) | skip) [runM_nil, resL, okR, h1, h2]; rfl), .refl _, by simp (disch := first | (refine Ok.mk ?_; (try simp only [Lm, La, Lc, Ln, Lt, Ld, Lr, Li, true_or, or_true, true_and, and_true]); omega) | (simp <;> fail) | skip) [resV, okR, h1, h2], rfl⟩
      · first | refine pwp_sr ?_ | refine pwp_regionM ?_
        intro K hK
        simp (disch := first | (refine Ok.mk ?_; (try simp only [Lm, La, Lc, Ln, Lt, Ld, Lr, Li, true_or, or_true, true_and, and_true]); omega) | (simp <;> fail) | skip) [runM_nil, sV, h1, h2]
        refine hK _ _ ?_
        clear hK K
        refine pwp_ret ⟨.inr rfl, _, _, (by simp (disch := first | (refine Ok.mk ?_; (try simp only [Lm, La, Lc, Ln, Lt, Ld, Lr, Li, true_or, or_true, true_and, and_true]); omega) | (simp <;> fail) | skip) [runM_nil, resL, okR, h1, h2]; rfl), .refl _, by simp (disch := first | (refine Ok.mk ?_; (try simp only [Lm, La, Lc, Ln, Lt, Ld, Lr, Li, true_or, or_true, true_and, and_true]); omega) | (simp <;> fail) | skip) [resV, okR, h1, h2], rfl⟩
    · first | refine pwp_sr ?_ | refine pwp_regionM ?_
      intro K hK
      simp (disch := first | (refine Ok.mk ?_; (try simp only [Lm, La, Lc, Ln, Lt, Ld, Lr, Li, true_or, or_true, true_and, and_true]); omega) | (simp <;> fail) | skip) [runM_nil, sV, h1]
      refine hK _ _ ?_
      clear hK K
      refine pwp_ret ⟨.inr rfl, _, _, (by simp (disch := first | (refine Ok.mk ?_; (try simp only [Lm, La, Lc, Ln, Lt, Ld, Lr, Li, true_or, or_true, true_and, and_true]); omega) | (simp <;> fail) | skip) [runM_nil, resL, okR, h1]; rfl), .refl _, by simp (disch := first | (refine Ok.mk ?_; (try simp only [Lm, La, Lc, Ln, Lt, Ld, Lr, Li, true_or, or_true, true_and, and_true]); omega) | (simp <;> fail) | skip) [resV, okR, h1], rfl⟩
  | a :: b :: c :: l, hr =>
    have hn : ¬ ((l.length : Int) + 1 + 1 + 1 = 2) := by omega
    simp only [List.length_cons] at hr
    first | refine pwp_sr ?_ | refine pwp_regionM ?_
    intro K hK
    simp (disch := first | (refine Ok.mk ?_; (try simp only [Lm, La, Lc, Ln, Lt, Ld, Lr, Li, true_or, or_true, true_and, and_true]); omega) | (simp <;> fail) | skip) [runM_nil, hn]
    refine hK _ _ ?_
    clear hK K
    refine pwp_ret ⟨.inr rfl, _, _, (by simp (disch := first | (refine Ok.mk ?_; (try simp only [Lm, La, Lc, Ln, Lt, Ld, Lr, Li, true_or, or_true, true_and, and_true]); omega) | (simp <;> fail) | skip) [runM_nil, resL, okR]; rfl), .refl _, by simp (disch := first | (refine Ok.mk ?_; (try simp only [Lm, La, Lc, Ln, Lt, Ld, Lr, Li, true_or, or_true, true_and, and_true]); omega) | (simp <;> fail) | skip) [resV, okR], rfl⟩
theorem pair_ok {s : Nat} {xs : List PV} {o : Bool} {b : List Nat} (hx : xs = b.map u8) (hs : s = 1 ∨ b.length = 0) (k v : List Nat) (hl : b.length + k.length + v.length ≤ 1000000000) :
    PSpec Tryd.prog 30 [.lst s xs o, .agg [.str (ci k), .str (ci v)]] (bV (b ++ vb k.length ++ k ++ vb v.length ++ v) true) := by
  intro H
  have c1 := frame_ok (o := false) hx hs k (by omega)
  have hvk := vb_length_le10 (n := k.length) (by omega)
  have c2 := frame_ok (s := 1) (o := false) (xs := (b ++ vb k.length ++ k).map u8) rfl (.inl rfl) v (by simp only [List.length_append]; omega)
  generalize b ++ vb k.length ++ k = A at *
  generalize A ++ vb v.length ++ v = Z at *
  refine spec_of t30 (by simp [p30]) ?_
  simp only [p30]
  first | refine pwp_sr ?_ | refine pwp_regionM ?_
  intro K hK
  simp (disch := first | (refine Ok.mk ?_; (try simp only [Lm, La, Lc, Ln, Lt, Ld, Lr, Li, true_or, or_true, true_and, and_true]); omega) | (simp <;> fail) | skip) [runM_nil]
  refine hK _ _ ?_
  clear hK K
  first | refine pwp_sd hmix ?_ | refine pwp_drawM hmix ?_
  intro K hK
  simp (disch := first | (refine Ok.mk ?_; (try simp only [Lm, La, Lc, Ln, Lt, Ld, Lr, Li, true_or, or_true, true_and, and_true]); omega) | (simp <;> fail) | skip) [runM_nil]
  refine useD (c1) ?_
  simp (disch := first | (refine Ok.mk ?_; (try simp only [Lm, La, Lc, Ln, Lt, Ld, Lr, Li, true_or, or_true, true_and, and_true]); omega) | (simp <;> fail) | skip) [runM_nil]
  refine useD (c2) ?_
  simp (disch := first | (refine Ok.mk ?_; (try simp only [Lm, La, Lc, Ln, Lt, Ld, Lr, Li, true_or, or_true, true_and, and_true]); omega) | (simp <;> fail) | skip) [runM_nil]
  refine hK _ _ ?_
  clear hK K
  refine pwp_ret ⟨.inr rfl, _, _, (by simp (disch := first | (refine Ok.mk ?_; (try simp only [Lm, La, Lc, Ln, Lt, Ld, Lr, Li, true_or, or_true, true_and, and_true]); omega) | (simp <;> fail) | skip) [runM_nil, resL]; rfl), .refl _, by simp (disch := first | (refine Ok.mk ?_; (try simp only [Lm, La, Lc, Ln, Lt, Ld, Lr, Li, true_or, or_true, true_and, and_true]); omega) | (simp <;> fail) | skip) [resV], rfl⟩
def rowS (p : List Rc) : List Nat := vb p.length ++ p.flatMap fun r => vb (r.getD 0 []).length ++ r.getD 0 [] ++ vb (r.getD 1 []).length ++ r.getD 1 []
def blkW (p : List Rc) : List Nat := 255 :: 83 :: escB (sealed tbl (rowS p))
def fileS (l : List Rc) : List Nat := [84, 83, 81, 49] ++ (chk 3 l).flatMap blkW
def wrS (l : List Rc) : List Nat × Nat := if l.all okR = true then (fileS l, 0) else ([], 10)
def rowSt (p : List Rc) (i : Nat) : List Nat := vb p.length ++ (p.take i).flatMap fun r => vb (r.getD 0 []).length ++ r.getD 0 [] ++ vb (r.getD 1 []).length ++ r.getD 1 []
theorem okR_iff {r : Rc} : okR r = true ↔ ∃ k v, r = [k, v] ∧ k.length ≤ 1000 ∧ v.length ≤ 1000 := by
  match r with
  | [] => simp [okR]
  | [a] => simp [okR]
  | [a, b] =>
    simp only [okR, Bool.and_eq_true, decide_eq_true_iff]
    exact ⟨fun ⟨h1, h2⟩ => ⟨a, b, rfl, h1, h2⟩, fun ⟨k, v, e, h1, h2⟩ => by cases e; exact ⟨h1, h2⟩⟩
  | a :: b :: c :: l => simp [okR]
theorem rowSt_succ {p : List Rc} {i : Nat} (h : i < p.length) {k v : List Nat} (e : p[i] = [k, v]) : rowSt p (i + 1) = rowSt p i ++ vb k.length ++ k ++ vb v.length ++ v := by
  unfold rowSt
  rw [List.take_succ_eq_append_getElem h, List.flatMap_append, e]
  simp
theorem rowS_len {p : List Rc} (hp : p.length ≤ 100) : ∀ i, i ≤ p.length → (∀ r ∈ p.take i, okR r = true) → (rowSt p i).length ≤ 10 + 2020 * i
  | 0, _, _ => by
    have := vb_length_le10 (n := p.length) (by omega)
    simpa [rowSt] using this
  | i + 1, hi, hok => by
    have ih := rowS_len hp i (by omega) fun r hr => hok r (by rw [List.take_succ_eq_append_getElem (by omega)]; exact List.mem_append_left _ hr)
    obtain ⟨k, v, e, hk, hv⟩ := okR_iff.1 (hok p[i] (by rw [List.take_succ_eq_append_getElem (by omega)]; exact List.mem_append_right _ (List.mem_singleton.2 rfl)))
    rw [rowSt_succ (by omega) e]
    have h1 := vb_length_le10 (n := k.length) (by omega)
    have h2 := vb_length_le10 (n := v.length) (by omega)
    simp only [List.length_append]
    omega
theorem escB_len (b : List Nat) : (escB b).length ≤ 2 * b.length := by
  have h := rep_len (p := [255]) (n := [255, 0]) (by simp) _ b (Nat.le_refl _)
  have h2 := occ_le1 (p := [255]) (by simp) b
  simp only [List.length_cons, List.length_nil] at h
  unfold escB
  omega
def chV (p : List Rc) : List PV := [.lst 1 (rowsC p) false]
theorem chV_inj (a b : List Rc) (h : chV a = chV b) : a = b := by
  simp only [chV, List.cons.injEq, PV.lst.injEq, and_true, true_and] at h
  exact rowsC_inj h
theorem vb_sum_len {pre : List (List Rc)} (h3 : ∀ p ∈ pre, p.length ≤ 3) (h : ∀ p ∈ pre, ∀ r ∈ p, okR r = true) : (pre.flatMap blkW).length ≤ 13000 * pre.length := by
  induction pre with
  | nil => simp
  | cons p pre ih =>
    have h1 := ih (fun q hq => h3 q (List.mem_cons_of_mem _ hq)) fun q hq => h q (List.mem_cons_of_mem _ hq)
    have hp := h3 p (List.mem_cons_self ..)
    have h2 := rowS_len (p := p) (by omega) p.length (Nat.le_refl _) (by rw [List.take_length]; exact h p (List.mem_cons_self ..))
    have h4 := escB_len (sealed tbl (rowS p))
    rw [sealed_length] at h4
    have e : rowSt p p.length = rowS p := by unfold rowSt rowS; rw [List.take_length]
    rw [e] at h2
    rw [List.flatMap_cons, List.length_append, List.length_cons]
    unfold blkW at *
    simp only [List.length_cons] at *
    omega
set_option maxHeartbeats 1000000 in
theorem write_ok {l : List Rc} {s : Nat} {xs : List PV} (hx : xs = rowsC l) (hs : s = 1 ∨ l.length = 0) (hl : l.length ≤ 1000000) (hr : ∀ r ∈ l, r.length ≤ 1000000) (hw : ∀ r ∈ l, ∀ t ∈ r, ∀ x ∈ t, x < 256) {o : Bool} :
    PSpec Tryd.prog 11 [.lst s xs o] (.tup [bV (wrS l).1 false, .int .i64 ((wrS l).2 : Nat)]) := by
  intro H
  have hxl : xs.length = l.length := by rw [hx]; simp [rowsC]
  have hit := chkR_iter (s := s) (l := xs) (o := false) (hs.imp id fun h => by omega) (by omega) 3 (by omega) (by omega)
  have hmp : ((chk 3 xs).map fun p => [PV.lst 1 p false]) = (chk 3 l).map chV := by
    rw [hx, rowsC, chk_map _ (by omega) _ l (Nat.le_refl _), List.map_map]
    rfl
  rw [hmp] at hit
  obtain ⟨cf1, cf2⟩ := chk_facts (m := 3) (by omega) _ l (Nat.le_refl _)
  have hfl := chk_flat (m := 3) (by omega) _ l (Nat.le_refl _)
  have hmem : ∀ p ∈ chk 3 l, ∀ r ∈ p, r ∈ l := fun p hp r hr => by rw [← hfl]; exact List.mem_flatten.2 ⟨p, hp, hr⟩
  have hcl : (chk 3 l).length ≤ 1000000 := by rw [cf2]; omega
  have hgood : (∀ p ∈ chk 3 l, ∀ r ∈ p, okR r = true) → wrS l = (fileS l, 0) := fun h => by
    unfold wrS
    rw [if_pos (List.all_eq_true.2 fun r hr => by
      rw [← hfl] at hr
      obtain ⟨p, hp, hr⟩ := List.mem_flatten.1 hr
      exact h p hp r hr)]
  have hbad : (∃ p ∈ chk 3 l, ∃ r ∈ p, okR r = false) → wrS l = ([], 10) := fun ⟨p, hp, r, hr, he⟩ => by
    unfold wrS
    rw [if_neg (fun h => by
      have := List.all_eq_true.1 h r (hmem p hp r hr)
      rw [he] at this
      cases this)]
  have hbad2 : ∀ p ∈ chk 3 l, ∀ r ∈ p, okR r = false → ∃ p ∈ chk 3 l, ∃ r ∈ p, okR r = false := fun p hp r hr h => ⟨p, hp, r, hr, h⟩
  have hfile : fileS l = [84, 83, 81, 49] ++ (chk 3 l).flatMap blkW := rfl
  refine SpecH_mono (SpecH_lend (R := fun r H' => ∃ o, r = .tup [bV (wrS l).1 o, .int .i64 ((wrS l).2 : Nat)] ∧ H' = H) ?_) (by
    rintro r H' ⟨_, ⟨o, rfl, rfl⟩, rfl⟩
    exact ⟨by simp [lend, lendL], rfl⟩)
  refine spec_ofU t11 (by simp [p11]) ?_
  simp only [p11]
  first | refine pwp_sr ?_ | refine pwp_regionM ?_
  intro K hK
  simp (disch := first | (refine Ok.mk ?_; (try simp only [Lm, La, Lc, Ln, Lt, Ld, Lr, Li, true_or, or_true, true_and, and_true]); omega) | (simp <;> fail) | skip) [runM_nil]
  intro b2 h_b2
  try simp (disch := first | (refine Ok.mk ?_; (try simp only [Lm, La, Lc, Ln, Lt, Ld, Lr, Li, true_or, or_true, true_and, and_true]); omega) | (simp <;> fail) | skip) [runM_nil]
  intro b3 h_b3
  have d_b3_b2 : ¬ b2 = b3 := fun e => by subst e; simp [hget] at h_b3
  try simp (disch := first | (refine Ok.mk ?_; (try simp only [Lm, La, Lc, Ln, Lt, Ld, Lr, Li, true_or, or_true, true_and, and_true]); omega) | (simp <;> fail) | skip) [runM_nil, d_b3_b2, Ne.symm d_b3_b2]
  refine hK _ _ ?_
  clear hK K
  first | refine pwp_sr ?_ | refine pwp_regionM ?_
  intro K hK
  simp (disch := first | (refine Ok.mk ?_; (try simp only [Lm, La, Lc, Ln, Lt, Ld, Lr, Li, true_or, or_true, true_and, and_true]); omega) | (simp <;> fail) | skip) [runM_nil, d_b3_b2, Ne.symm d_b3_b2]
  refine useP (table_ok) ?_
  simp (disch := first | (refine Ok.mk ?_; (try simp only [Lm, La, Lc, Ln, Lt, Ld, Lr, Li, true_or, or_true, true_and, and_true]); omega) | (simp <;> fail) | skip) [runM_nil, d_b3_b2, Ne.symm d_b3_b2]
  intro b4 h_b4
  have d_b4_b2 : ¬ b2 = b4 := fun e => by subst e; simp [hget, d_b3_b2, Ne.symm d_b3_b2] at h_b4
  have d_b4_b3 : ¬ b3 = b4 := fun e => by subst e; simp [hget, d_b3_b2, Ne.symm d_b3_b2] at h_b4
  try simp (disch := first | (refine Ok.mk ?_; (try simp only [Lm, La, Lc, Ln, Lt, Ld, Lr, Li, true_or, or_true, true_and, and_true]); omega) | (simp <;> fail) | skip) [runM_nil, d_b3_b2, Ne.symm d_b3_b2, d_b4_b2, Ne.symm d_b4_b2, d_b4_b3, Ne.symm d_b4_b3]
  intro b5 h_b5
  have d_b5_b2 : ¬ b2 = b5 := fun e => by subst e; simp [hget, d_b3_b2, Ne.symm d_b3_b2, d_b4_b2, Ne.symm d_b4_b2, d_b4_b3, Ne.symm d_b4_b3] at h_b5
  have d_b5_b3 : ¬ b3 = b5 := fun e => by subst e; simp [hget, d_b3_b2, Ne.symm d_b3_b2, d_b4_b2, Ne.symm d_b4_b2, d_b4_b3, Ne.symm d_b4_b3] at h_b5
  have d_b5_b4 : ¬ b4 = b5 := fun e => by subst e; simp [hget, d_b3_b2, Ne.symm d_b3_b2, d_b4_b2, Ne.symm d_b4_b2, d_b4_b3, Ne.symm d_b4_b3] at h_b5
  try simp (disch := first | (refine Ok.mk ?_; (try simp only [Lm, La, Lc, Ln, Lt, Ld, Lr, Li, true_or, or_true, true_and, and_true]); omega) | (simp <;> fail) | skip) [runM_nil, d_b3_b2, Ne.symm d_b3_b2, d_b4_b2, Ne.symm d_b4_b2, d_b4_b3, Ne.symm d_b4_b3, d_b5_b2, Ne.symm d_b5_b2, d_b5_b3, Ne.symm d_b5_b3, d_b5_b4, Ne.symm d_b5_b4]
  refine hK _ _ ?_
  clear hK K
  refine pwp_seq (pwp_seq ?_)
  first | refine pwp_sr ?_ | refine pwp_regionM ?_
  intro K hK
  simp (disch := first | (refine Ok.mk ?_; (try simp only [Lm, La, Lc, Ln, Lt, Ld, Lr, Li, true_or, or_true, true_and, and_true]); omega) | (simp <;> fail) | skip) [runM_nil, d_b3_b2, Ne.symm d_b3_b2, d_b4_b2, Ne.symm d_b4_b2, d_b4_b3, Ne.symm d_b4_b3, d_b5_b2, Ne.symm d_b5_b2, d_b5_b3, Ne.symm d_b5_b3, d_b5_b4, Ne.symm d_b5_b4]
  refine useP (chkR_ok 3 (by omega) (by omega)) ?_
  simp (disch := first | (refine Ok.mk ?_; (try simp only [Lm, La, Lc, Ln, Lt, Ld, Lr, Li, true_or, or_true, true_and, and_true]); omega) | (simp <;> fail) | skip) [runM_nil, d_b3_b2, Ne.symm d_b3_b2, d_b4_b2, Ne.symm d_b4_b2, d_b4_b3, Ne.symm d_b4_b3, d_b5_b2, Ne.symm d_b5_b2, d_b5_b3, Ne.symm d_b5_b3, d_b5_b4, Ne.symm d_b5_b4]
  refine hK _ _ ?_
  clear hK K
  refine pwp_block ?_
  refine pwp_kept (keep := [2, 3, 4, 5, 14]) (by simp [keepA, getS]; rfl) ?_
  generalize chk 3 l = C at *
  refine pwp_rangeM chV chV_inj C (by simp [runM_nil]) hit (fun a _ => rfl)
    (fun pre H' => (∀ p ∈ pre, p ∈ C) ∧ (∀ p ∈ pre, ∀ r ∈ p, okR r = true) ∧ ∃ ow, ((b5, [.lst 1 (tbl.map u32) false]) :: (b4, [bV ([84, 83, 81, 49] ++ pre.flatMap blkW) ow]) :: (b3, [.int .i64 0]) :: (b2, [.lst 0 [] true]) :: H).Sublist H')
    (fun pre e H' => e = .ret ∧ (∃ p ∈ C, ∃ r ∈ p, okR r = false) ∧ ∃ X Y, H' = (b5, X) :: (b4, Y) :: (b3, [.int .i64 10]) :: (b2, [.lst 0 [] true]) :: H) ⟨by simp, by simp, false, .refl _⟩ ?_ ?_ ?_
  · rintro pre p H' hp hlt ⟨hpC, hok, ow, hsub⟩
    refine pwp_drop hsub ?_
    have hsum := vb_sum_len (fun q hq => (cf1 q (hpC q hq)).2) hok
    obtain ⟨p1, p3⟩ := cf1 p hp
    have hrl : (rowsC p).length = p.length := by simp [rowsC]
    have hge : ∀ i (h : i < p.length), (rowsC p)[i]? = some (.lst 1 (p[i].map sV) false) := fun i h => by rw [rowsC, List.getElem?_map, List.getElem?_eq_getElem h]; rfl
    have cput := put_ok (s := 0) (xs := []) (o := false) (b := []) rfl (.inr rfl) p.length (by omega) (by simp)
    rw [List.nil_append] at cput
    simp only [setA, chV, lendA, lend]
    generalize hA : [84, 83, 81, 49] ++ pre.flatMap blkW = A at *
    have hAl : A.length ≤ 13000 * 1000000 + 4 := by rw [← hA]; simp only [List.length_append, List.length_cons, List.length_nil]; omega
    first | refine pwp_sr ?_ | refine pwp_regionM ?_
    intro K hK
    simp (disch := first | (refine Ok.mk ?_; (try simp only [Lm, La, Lc, Ln, Lt, Ld, Lr, Li, true_or, or_true, true_and, and_true]); omega) | (simp <;> fail) | skip) [runM_nil, d_b3_b2, Ne.symm d_b3_b2, d_b4_b2, Ne.symm d_b4_b2, d_b4_b3, Ne.symm d_b4_b3, d_b5_b2, Ne.symm d_b5_b2, d_b5_b3, Ne.symm d_b5_b3, d_b5_b4, Ne.symm d_b5_b4]
    refine hK _ _ ?_
    clear hK K
    refine ⟨rfl, ?_⟩
    refine pwp_block ?_
    first | refine pwp_sr ?_ | refine pwp_regionM ?_
    intro K hK
    simp (disch := first | (refine Ok.mk ?_; (try simp only [Lm, La, Lc, Ln, Lt, Ld, Lr, Li, true_or, or_true, true_and, and_true]); omega) | (simp <;> fail) | skip) [runM_nil, hrl, d_b3_b2, Ne.symm d_b3_b2, d_b4_b2, Ne.symm d_b4_b2, d_b4_b3, Ne.symm d_b4_b3, d_b5_b2, Ne.symm d_b5_b2, d_b5_b3, Ne.symm d_b5_b3, d_b5_b4, Ne.symm d_b5_b4]
    refine useP (cput) ?_
    simp (disch := first | (refine Ok.mk ?_; (try simp only [Lm, La, Lc, Ln, Lt, Ld, Lr, Li, true_or, or_true, true_and, and_true]); omega) | (simp <;> fail) | skip) [runM_nil, hrl, d_b3_b2, Ne.symm d_b3_b2, d_b4_b2, Ne.symm d_b4_b2, d_b4_b3, Ne.symm d_b4_b3, d_b5_b2, Ne.symm d_b5_b2, d_b5_b3, Ne.symm d_b5_b3, d_b5_b4, Ne.symm d_b5_b4]
    refine hK _ _ ?_
    clear hK K
    refine pwp_seq (pwp_seq ?_)
    first | refine pwp_sr ?_ | refine pwp_regionM ?_
    intro K hK
    simp (disch := first | (refine Ok.mk ?_; (try simp only [Lm, La, Lc, Ln, Lt, Ld, Lr, Li, true_or, or_true, true_and, and_true]); omega) | (simp <;> fail) | skip) [runM_nil, hrl, d_b3_b2, Ne.symm d_b3_b2, d_b4_b2, Ne.symm d_b4_b2, d_b4_b3, Ne.symm d_b4_b3, d_b5_b2, Ne.symm d_b5_b2, d_b5_b3, Ne.symm d_b5_b3, d_b5_b4, Ne.symm d_b5_b4]
    refine hK _ _ ?_
    clear hK K
    refine pwp_block ?_
    have es0 : rowSt p 0 = vb p.length := by simp [rowSt]
    refine pwp_loopK [2, 3, 4, 5, 6, 7, 20, 21, 22] (fun m st H2 => ∃ i : Nat, i ≤ p.length ∧ (∀ r ∈ p.take i, okR r = true) ∧ m = p.length - i ∧ H2 = (b5, [.lst 1 (tbl.map u32) false]) :: (b4, [bV A ow]) :: (b3, [.int .i64 0]) :: (b2, [.lst 0 [] true]) :: H ∧
        st = MS 53 [(2, .ptr (some (b2, 0))), (3, .ptr (some (b3, 0))), (4, .ptr (some (b4, 0))), (5, .ptr (some (b5, 0))), (6, .lst 1 (rowsC p) false), (7, bV (rowSt p i) true), (20, .lst 1 (rowsC p) false), (21, .int .i64 p.length), (22, .int .i64 i)]) (n := p.length)
      ⟨_, .refl _, 0, by omega, by simp, rfl, rfl, by simp [keepL_MS, keepA, getS, es0]⟩ ?_
    rintro m st _ ⟨i, hi, hoki, rfl, rfl, rfl⟩
    have hsl := rowS_len (p := p) (by omega) i hi hoki
    by_cases hlt2 : i < p.length
    · have hg := hge i hlt2
      have hrp := hr p[i] (hmem p hp _ (List.getElem_mem hlt2))
      have cp := isPair_ok p[i] hrp (o := false)
      have hbad2 := hbad2 p hp p[i] (List.getElem_mem hlt2)
      have hoki2 : okR p[i] = true → ∀ r ∈ p.take (i + 1), okR r = true := fun h r hr => by
        rw [List.take_succ_eq_append_getElem hlt2] at hr
        rcases List.mem_append.1 hr with hr | hr
        · exact hoki r hr
        · rw [List.mem_singleton.1 hr]; exact h
      have hsu := fun k v => rowSt_succ hlt2 (k := k) (v := v)
      generalize p[i] = r at *
      first | refine pwp_sr ?_ | refine pwp_regionM ?_
      intro K hK
      simp (disch := first | (refine Ok.mk ?_; (try simp only [Lm, La, Lc, Ln, Lt, Ld, Lr, Li, true_or, or_true, true_and, and_true]); omega) | (simp <;> fail) | skip) [runM_nil, d_b3_b2, Ne.symm d_b3_b2, d_b4_b2, Ne.symm d_b4_b2, d_b4_b3, Ne.symm d_b4_b3, d_b5_b2, Ne.symm d_b5_b2, d_b5_b3, Ne.symm d_b5_b3, d_b5_b4, Ne.symm d_b5_b4]
      refine hK _ _ ?_
      clear hK K
      refine pwp_seq (pwp_cT (by simp [hlt2]) (pwp_skip ?_))
      refine pwp_seq (pwp_block ?_)
      first | refine pwp_sr ?_ | refine pwp_regionM ?_
      intro K hK
      simp (disch := first | (refine Ok.mk ?_; (try simp only [Lm, La, Lc, Ln, Lt, Ld, Lr, Li, true_or, or_true, true_and, and_true]); omega) | (simp <;> fail) | skip) [runM_nil, hg, hrl, d_b3_b2, Ne.symm d_b3_b2, d_b4_b2, Ne.symm d_b4_b2, d_b4_b3, Ne.symm d_b4_b3, d_b5_b2, Ne.symm d_b5_b2, d_b5_b3, Ne.symm d_b5_b3, d_b5_b4, Ne.symm d_b5_b4]
      refine hK _ _ ?_
      clear hK K
      cases hk : okR r with
      | false =>
        rw [hk] at cp
        first | refine pwp_rif ?_ | refine pwp_rifE ?_
        intro K hK
        simp (disch := first | (refine Ok.mk ?_; (try simp only [Lm, La, Lc, Ln, Lt, Ld, Lr, Li, true_or, or_true, true_and, and_true]); omega) | (simp <;> fail) | skip) [runM_nil, d_b3_b2, Ne.symm d_b3_b2, d_b4_b2, Ne.symm d_b4_b2, d_b4_b3, Ne.symm d_b4_b3, d_b5_b2, Ne.symm d_b5_b2, d_b5_b3, Ne.symm d_b5_b3, d_b5_b4, Ne.symm d_b5_b4]
        refine useP (cp) ?_
        simp (disch := first | (refine Ok.mk ?_; (try simp only [Lm, La, Lc, Ln, Lt, Ld, Lr, Li, true_or, or_true, true_and, and_true]); omega) | (simp <;> fail) | skip) [runM_nil, d_b3_b2, Ne.symm d_b3_b2, d_b4_b2, Ne.symm d_b4_b2, d_b4_b3, Ne.symm d_b4_b3, d_b5_b2, Ne.symm d_b5_b2, d_b5_b3, Ne.symm d_b5_b3, d_b5_b4, Ne.symm d_b5_b4]
        refine hK _ _ ?_
        clear hK K
        refine ifT (by simp (disch := first | (refine Ok.mk ?_; (try simp only [Lm, La, Lc, Ln, Lt, Ld, Lr, Li, true_or, or_true, true_and, and_true]); omega) | (simp <;> fail) | skip) [runM_nil]) ?_
        first | refine pwp_sr ?_ | refine pwp_regionM ?_
        intro K hK
        simp (disch := first | (refine Ok.mk ?_; (try simp only [Lm, La, Lc, Ln, Lt, Ld, Lr, Li, true_or, or_true, true_and, and_true]); omega) | (simp <;> fail) | skip) [runM_nil, d_b3_b2, Ne.symm d_b3_b2, d_b4_b2, Ne.symm d_b4_b2, d_b4_b3, Ne.symm d_b4_b3, d_b5_b2, Ne.symm d_b5_b2, d_b5_b3, Ne.symm d_b5_b3, d_b5_b4, Ne.symm d_b5_b4]
        refine hK _ _ ?_
        clear hK K
        exact pwp_ret (.inr ⟨by simp, rfl, hbad2 hk, _, _, rfl⟩)
      | true =>
        rw [hk] at cp
        obtain ⟨k, v, rfl, hk1, hv1⟩ := okR_iff.1 hk
        have hsu := hsu k v rfl
        have c2 := pair_ok (s := 1) (xs := (rowSt p i).map u8) (o := false) rfl (.inl rfl) k v (by omega)
        rw [← hsu] at c2
        have hoki2 := hoki2 hk
        generalize rowSt p i = T at *
        generalize hT2 : rowSt p (i + 1) = T2 at *
        first | refine pwp_rif ?_ | refine pwp_rifE ?_
        intro K hK
        simp (disch := first | (refine Ok.mk ?_; (try simp only [Lm, La, Lc, Ln, Lt, Ld, Lr, Li, true_or, or_true, true_and, and_true]); omega) | (simp <;> fail) | skip) [runM_nil, d_b3_b2, Ne.symm d_b3_b2, d_b4_b2, Ne.symm d_b4_b2, d_b4_b3, Ne.symm d_b4_b3, d_b5_b2, Ne.symm d_b5_b2, d_b5_b3, Ne.symm d_b5_b3, d_b5_b4, Ne.symm d_b5_b4]
        refine useP (cp) ?_
        simp (disch := first | (refine Ok.mk ?_; (try simp only [Lm, La, Lc, Ln, Lt, Ld, Lr, Li, true_or, or_true, true_and, and_true]); omega) | (simp <;> fail) | skip) [runM_nil, d_b3_b2, Ne.symm d_b3_b2, d_b4_b2, Ne.symm d_b4_b2, d_b4_b3, Ne.symm d_b4_b3, d_b5_b2, Ne.symm d_b5_b2, d_b5_b3, Ne.symm d_b5_b3, d_b5_b4, Ne.symm d_b5_b4]
        refine hK _ _ ?_
        clear hK K
        refine ifF (by simp (disch := first | (refine Ok.mk ?_; (try simp only [Lm, La, Lc, Ln, Lt, Ld, Lr, Li, true_or, or_true, true_and, and_true]); omega) | (simp <;> fail) | skip) [runM_nil]) (pwp_skip ?_)
        first | refine pwp_sd hmix ?_ | refine pwp_drawM hmix ?_
        intro K hK
        simp (disch := first | (refine Ok.mk ?_; (try simp only [Lm, La, Lc, Ln, Lt, Ld, Lr, Li, true_or, or_true, true_and, and_true]); omega) | (simp <;> fail) | skip) [runM_nil, sV, d_b3_b2, Ne.symm d_b3_b2, d_b4_b2, Ne.symm d_b4_b2, d_b4_b3, Ne.symm d_b4_b3, d_b5_b2, Ne.symm d_b5_b2, d_b5_b3, Ne.symm d_b5_b3, d_b5_b4, Ne.symm d_b5_b4]
        refine useD (c2) ?_
        simp (disch := first | (refine Ok.mk ?_; (try simp only [Lm, La, Lc, Ln, Lt, Ld, Lr, Li, true_or, or_true, true_and, and_true]); omega) | (simp <;> fail) | skip) [runM_nil, sV, d_b3_b2, Ne.symm d_b3_b2, d_b4_b2, Ne.symm d_b4_b2, d_b4_b3, Ne.symm d_b4_b3, d_b5_b2, Ne.symm d_b5_b2, d_b5_b3, Ne.symm d_b5_b3, d_b5_b4, Ne.symm d_b5_b4]
        refine hK _ _ ?_
        clear hK K
        first | refine pwp_sr ?_ | refine pwp_regionM ?_
        intro K hK
        simp (disch := first | (refine Ok.mk ?_; (try simp only [Lm, La, Lc, Ln, Lt, Ld, Lr, Li, true_or, or_true, true_and, and_true]); omega) | (simp <;> fail) | skip) [runM_nil, d_b3_b2, Ne.symm d_b3_b2, d_b4_b2, Ne.symm d_b4_b2, d_b4_b3, Ne.symm d_b4_b3, d_b5_b2, Ne.symm d_b5_b2, d_b5_b3, Ne.symm d_b5_b3, d_b5_b4, Ne.symm d_b5_b4]
        refine hK _ _ ?_
        clear hK K
        exact ⟨p.length - (i + 1), by omega, _, .refl _, i + 1, by omega, hoki2, rfl, rfl, by simp [keepL_MS, keepA, getS, hT2]⟩
    · obtain rfl : i = p.length := by omega
      have e : rowSt p p.length = rowS p := by unfold rowSt rowS; rw [List.take_length]
      rw [e] at hsl ⊢
      rw [List.take_length] at hoki
      have hrw : ∀ x ∈ rowS p, x < 256 := by
        intro x hx
        unfold rowS at hx
        rcases List.mem_append.1 hx with hx | hx
        · exact vb_lt _ x hx
        · obtain ⟨r, hr, hx⟩ := List.mem_flatMap.1 hx
          obtain ⟨k, v, rfl, _, _⟩ := okR_iff.1 (hoki r hr)
          have hkw := hw _ (hmem p hp _ hr) k (by simp)
          have hvw := hw _ (hmem p hp _ hr) v (by simp)
          simp only [List.getD_cons_zero, List.getD_cons_succ, List.mem_append] at hx
          rcases hx with ((hx | hx) | hx) | hx
          · exact vb_lt _ x hx
          · exact hkw x hx
          · exact vb_lt _ x hx
          · exact hvw x hx
      have cse := seal_ok tbl_length tbl_lt (ot := false) (o := false) (s := 1) (xs := (rowS p).map u8) rfl (.inl rfl) hrw (by omega)
      have hZl := sealed_length tbl (rowS p)
      have hZw := sealed_lt tbl hrw
      have hblk : blkW p = 255 :: 83 :: escB (sealed tbl (rowS p)) := rfl
      have hAp : [84, 83, 81, 49] ++ (pre ++ [p]).flatMap blkW = A ++ 255 :: 83 :: escB (sealed tbl (rowS p)) := by rw [← hA, List.flatMap_append, List.append_assoc, ← hblk]; simp
      generalize rowS p = Rw at *
      generalize sealed tbl Rw = Z at *
      have ces := escape_ok (s := 1) (xs := Z.map u8) (o := false) rfl (.inl rfl) hZw (by omega)
      have hEl := escB_len Z
      generalize escB Z = E at *
      have cc := concat_ok (es := [bV A false, .lst 1 [.int .u8 255, .int .u8 83] false, bV E false]) (o := false) [(1, A), (1, [255, 83]), (1, E)] rfl (by simp) (by simp) (by simp; omega)
      have hcc : [(1, A), (1, [255, 83]), (1, E)].flatMap (·.2) = A ++ 255 :: 83 :: E := by simp
      rw [hcc] at cc
      have hok2 : ∀ q ∈ pre ++ [p], ∀ r ∈ q, okR r = true := fun q hq => (List.mem_append.1 hq).elim (hok q) fun h => by rw [List.mem_singleton.1 h]; exact hoki
      have hpC2 : ∀ q ∈ pre ++ [p], q ∈ C := fun q hq => (List.mem_append.1 hq).elim (hpC q) fun h => by rw [List.mem_singleton.1 h]; exact hp
      rw [← hAp] at cc
      generalize [84, 83, 81, 49] ++ (pre ++ [p]).flatMap blkW = A2 at *
      first | refine pwp_sr ?_ | refine pwp_regionM ?_
      intro K hK
      simp (disch := first | (refine Ok.mk ?_; (try simp only [Lm, La, Lc, Ln, Lt, Ld, Lr, Li, true_or, or_true, true_and, and_true]); omega) | (simp <;> fail) | skip) [runM_nil, d_b3_b2, Ne.symm d_b3_b2, d_b4_b2, Ne.symm d_b4_b2, d_b4_b3, Ne.symm d_b4_b3, d_b5_b2, Ne.symm d_b5_b2, d_b5_b3, Ne.symm d_b5_b3, d_b5_b4, Ne.symm d_b5_b4]
      refine hK _ _ ?_
      clear hK K
      refine pwp_seq (pwp_cF (by simp) (pwp_exit ?_))
      first | refine pwp_sr ?_ | refine pwp_regionM ?_
      intro K hK
      simp (disch := first | (refine Ok.mk ?_; (try simp only [Lm, La, Lc, Ln, Lt, Ld, Lr, Li, true_or, or_true, true_and, and_true]); omega) | (simp <;> fail) | skip) [runM_nil, d_b3_b2, Ne.symm d_b3_b2, d_b4_b2, Ne.symm d_b4_b2, d_b4_b3, Ne.symm d_b4_b3, d_b5_b2, Ne.symm d_b5_b2, d_b5_b3, Ne.symm d_b5_b3, d_b5_b4, Ne.symm d_b5_b4]
      refine useP (cse) ?_
      simp (disch := first | (refine Ok.mk ?_; (try simp only [Lm, La, Lc, Ln, Lt, Ld, Lr, Li, true_or, or_true, true_and, and_true]); omega) | (simp <;> fail) | skip) [runM_nil, d_b3_b2, Ne.symm d_b3_b2, d_b4_b2, Ne.symm d_b4_b2, d_b4_b3, Ne.symm d_b4_b3, d_b5_b2, Ne.symm d_b5_b2, d_b5_b3, Ne.symm d_b5_b3, d_b5_b4, Ne.symm d_b5_b4]
      refine hK _ _ ?_
      clear hK K
      first | refine pwp_ss hmix ?_ | refine pwp_drawS hmix ?_
      intro K hK
      simp (disch := first | (refine Ok.mk ?_; (try simp only [Lm, La, Lc, Ln, Lt, Ld, Lr, Li, true_or, or_true, true_and, and_true]); omega) | (simp <;> fail) | skip) [runM_nil, planS_nil, d_b3_b2, Ne.symm d_b3_b2, d_b4_b2, Ne.symm d_b4_b2, d_b4_b3, Ne.symm d_b4_b3, d_b5_b2, Ne.symm d_b5_b2, d_b5_b3, Ne.symm d_b5_b3, d_b5_b4, Ne.symm d_b5_b4]
      refine useDS (ces) ?_
      simp (disch := first | (refine Ok.mk ?_; (try simp only [Lm, La, Lc, Ln, Lt, Ld, Lr, Li, true_or, or_true, true_and, and_true]); omega) | (simp <;> fail) | skip) [runM_nil, planS_nil, d_b3_b2, Ne.symm d_b3_b2, d_b4_b2, Ne.symm d_b4_b2, d_b4_b3, Ne.symm d_b4_b3, d_b5_b2, Ne.symm d_b5_b2, d_b5_b3, Ne.symm d_b5_b3, d_b5_b4, Ne.symm d_b5_b4]
      refine useDS (cc) ?_
      simp (disch := first | (refine Ok.mk ?_; (try simp only [Lm, La, Lc, Ln, Lt, Ld, Lr, Li, true_or, or_true, true_and, and_true]); omega) | (simp <;> fail) | skip) [runM_nil, planS_nil, d_b3_b2, Ne.symm d_b3_b2, d_b4_b2, Ne.symm d_b4_b2, d_b4_b3, Ne.symm d_b4_b3, d_b5_b2, Ne.symm d_b5_b2, d_b5_b3, Ne.symm d_b5_b3, d_b5_b4, Ne.symm d_b5_b4]
      refine hK _ _ ?_
      clear hK K
      exact .inl ⟨rfl, hpC2, hok2, true, .refl _⟩
  · rintro H' ⟨_, hok, ow, hsub⟩
    refine pwp_drop hsub ?_
    rw [hgood hok, hfile]
    generalize [84, 83, 81, 49] ++ C.flatMap blkW = A at *
    first | refine pwp_sr ?_ | refine pwp_regionM ?_
    intro K hK
    simp (disch := first | (refine Ok.mk ?_; (try simp only [Lm, La, Lc, Ln, Lt, Ld, Lr, Li, true_or, or_true, true_and, and_true]); omega) | (simp <;> fail) | skip) [runM_nil, d_b3_b2, Ne.symm d_b3_b2, d_b4_b2, Ne.symm d_b4_b2, d_b4_b3, Ne.symm d_b4_b3, d_b5_b2, Ne.symm d_b5_b2, d_b5_b3, Ne.symm d_b5_b3, d_b5_b4, Ne.symm d_b5_b4]
    refine hK _ _ ?_
    clear hK K
    refine pwp_ret (And.intro (.inr rfl) ⟨_, _, _, (by simp [runM_nil, resL, d_b3_b2, Ne.symm d_b3_b2, d_b4_b2, Ne.symm d_b4_b2, d_b4_b3, Ne.symm d_b4_b3, d_b5_b2, Ne.symm d_b5_b2, d_b5_b3, Ne.symm d_b5_b3, d_b5_b4, Ne.symm d_b5_b4]; rfl), (.cons _ (.cons _ (.cons _ (.cons _ (.refl _))))), Up_refl _ _, false, (by simp [resV]), rfl⟩)
  · rintro pre e H' _ _ ⟨rfl, hb, X, Y, rfl⟩
    rw [hbad hb]
    refine (And.intro (.inr rfl) ⟨_, _, _, (by simp [runM_nil, resL, d_b3_b2, Ne.symm d_b3_b2, d_b4_b2, Ne.symm d_b4_b2, d_b4_b3, Ne.symm d_b4_b3, d_b5_b2, Ne.symm d_b5_b2, d_b5_b3, Ne.symm d_b5_b3, d_b5_b4, Ne.symm d_b5_b4]; rfl), (.cons _ (.cons _ (.cons _ (.cons _ (.refl _))))), (show Up true _ (.tup [.lst 1 [] false, .int .i64 10]) by simp [resV]), false, (by simp), rfl⟩)
end Go.Proofs.YtjcjbpbkakfjdaaDoor.E
/- A split's blocks are those of the right part that begin in it. -/
namespace Go.Proofs.YtjcjbpbkakfjdaaDoor.E
open Go Go.RowKit Go.Proofs
set_option linter.unusedVariables false
set_option linter.unusedSimpArgs false
def ofW (l : List (Nat × List Rc)) (f t : Nat) : List Rc := (l.filter fun p => decide (f ≤ p.1 ∧ p.1 < t)).flatMap (·.2)
theorem mkB_mid {b : List Nat} : ∀ (d k f : Nat), f = k + d → f ≤ mkB b k → mkB b f = mkB b k
  | 0, k, f, h, _ => by rw [h]; rfl
  | d + 1, k, f, h, hle => by
    have h1 := (mkB_le b k).1
    have hn : ¬ [255, 83].isPrefixOf (b.drop k) = true := fun hp => by rw [mkB_here hp] at hle; omega
    have h2 := mkB_next (show k < b.length by omega) hn
    rw [h2] at hle ⊢
    exact mkB_mid d (k + 1) f (by omega) hle
theorem blkB_pre {b : List Nat} {k : Nat} (h : (blkB b k).2.2.2 = 0) : [255, 83].isPrefixOf (b.drop k) = true ∧ (blkB b k).2.2.1 = mkB b (k + 2) := by
  unfold blkB at *
  by_cases h0 : [255, 83].isPrefixOf (b.drop k) = false
  · rw [if_pos h0] at h; cases h
  · rw [if_neg h0] at h ⊢
    refine ⟨by simpa using h0, ?_⟩
    by_cases h1 : (unaB (rawB b k)).2 ≠ 0
    · rw [if_pos h1] at h; exact absurd h h1
    · rw [if_neg h1] at h ⊢
      by_cases h2 : (opened tbl (unaB (rawB b k)).1).2 ≠ 0
      · rw [if_pos h2] at h; exact absurd h h2
      · rw [if_neg h2]
theorem mkB_in {b : List Nat} {k f : Nat} (hp : [255, 83].isPrefixOf (b.drop k) = true) (h1 : k < f) (h2 : f ≤ mkB b (k + 2)) : mkB b f = mkB b (k + 2) := by
  by_cases h : f = k + 1
  · subst h
    obtain ⟨hl, _, h83⟩ := pre2_iff.1 hp
    refine mkB_next hl fun h => ?_
    obtain ⟨_, h255, _⟩ := pre2_iff.1 h
    omega
  · exact mkB_mid (f - (k + 2)) (k + 2) f (by omega) h2
theorem lastE_ge : ∀ (l : List Bk) (k : Nat), (∀ p ∈ l, k ≤ p.1) → l.Pairwise (fun p q => p.1 ≤ q.1) → k ≤ lastE k l ∧ ∀ p ∈ l, p.1 ≤ lastE k l
  | [], k, _, _ => ⟨Nat.le_refl _, fun p hp => by cases hp⟩
  | a :: l, k, h, hp => by
    obtain ⟨hp1, hp2⟩ := List.pairwise_cons.1 hp
    obtain ⟨i1, i2⟩ := lastE_ge l a.1 hp1 hp2
    have ha := h a (List.mem_cons_self ..)
    refine ⟨Nat.le_trans ha i1, fun p hp => ?_⟩
    rcases List.mem_cons.1 hp with rfl | hp
    · exact i1
    · exact i2 p hp
theorem blks_ends (b : List Nat) : ∀ (n k : Nat), (blks n b k).Pairwise (fun p q => p.1 ≤ q.1)
  | 0, k => by simp [blks]
  | n + 1, k => by
    rw [blks]
    split
    · rename_i hc
      refine List.Pairwise.cons (fun p hp => ?_) (blks_ends b n _)
      obtain ⟨_, q2, q3, _⟩ := (blks_facts b n _).2.1 p hp
      show (blkB b k).2.2.1 ≤ p.1
      omega
    · simp
theorem blk_good (b : List Nat) (k : Nat) (hk : k ≤ b.length) : (∀ p ∈ blkAt b k, p.2.1 < lastE k (blkAt b k)) ∧ k ≤ lastE k (blkAt b k) ∧ lastE k (blkAt b k) ≤ b.length := by
  have f2 := (blks_facts b (b.length - k) k).2.1
  have he := blks_ends b (b.length - k) k
  obtain ⟨g1, g2⟩ := lastE_ge (blkAt b k) k (fun p hp => by have := f2 p hp; omega) he
  refine ⟨fun p hp => ?_, g1, ?_⟩
  · have h1 := g2 p hp
    have h2 := (f2 p hp).2.2.1
    omega
  · rcases List.eq_nil_or_concat (blkAt b k) with h | ⟨l, a, h⟩
    · rw [h]; exact hk
    · rw [h, List.concat_eq_append, lastE_snoc]
      exact (f2 a (by show a ∈ blkAt b k; rw [h, List.concat_eq_append]; simp)).2.2.2
theorem tw_filter {f t g : Nat} : ∀ {l : List Bk}, l.Pairwise (fun p q => p.2.1 < q.2.1) → (∀ p ∈ l, p.2.1 < g ∧ f ≤ p.2.1) → l.takeWhile (inB t g) = l.filter fun p => decide (f ≤ p.2.1 ∧ p.2.1 < t)
  | [], _, _ => rfl
  | a :: l, hp, h => by
    obtain ⟨hp1, hp2⟩ := List.pairwise_cons.1 hp
    obtain ⟨ha1, ha2⟩ := h a (List.mem_cons_self ..)
    by_cases hc : a.2.1 < t
    · rw [List.takeWhile_cons_of_pos (by simp [inB, hc, ha1]), List.filter_cons_of_pos (by simp [hc, ha2]), tw_filter hp2 fun p hp => h p (List.mem_cons_of_mem _ hp)]
    · rw [List.takeWhile_cons_of_neg (by simp [inB, hc]), List.filter_cons_of_neg (by simp [hc])]
      symm
      rw [List.filter_eq_nil_iff]
      intro p hp
      have := hp1 p hp
      simp
      omega
theorem split_blk {b : List Nat} {t : Nat} : ∀ (n k f : Nat), b.length - k ≤ n → k ≤ b.length → k ≤ mkB b f → (f ≤ k → k < b.length → (blkB b k).2.2.2 = 0 → mkB b f = k) →
    (blkAt b (mkB b f)).takeWhile (inB t (lastE k (blkAt b k))) = (blkAt b k).filter fun p => decide (f ≤ p.2.1 ∧ p.2.1 < t)
  | n, k, f, hn, hk, hm, hf => by
    by_cases hc : k < b.length ∧ (blkB b k).2.2.2 = 0
    · obtain ⟨hp, hen⟩ := blkB_pre hc.2
      by_cases hfk : f ≤ k
      · rw [hf hfk hc.1 hc.2]
        obtain ⟨f1, f2, f3⟩ := blks_facts b (b.length - k) k
        exact tw_filter f3 fun p hp => ⟨(blk_good b k hk).1 p hp, by have := (f2 p hp).2.1; omega⟩
      · obtain ⟨_, q1, q2⟩ := blkB_ok hc.2
        have hst := blkAt_step hc.1 hc.2
        rw [hst]
        rw [hen] at q1 q2 ⊢
        rw [List.filter_cons_of_neg (by simp; omega)]
        have hmm := (mkB_le b f).2
        cases n with
        | zero => omega
        | succ n =>
          refine split_blk n (mkB b (k + 2)) f (by omega) q2 ?_ ?_
          · by_cases hfe : f ≤ mkB b (k + 2)
            · rw [mkB_in hp (by omega) hfe]; omega
            · omega
          · intro hfe _ _
            exact mkB_in hp (by omega) hfe
    · rw [blkAt_stop hc]
      show (blkAt b (mkB b f)).takeWhile (inB t k) = []
      by_cases hc2 : mkB b f < b.length ∧ (blkB b (mkB b f)).2.2.2 = 0
      · rw [blkAt_step hc2.1 hc2.2, List.takeWhile_cons_of_neg (by simp [inB]; omega)]
      · rw [blkAt_stop hc2]; rfl
theorem head_mk {b : List Nat} (h : [84, 83, 81, 49].isPrefixOf b = true) {f : Nat} (hf : f ≤ 4) : mkB b f = mkB b 4 := by
  obtain ⟨t, rfl⟩ := List.isPrefixOf_iff_prefix.1 h
  have nx : ∀ k, k < 4 → mkB ([84, 83, 81, 49] ++ t) k = mkB ([84, 83, 81, 49] ++ t) (k + 1) := fun k hk => by
    refine mkB_next (by simp; omega) fun hp => ?_
    obtain ⟨_, h1, _⟩ := pre2_iff.1 hp
    match k, hk with
    | 0, _ => simp at h1
    | 1, _ => simp at h1
    | 2, _ => simp at h1
    | 3, _ => simp at h1
  match f, hf with
  | 0, _ => rw [nx 0 (by omega), nx 1 (by omega), nx 2 (by omega), nx 3 (by omega)]
  | 1, _ => rw [nx 1 (by omega), nx 2 (by omega), nx 3 (by omega)]
  | 2, _ => rw [nx 2 (by omega), nx 3 (by omega)]
  | 3, _ => rw [nx 3 (by omega)]
  | 4, _ => rfl
theorem rd_split {b : List Nat} {f t : Nat} : rdS b f t (scanS b).2.1 = ofW (scanS b).1 f t := by
  unfold rdS scanS
  by_cases h : [84, 83, 81, 49].isPrefixOf b = true
  · have h4 : 4 ≤ b.length := by simpa using (List.isPrefixOf_iff_prefix.1 h).length_le
    rw [if_pos h]
    dsimp only
    have hm4 := (mkB_le b 4).2
    have hsp := split_blk (b := b) (t := t) _ 4 f (Nat.le_refl _) h4 (by
      have := (mkB_le b f).2
      by_cases hf : f ≤ 4
      · rw [head_mk h hf]; omega
      · omega) (fun hf _ he => by rw [head_mk h hf, mkB_here (blkB_pre he).1])
    rw [hsp]
    unfold ofW
    rw [List.filter_map, List.flatMap_map]
    rfl
  · rw [if_neg h]
    dsimp only
    have : ∀ l : List Bk, l.takeWhile (inB t 0) = [] := fun l => by
      cases l with
      | nil => rfl
      | cons a l => exact List.takeWhile_cons_of_neg (by simp [inB])
    rw [this]
    rfl
def RcG (r : Rc) : Prop := okR r = true ∧ ∀ t ∈ r, ∀ x ∈ t, x < 256
theorem vframe_len (b : List Nat) : (vframe b 1000).1.length ≤ 1000 := by
  unfold vframe
  split
  · simp
  · split
    · simp
    · split
      · simp
      · rename_i h _
        show (List.take _ _).length ≤ _
        rw [List.length_take]
        omega
theorem vpair_ok {b : List Nat} (hw : ∀ x ∈ b, x < 256) : RcG [(vpair b).1.1, (vpair b).1.2] := by
  obtain ⟨x1, x2, _⟩ := vpair_wf hw
  refine ⟨?_, fun t ht => ?_⟩
  · have h1 : (vpair b).1.1.length ≤ 1000 ∧ (vpair b).1.2.length ≤ 1000 := by
      unfold vpair
      split
      · simp
      · split
        · simp
        · exact ⟨vframe_len _, vframe_len _⟩
    simp [okR, h1]
  · rcases List.mem_cons.1 ht with rfl | ht
    · exact x1
    · rw [List.mem_singleton.1 ht]; exact x2
theorem recL_ok : ∀ (n : Nat) (acc : List Rc) (b : List Nat), (∀ x ∈ b, x < 256) → (∀ r ∈ acc, RcG r) → ∀ r ∈ (recL n acc b).1, RcG r
  | 0, acc, b, _, h => h
  | n + 1, acc, b, hw, h => by
    rw [recL]
    split
    · simp
    · refine recL_ok n _ _ (vpair_wf hw).2.2.1 fun r hr => ?_
      rcases List.mem_append.1 hr with hr | hr
      · exact h r hr
      · rw [List.mem_singleton.1 hr]; exact vpair_ok hw
theorem recsB_ok {b : List Nat} (hw : ∀ x ∈ b, x < 256) : ∀ r ∈ (recsB b).1, RcG r := by
  unfold recsB
  split
  · simp
  · split
    · simp
    · split
      · simp
      · exact recL_ok _ _ _ (vtake_wf hw) (by simp)
theorem raw_wf {b : List Nat} (hw : ∀ x ∈ b, x < 256) (k : Nat) : ∀ x ∈ rawB b k, x < 256 := fun x hx => hw x (List.mem_of_mem_take (List.mem_of_mem_drop hx))
theorem blkB_recs {b : List Nat} (hw : ∀ x ∈ b, x < 256) (k : Nat) : ∀ r ∈ (blkB b k).2.1, RcG r := by
  unfold blkB
  split
  · simp
  · split
    · simp
    · split
      · simp
      · exact recsB_ok (opened_wf (unaB_wf (raw_wf hw k)).1).1
theorem blks_recs {b : List Nat} (hw : ∀ x ∈ b, x < 256) : ∀ (n k : Nat), ∀ p ∈ blks n b k, ∀ r ∈ p.2.2, RcG r
  | 0, k, p, hp => by simp [blks] at hp
  | n + 1, k, p, hp => by
    rw [blks] at hp
    split at hp
    · rcases List.mem_cons.1 hp with rfl | hp
      · exact blkB_recs hw k
      · exact blks_recs hw n _ p hp
    · cases hp
theorem scanS_facts {b : List Nat} (hw : ∀ x ∈ b, x < 256) : (scanS b).1.length ≤ b.length ∧ (∀ p ∈ (scanS b).1, p.2.length ≤ 100 ∧ ∀ r ∈ p.2, RcG r) ∧ (scanS b).2.1 ≤ b.length := by
  unfold scanS
  split
  · rename_i h
    have h4 : 4 ≤ b.length := by simpa using (List.isPrefixOf_iff_prefix.1 h).length_le
    obtain ⟨f1, f2, _⟩ := blks_facts b (b.length - 4) 4
    refine ⟨by rw [List.length_map]; exact Nat.le_trans f1 (by omega), fun p hp => ?_, (blk_good b 4 h4).2.2⟩
    obtain ⟨q, hq, rfl⟩ := List.mem_map.1 hp
    exact ⟨(f2 q hq).1, blks_recs hw _ _ q hq⟩
  · simp
theorem flatW_len {l : List (Nat × List Rc)} (h : ∀ p ∈ l, p.2.length ≤ 100) : (l.flatMap (·.2)).length ≤ 100 * l.length := by
  induction l with
  | nil => simp
  | cons a l ih =>
    have h1 := h a (List.mem_cons_self ..)
    have h2 := ih fun p hp => h p (List.mem_cons_of_mem _ hp)
    rw [List.flatMap_cons, List.length_append, List.length_cons]
    omega
theorem ofW_facts {b : List Nat} (hw : ∀ x ∈ b, x < 256) (f t : Nat) : (ofW (scanS b).1 f t).length ≤ 100 * b.length ∧ ∀ r ∈ ofW (scanS b).1 f t, RcG r := by
  obtain ⟨s1, s2, _⟩ := scanS_facts hw
  unfold ofW
  refine ⟨?_, fun r hr => ?_⟩
  · have h1 := flatW_len (l := (scanS b).1.filter fun p => decide (f ≤ p.1 ∧ p.1 < t)) fun p hp => (s2 p (List.mem_filter.1 hp).1).1
    have h2 := List.length_filter_le (fun p : Nat × List Rc => decide (f ≤ p.1 ∧ p.1 < t)) (scanS b).1
    omega
  · obtain ⟨p, hp, hr⟩ := List.mem_flatMap.1 hr
    exact (s2 p (List.mem_filter.1 hp).1).2 r hr
theorem RcG.two {r : Rc} (h : RcG r) : r.length = 2 := by
  obtain ⟨k, v, rfl, _⟩ := okR_iff.1 h.1
  rfl
end Go.Proofs.YtjcjbpbkakfjdaaDoor.E
/- The records of pieces; the same pieces; the document's split; the live question. -/
namespace Go.Proofs.YtjcjbpbkakfjdaaDoor.E
open Go Go.RowKit Go.Proofs
set_option linter.unusedVariables false
set_option linter.unusedSimpArgs false
theorem of_ok {l : List (Nat × List Rc)} (hl : l.length ≤ 1000000) (hr : ∀ p ∈ l, p.2.length ≤ 100) (f t : Nat) {o : Bool} : PSpec Tryd.prog 44 [.lst 2 (l.map pcW) o, .int .i64 f, .int .i64 t] (.lst 1 (rowsC (ofW l f t)) true) := by
  intro H
  have hpl : (l.map pcW).length = l.length := List.length_map _
  have hge : ∀ i (h : i < l.length), (l.map pcW)[i]? = some (.agg [.int .i64 l[i].1, .lst 1 (rowsC l[i].2) false]) := fun i h => by rw [List.getElem?_map, List.getElem?_eq_getElem h]; rfl
  have hsu : ∀ i (h : i < l.length), ofW (l.take (i + 1)) f t = ofW (l.take i) f t ++ if f ≤ l[i].1 ∧ l[i].1 < t then l[i].2 else [] := fun i h => by
    unfold ofW
    rw [List.take_succ_eq_append_getElem h, List.filter_append, List.flatMap_append]
    congr 1
    by_cases hc : f ≤ l[i].1 ∧ l[i].1 < t
    · simp [hc]
    · rw [if_neg hc, List.filter_cons_of_neg (by simpa using hc)]
      rfl
  have hle : ∀ i, (ofW (l.take i) f t).length ≤ 100 * i := fun i => by
    have h1 := List.length_filter_le (fun p : Nat × List Rc => decide (f ≤ p.1 ∧ p.1 < t)) (l.take i)
    have h2 := flatW_len (l := (l.take i).filter fun p => decide (f ≤ p.1 ∧ p.1 < t)) fun p hp => hr p (List.mem_of_mem_take (List.mem_filter.1 hp).1)
    rw [List.length_take] at h1
    rw [ofW]
    omega
  refine spec_of t44 (by simp [p44]) ?_
  simp only [p44]
  generalize l.map pcW = es at *
  first | refine pwp_sr ?_ | refine pwp_regionM ?_
  intro K hK
  simp (disch := first | (refine Ok.mk ?_; (try simp only [Lm, La, Lc, Ln, Lt, Ld, Lr, Li, true_or, or_true, true_and, and_true]); omega) | (simp <;> fail) | skip) [runM_nil]
  refine hK _ _ ?_
  clear hK K
  first | refine pwp_sr ?_ | refine pwp_regionM ?_
  intro K hK
  simp (disch := first | (refine Ok.mk ?_; (try simp only [Lm, La, Lc, Ln, Lt, Ld, Lr, Li, true_or, or_true, true_and, and_true]); omega) | (simp <;> fail) | skip) [runM_nil]
  refine hK _ _ ?_
  clear hK K
  refine pwp_seq (pwp_seq ?_)
  first | refine pwp_sr ?_ | refine pwp_regionM ?_
  intro K hK
  simp (disch := first | (refine Ok.mk ?_; (try simp only [Lm, La, Lc, Ln, Lt, Ld, Lr, Li, true_or, or_true, true_and, and_true]); omega) | (simp <;> fail) | skip) [runM_nil]
  refine hK _ _ ?_
  clear hK K
  refine pwp_block ?_
  refine pwp_loopK [0, 1, 2, 7, 8] (fun m st H' => ∃ i, i ≤ l.length ∧ m = l.length - i ∧ H' = H ∧ st = MS 40 [(0, .lst 2 es o), (1, .int .i64 f), (2, .int .i64 t), (7, .lst 1 (rowsC (ofW (l.take i) f t)) true), (8, .int .i64 i)]) (n := l.length)
    ⟨_, .refl _, 0, Nat.zero_le _, rfl, rfl, by simp [keepL_MS, keepA, getS, ofW, rowsC]⟩ ?_
  rintro m st H1 ⟨i, hi, rfl, rfl, rfl⟩
  refine pwp_seq ?_
  by_cases hlt : i < l.length
  · have g1 := hge i hlt
    have hs := hsu i hlt
    have hli := hle i
    have hel := hr l[i] (List.getElem_mem hlt)
    have hrr : (rowsC l[i].2).length = l[i].2.length := by simp [rowsC]
    have hrl : (rowsC (ofW (l.take i) f t)).length = (ofW (l.take i) f t).length := by simp [rowsC]
    generalize ofW (l.take i) f t = A at *
    generalize l[i] = e at *
    obtain ⟨k, r⟩ := e
    dsimp only at *
    first | refine pwp_sr ?_ | refine pwp_regionM ?_
    intro K hK
    simp (disch := first | (refine Ok.mk ?_; (try simp only [Lm, La, Lc, Ln, Lt, Ld, Lr, Li, true_or, or_true, true_and, and_true]); omega) | (simp <;> fail) | skip) [runM_nil, hpl]
    refine hK _ _ ?_
    clear hK K
    refine pwp_cT (by simp) (pwp_skip ?_)
    refine pwp_seq (pwp_block ?_)
    rcases (show ¬ f ≤ k ∨ f ≤ k ∧ ¬ k < t ∨ f ≤ k ∧ k < t by omega) with h1 | ⟨h1, h2⟩ | ⟨h1, h2⟩
    · rw [if_neg (by omega), List.append_nil] at hs
      first | refine pwp_rif ?_ | refine pwp_rifE ?_
      intro K hK
      simp (disch := first | (refine Ok.mk ?_; (try simp only [Lm, La, Lc, Ln, Lt, Ld, Lr, Li, true_or, or_true, true_and, and_true]); omega) | (simp <;> fail) | skip) [runM_nil, g1, hpl, h1]
      refine hK _ _ ?_
      clear hK K
      refine ifF (by simp [runM_nil, h1]) (pwp_skip ?_)
      first | refine pwp_sr ?_ | refine pwp_regionM ?_
      intro K hK
      simp (disch := first | (refine Ok.mk ?_; (try simp only [Lm, La, Lc, Ln, Lt, Ld, Lr, Li, true_or, or_true, true_and, and_true]); omega) | (simp <;> fail) | skip) [runM_nil]
      refine hK _ _ ?_
      clear hK K
      exact ⟨l.length - (i + 1), by omega, _, .refl _, i + 1, by omega, rfl, rfl, by simp [keepL_MS, keepA, getS, hs]⟩
    · rw [if_neg (by omega), List.append_nil] at hs
      first | refine pwp_rif ?_ | refine pwp_rifE ?_
      intro K hK
      simp (disch := first | (refine Ok.mk ?_; (try simp only [Lm, La, Lc, Ln, Lt, Ld, Lr, Li, true_or, or_true, true_and, and_true]); omega) | (simp <;> fail) | skip) [runM_nil, g1, hpl, h1, h2]
      refine hK _ _ ?_
      clear hK K
      refine ifF (by simp [runM_nil, h1, h2]) (pwp_skip ?_)
      first | refine pwp_sr ?_ | refine pwp_regionM ?_
      intro K hK
      simp (disch := first | (refine Ok.mk ?_; (try simp only [Lm, La, Lc, Ln, Lt, Ld, Lr, Li, true_or, or_true, true_and, and_true]); omega) | (simp <;> fail) | skip) [runM_nil]
      refine hK _ _ ?_
      clear hK K
      exact ⟨l.length - (i + 1), by omega, _, .refl _, i + 1, by omega, rfl, rfl, by simp [keepL_MS, keepA, getS, hs]⟩
    · rw [if_pos ⟨h1, h2⟩] at hs
      first | refine pwp_rif ?_ | refine pwp_rifE ?_
      intro K hK
      simp (disch := first | (refine Ok.mk ?_; (try simp only [Lm, La, Lc, Ln, Lt, Ld, Lr, Li, true_or, or_true, true_and, and_true]); omega) | (simp <;> fail) | skip) [runM_nil, g1, hpl, h1, h2]
      refine hK _ _ ?_
      clear hK K
      refine ifT (by simp [runM_nil, h1, h2]) ?_
      first | refine pwp_sr ?_ | refine pwp_regionM ?_
      intro K hK
      simp (disch := first | (refine Ok.mk ?_; (try simp only [Lm, La, Lc, Ln, Lt, Ld, Lr, Li, true_or, or_true, true_and, and_true]); omega) | (simp <;> fail) | skip) [runM_nil, g1, hpl, hrl, hrr]
      refine hK _ _ ?_
      clear hK K
      first | refine pwp_sr ?_ | refine pwp_regionM ?_
      intro K hK
      simp (disch := first | (refine Ok.mk ?_; (try simp only [Lm, La, Lc, Ln, Lt, Ld, Lr, Li, true_or, or_true, true_and, and_true]); omega) | (simp <;> fail) | skip) [runM_nil]
      refine hK _ _ ?_
      clear hK K
      exact ⟨l.length - (i + 1), by omega, _, .refl _, i + 1, by omega, rfl, rfl, by simp [keepL_MS, keepA, getS, hs, rowsC]⟩
  · obtain rfl : i = l.length := by omega
    rw [List.take_length]
    first | refine pwp_sr ?_ | refine pwp_regionM ?_
    intro K hK
    simp (disch := first | (refine Ok.mk ?_; (try simp only [Lm, La, Lc, Ln, Lt, Ld, Lr, Li, true_or, or_true, true_and, and_true]); omega) | (simp <;> fail) | skip) [runM_nil, hpl]
    refine hK _ _ ?_
    clear hK K
    refine pwp_cF (by simp) (pwp_exit ?_)
    first | refine pwp_sr ?_ | refine pwp_regionM ?_
    intro K hK
    simp (disch := first | (refine Ok.mk ?_; (try simp only [Lm, La, Lc, Ln, Lt, Ld, Lr, Li, true_or, or_true, true_and, and_true]); omega) | (simp <;> fail) | skip) [runM_nil]
    refine hK _ _ ?_
    clear hK K
    refine pwp_ret ⟨.inr rfl, _, _, (by simp (disch := first | (refine Ok.mk ?_; (try simp only [Lm, La, Lc, Ln, Lt, Ld, Lr, Li, true_or, or_true, true_and, and_true]); omega) | (simp <;> fail) | skip) [runM_nil, resL]; rfl), .refl _, by simp (disch := first | (refine Ok.mk ?_; (try simp only [Lm, La, Lc, Ln, Lt, Ld, Lr, Li, true_or, or_true, true_and, and_true]); omega) | (simp <;> fail) | skip) [resV], rfl⟩
theorem recsNil_ok {o q : Bool} : PSpec Tryd.prog 19 [.lst 0 [] o, .lst 0 [] q] (.bool true) := by
  intro H
  have hmix := mixS
  refine spec_of t19 (by simp [p19]) ?_
  simp only [p19]
  first | refine pwp_sr ?_ | refine pwp_regionM ?_
  intro K hK
  simp (disch := first | (refine Ok.mk ?_; (try simp only [Lm, La, Lc, Ln, Lt, Ld, Lr, Li, true_or, or_true, true_and, and_true]); omega) | (simp <;> fail) | skip) [runM_nil]
  refine hK _ _ ?_
  clear hK K
  refine pwp_seq ?_
  first | refine pwp_sr ?_ | refine pwp_regionM ?_
  intro K hK
  simp (disch := first | (refine Ok.mk ?_; (try simp only [Lm, La, Lc, Ln, Lt, Ld, Lr, Li, true_or, or_true, true_and, and_true]); omega) | (simp <;> fail) | skip) [runM_nil]
  refine hK _ _ ?_
  clear hK K
  refine pwp_cF (by simp) (pwp_skip ?_)
  refine pwp_seq (pwp_seq ?_)
  first | refine pwp_sr ?_ | refine pwp_regionM ?_
  intro K hK
  simp (disch := first | (refine Ok.mk ?_; (try simp only [Lm, La, Lc, Ln, Lt, Ld, Lr, Li, true_or, or_true, true_and, and_true]); omega) | (simp <;> fail) | skip) [runM_nil]
  refine hK _ _ ?_
  clear hK K
  refine pwp_block ?_
  refine pwp_loopK [0, 1, 5] (fun m st H' => H' = H ∧ st = MS 27 [(0, .lst 0 [] o), (1, .lst 0 [] q), (5, .int .i64 0)]) (n := 0) ⟨_, .refl _, rfl, by simp [keepL_MS, keepA, getS]⟩ ?_
  rintro m st H1 ⟨rfl, rfl⟩
  refine pwp_seq ?_
  first | refine pwp_sr ?_ | refine pwp_regionM ?_
  intro K hK
  simp (disch := first | (refine Ok.mk ?_; (try simp only [Lm, La, Lc, Ln, Lt, Ld, Lr, Li, true_or, or_true, true_and, and_true]); omega) | (simp <;> fail) | skip) [runM_nil]
  refine hK _ _ ?_
  clear hK K
  refine pwp_cF (by simp) (pwp_exit ?_)
  first | refine pwp_sr ?_ | refine pwp_regionM ?_
  intro K hK
  simp (disch := first | (refine Ok.mk ?_; (try simp only [Lm, La, Lc, Ln, Lt, Ld, Lr, Li, true_or, or_true, true_and, and_true]); omega) | (simp <;> fail) | skip) [runM_nil]
  refine hK _ _ ?_
  clear hK K
  refine pwp_ret ⟨.inr rfl, _, _, (by simp (disch := first | (refine Ok.mk ?_; (try simp only [Lm, La, Lc, Ln, Lt, Ld, Lr, Li, true_or, or_true, true_and, and_true]); omega) | (simp <;> fail) | skip) [runM_nil, resL]; rfl), .refl _, by simp (disch := first | (refine Ok.mk ?_; (try simp only [Lm, La, Lc, Ln, Lt, Ld, Lr, Li, true_or, or_true, true_and, and_true]); omega) | (simp <;> fail) | skip) [resV], rfl⟩
theorem rreadBad_ok {s : Nat} {xs : List PV} {o : Bool} {b : List Nat} (hx : xs = b.map u8) (f t g : Int) (h : ¬ (0 ≤ f ∧ f ≤ t ∧ t ≤ b.length ∧ 0 ≤ g ∧ g ≤ b.length)) :
    PSpec Tryd.prog 24 [.lst s xs o, .int .i64 f, .int .i64 t, .int .i64 g] (.tup [.lst 0 [] true, .int .i64 1]) := by
  intro H
  have hxl : xs.length = b.length := by rw [hx, List.length_map]
  refine spec_of t24 (by simp [p24]) ?_
  simp only [p24]
  first | refine pwp_sr ?_ | refine pwp_regionM ?_
  intro K hK
  simp (disch := first | (refine Ok.mk ?_; (try simp only [Lm, La, Lc, Ln, Lt, Ld, Lr, Li, true_or, or_true, true_and, and_true]); omega) | (simp <;> fail) | skip) [runM_nil]
  refine hK _ _ ?_
  clear hK K
  rcases (show f < 0 ∨ ¬ f < 0 ∧ t < f ∨ ¬ f < 0 ∧ ¬ t < f ∧ (b.length : Int) < t ∨ ¬ f < 0 ∧ ¬ t < f ∧ ¬ (b.length : Int) < t ∧ g < 0 ∨ ¬ f < 0 ∧ ¬ t < f ∧ ¬ (b.length : Int) < t ∧ ¬ g < 0 ∧ (b.length : Int) < g by omega) with h1 | ⟨h1, h2⟩ | ⟨h1, h2, h3⟩ | ⟨h1, h2, h3, h4⟩ | ⟨h1, h2, h3, h4, h5⟩
  · first | refine pwp_rif ?_ | refine pwp_rifE ?_
    intro K hK
    simp (disch := first | (refine Ok.mk ?_; (try simp only [Lm, La, Lc, Ln, Lt, Ld, Lr, Li, true_or, or_true, true_and, and_true]); omega) | (simp <;> fail) | skip) [runM_nil, hxl, h1]
    refine hK _ _ ?_
    clear hK K
    refine ifT (by simp (disch := first | (refine Ok.mk ?_; (try simp only [Lm, La, Lc, Ln, Lt, Ld, Lr, Li, true_or, or_true, true_and, and_true]); omega) | (simp <;> fail) | skip) [runM_nil]) ?_
    first | refine pwp_sr ?_ | refine pwp_regionM ?_
    intro K hK
    simp (disch := first | (refine Ok.mk ?_; (try simp only [Lm, La, Lc, Ln, Lt, Ld, Lr, Li, true_or, or_true, true_and, and_true]); omega) | (simp <;> fail) | skip) [runM_nil]
    refine hK _ _ ?_
    clear hK K
    refine pwp_retT ⟨.inr rfl, _, _, (by simp (disch := first | (refine Ok.mk ?_; (try simp only [Lm, La, Lc, Ln, Lt, Ld, Lr, Li, true_or, or_true, true_and, and_true]); omega) | (simp <;> fail) | skip) [runM_nil, resL]; rfl), .refl _, by simp (disch := first | (refine Ok.mk ?_; (try simp only [Lm, La, Lc, Ln, Lt, Ld, Lr, Li, true_or, or_true, true_and, and_true]); omega) | (simp <;> fail) | skip) [resV], rfl⟩
  · first | refine pwp_rif ?_ | refine pwp_rifE ?_
    intro K hK
    simp (disch := first | (refine Ok.mk ?_; (try simp only [Lm, La, Lc, Ln, Lt, Ld, Lr, Li, true_or, or_true, true_and, and_true]); omega) | (simp <;> fail) | skip) [runM_nil, hxl, h1, h2]
    refine hK _ _ ?_
    clear hK K
    refine ifT (by simp (disch := first | (refine Ok.mk ?_; (try simp only [Lm, La, Lc, Ln, Lt, Ld, Lr, Li, true_or, or_true, true_and, and_true]); omega) | (simp <;> fail) | skip) [runM_nil]) ?_
    first | refine pwp_sr ?_ | refine pwp_regionM ?_
    intro K hK
    simp (disch := first | (refine Ok.mk ?_; (try simp only [Lm, La, Lc, Ln, Lt, Ld, Lr, Li, true_or, or_true, true_and, and_true]); omega) | (simp <;> fail) | skip) [runM_nil]
    refine hK _ _ ?_
    clear hK K
    refine pwp_retT ⟨.inr rfl, _, _, (by simp (disch := first | (refine Ok.mk ?_; (try simp only [Lm, La, Lc, Ln, Lt, Ld, Lr, Li, true_or, or_true, true_and, and_true]); omega) | (simp <;> fail) | skip) [runM_nil, resL]; rfl), .refl _, by simp (disch := first | (refine Ok.mk ?_; (try simp only [Lm, La, Lc, Ln, Lt, Ld, Lr, Li, true_or, or_true, true_and, and_true]); omega) | (simp <;> fail) | skip) [resV], rfl⟩
  · first | refine pwp_rif ?_ | refine pwp_rifE ?_
    intro K hK
    simp (disch := first | (refine Ok.mk ?_; (try simp only [Lm, La, Lc, Ln, Lt, Ld, Lr, Li, true_or, or_true, true_and, and_true]); omega) | (simp <;> fail) | skip) [runM_nil, hxl, h1, h2, h3]
    refine hK _ _ ?_
    clear hK K
    refine ifT (by simp (disch := first | (refine Ok.mk ?_; (try simp only [Lm, La, Lc, Ln, Lt, Ld, Lr, Li, true_or, or_true, true_and, and_true]); omega) | (simp <;> fail) | skip) [runM_nil]) ?_
    first | refine pwp_sr ?_ | refine pwp_regionM ?_
    intro K hK
    simp (disch := first | (refine Ok.mk ?_; (try simp only [Lm, La, Lc, Ln, Lt, Ld, Lr, Li, true_or, or_true, true_and, and_true]); omega) | (simp <;> fail) | skip) [runM_nil]
    refine hK _ _ ?_
    clear hK K
    refine pwp_retT ⟨.inr rfl, _, _, (by simp (disch := first | (refine Ok.mk ?_; (try simp only [Lm, La, Lc, Ln, Lt, Ld, Lr, Li, true_or, or_true, true_and, and_true]); omega) | (simp <;> fail) | skip) [runM_nil, resL]; rfl), .refl _, by simp (disch := first | (refine Ok.mk ?_; (try simp only [Lm, La, Lc, Ln, Lt, Ld, Lr, Li, true_or, or_true, true_and, and_true]); omega) | (simp <;> fail) | skip) [resV], rfl⟩
  · first | refine pwp_rif ?_ | refine pwp_rifE ?_
    intro K hK
    simp (disch := first | (refine Ok.mk ?_; (try simp only [Lm, La, Lc, Ln, Lt, Ld, Lr, Li, true_or, or_true, true_and, and_true]); omega) | (simp <;> fail) | skip) [runM_nil, hxl, h1, h2, h3, h4]
    refine hK _ _ ?_
    clear hK K
    refine ifT (by simp (disch := first | (refine Ok.mk ?_; (try simp only [Lm, La, Lc, Ln, Lt, Ld, Lr, Li, true_or, or_true, true_and, and_true]); omega) | (simp <;> fail) | skip) [runM_nil]) ?_
    first | refine pwp_sr ?_ | refine pwp_regionM ?_
    intro K hK
    simp (disch := first | (refine Ok.mk ?_; (try simp only [Lm, La, Lc, Ln, Lt, Ld, Lr, Li, true_or, or_true, true_and, and_true]); omega) | (simp <;> fail) | skip) [runM_nil]
    refine hK _ _ ?_
    clear hK K
    refine pwp_retT ⟨.inr rfl, _, _, (by simp (disch := first | (refine Ok.mk ?_; (try simp only [Lm, La, Lc, Ln, Lt, Ld, Lr, Li, true_or, or_true, true_and, and_true]); omega) | (simp <;> fail) | skip) [runM_nil, resL]; rfl), .refl _, by simp (disch := first | (refine Ok.mk ?_; (try simp only [Lm, La, Lc, Ln, Lt, Ld, Lr, Li, true_or, or_true, true_and, and_true]); omega) | (simp <;> fail) | skip) [resV], rfl⟩
  · first | refine pwp_rif ?_ | refine pwp_rifE ?_
    intro K hK
    simp (disch := first | (refine Ok.mk ?_; (try simp only [Lm, La, Lc, Ln, Lt, Ld, Lr, Li, true_or, or_true, true_and, and_true]); omega) | (simp <;> fail) | skip) [runM_nil, hxl, h1, h2, h3, h4, h5]
    refine hK _ _ ?_
    clear hK K
    refine ifT (by simp (disch := first | (refine Ok.mk ?_; (try simp only [Lm, La, Lc, Ln, Lt, Ld, Lr, Li, true_or, or_true, true_and, and_true]); omega) | (simp <;> fail) | skip) [runM_nil]) ?_
    first | refine pwp_sr ?_ | refine pwp_regionM ?_
    intro K hK
    simp (disch := first | (refine Ok.mk ?_; (try simp only [Lm, La, Lc, Ln, Lt, Ld, Lr, Li, true_or, or_true, true_and, and_true]); omega) | (simp <;> fail) | skip) [runM_nil]
    refine hK _ _ ?_
    clear hK K
    refine pwp_retT ⟨.inr rfl, _, _, (by simp (disch := first | (refine Ok.mk ?_; (try simp only [Lm, La, Lc, Ln, Lt, Ld, Lr, Li, true_or, or_true, true_and, and_true]); omega) | (simp <;> fail) | skip) [runM_nil, resL]; rfl), .refl _, by simp (disch := first | (refine Ok.mk ?_; (try simp only [Lm, La, Lc, Ln, Lt, Ld, Lr, Li, true_or, or_true, true_and, and_true]); omega) | (simp <;> fail) | skip) [resV], rfl⟩
theorem rread_ok {s : Nat} {xs : List PV} {o : Bool} {b : List Nat} (hx : xs = b.map u8) (hs : s = 1 ∨ b.length = 0) (hw : ∀ x ∈ b, x < 256) (hl : b.length ≤ 1000000) (f t g : Nat) (h1 : f ≤ t) (h2 : t ≤ b.length) (h3 : g ≤ b.length) :
    PSpec Tryd.prog 24 [.lst s xs o, .int .i64 f, .int .i64 t, .int .i64 g] (.tup [.lst 1 (rowsC (ofW (scanS b).1 f t)) true, .int .i64 (if g < t then 3 else 0)]) := by
  intro H
  have hxl : xs.length = b.length := by rw [hx, List.length_map]
  have c := rscan_ok (o := false) hx hs hw hl
  have c2 := of_ok (l := (scanS b).1) (by have := (scanS_facts hw).1; omega) (fun p hp => ((scanS_facts hw).2.1 p hp).1) f t (o := false)
  have i1 : ¬ ((f : Int) < 0) := by omega
  have i2 : ¬ ((t : Int) < f) := by omega
  have i3 : ¬ ((b.length : Int) < t) := by omega
  have i4 : ¬ ((g : Int) < 0) := by omega
  have i5 : ¬ ((b.length : Int) < g) := by omega
  simp only [scW, scWo] at c
  generalize ofW (scanS b).1 f t = A at *
  generalize scanS b = S at *
  refine spec_of t24 (by simp [p24]) ?_
  simp only [p24]
  first | refine pwp_sr ?_ | refine pwp_regionM ?_
  intro K hK
  simp (disch := first | (refine Ok.mk ?_; (try simp only [Lm, La, Lc, Ln, Lt, Ld, Lr, Li, true_or, or_true, true_and, and_true]); omega) | (simp <;> fail) | skip) [runM_nil]
  refine hK _ _ ?_
  clear hK K
  first | refine pwp_rif ?_ | refine pwp_rifE ?_
  intro K hK
  simp (disch := first | (refine Ok.mk ?_; (try simp only [Lm, La, Lc, Ln, Lt, Ld, Lr, Li, true_or, or_true, true_and, and_true]); omega) | (simp <;> fail) | skip) [runM_nil, hxl, i1, i2, i3, i4, i5]
  refine hK _ _ ?_
  clear hK K
  refine ifF (by simp [runM_nil, i1, i2, i3, i4, i5]) (pwp_skip ?_)
  first | refine pwp_sr ?_ | refine pwp_regionM ?_
  intro K hK
  simp (disch := first | (refine Ok.mk ?_; (try simp only [Lm, La, Lc, Ln, Lt, Ld, Lr, Li, true_or, or_true, true_and, and_true]); omega) | (simp <;> fail) | skip) [runM_nil]
  refine useP (c) ?_
  simp (disch := first | (refine Ok.mk ?_; (try simp only [Lm, La, Lc, Ln, Lt, Ld, Lr, Li, true_or, or_true, true_and, and_true]); omega) | (simp <;> fail) | skip) [runM_nil]
  refine hK _ _ ?_
  clear hK K
  by_cases hgt : g < t
  · first | refine pwp_rif ?_ | refine pwp_rifE ?_
    intro K hK
    simp (disch := first | (refine Ok.mk ?_; (try simp only [Lm, La, Lc, Ln, Lt, Ld, Lr, Li, true_or, or_true, true_and, and_true]); omega) | (simp <;> fail) | skip) [runM_nil, hgt]
    refine hK _ _ ?_
    clear hK K
    refine ifT (by simp (disch := first | (refine Ok.mk ?_; (try simp only [Lm, La, Lc, Ln, Lt, Ld, Lr, Li, true_or, or_true, true_and, and_true]); omega) | (simp <;> fail) | skip) [runM_nil]) ?_
    first | refine pwp_sr ?_ | refine pwp_regionM ?_
    intro K hK
    simp (disch := first | (refine Ok.mk ?_; (try simp only [Lm, La, Lc, Ln, Lt, Ld, Lr, Li, true_or, or_true, true_and, and_true]); omega) | (simp <;> fail) | skip) [runM_nil]
    refine useP (c2) ?_
    simp (disch := first | (refine Ok.mk ?_; (try simp only [Lm, La, Lc, Ln, Lt, Ld, Lr, Li, true_or, or_true, true_and, and_true]); omega) | (simp <;> fail) | skip) [runM_nil]
    refine hK _ _ ?_
    clear hK K
    refine pwp_retT ⟨.inr rfl, _, _, (by simp [runM_nil, resL]; rfl), .refl _, by simp [resV, hgt], rfl⟩
  · first | refine pwp_rif ?_ | refine pwp_rifE ?_
    intro K hK
    simp (disch := first | (refine Ok.mk ?_; (try simp only [Lm, La, Lc, Ln, Lt, Ld, Lr, Li, true_or, or_true, true_and, and_true]); omega) | (simp <;> fail) | skip) [runM_nil, hgt]
    refine hK _ _ ?_
    clear hK K
    refine ifF (by simp [runM_nil, hgt]) (pwp_skip ?_)
    first | refine pwp_sr ?_ | refine pwp_regionM ?_
    intro K hK
    simp (disch := first | (refine Ok.mk ?_; (try simp only [Lm, La, Lc, Ln, Lt, Ld, Lr, Li, true_or, or_true, true_and, and_true]); omega) | (simp <;> fail) | skip) [runM_nil]
    refine useP (c2) ?_
    simp (disch := first | (refine Ok.mk ?_; (try simp only [Lm, La, Lc, Ln, Lt, Ld, Lr, Li, true_or, or_true, true_and, and_true]); omega) | (simp <;> fail) | skip) [runM_nil]
    refine hK _ _ ?_
    clear hK K
    refine pwp_ret ⟨.inr rfl, _, _, (by simp [runM_nil, resL]; rfl), .refl _, by simp [resV, hgt], rfl⟩
end Go.Proofs.YtjcjbpbkakfjdaaDoor.E
/- The live question. -/
namespace Go.Proofs.YtjcjbpbkakfjdaaDoor.E
open Go Go.RowKit Go.Proofs
set_option linter.unusedVariables false
set_option linter.unusedSimpArgs false
def Z7 : List Nat := fileS [[[97], [255, 83]]]
theorem wrS_alive : wrS [[[97], [255, 83]]] = (Z7, 0) := by
  unfold wrS
  rw [if_pos (by decide)]
  rfl
theorem scanS_alive : scanS Z7 = ([(4, [[[97], [255, 83]]])], Z7.length, 0) := by decide +kernel
theorem alive_w : ∃ Z : List Nat, wrS [[[97], [255, 83]]] = (Z, 0) ∧ scanS Z = ([(4, [[[97], [255, 83]]])], Z.length, 0) ∧ Z.length ≤ 100 ∧ ∀ x ∈ Z, x < 256 :=
  ⟨Z7, wrS_alive, scanS_alive, by decide +kernel, by decide +kernel⟩
theorem alive_nil : wrS [] = ([84, 83, 81, 49], 0) := by decide +kernel
theorem alive_in : ∀ r ∈ [[[97], [255, 83]]], ∀ t ∈ r, ∀ x ∈ t, x < 256 := by decide
theorem alive_ok : PSpec Tryd.prog 10 [] (.bool true) := by
  intro H
  have c1 := write_ok (l := []) (s := 0) (xs := []) (o := false) rfl (.inr rfl) (by simp) (by simp) (by simp)
  obtain ⟨Z, e2, e3, hzl, hzw⟩ := alive_w
  have c2 := write_ok (l := [[[97], [255, 83]]]) (s := 1) (xs := rowsC [[[97], [255, 83]]]) (o := false) rfl (.inl rfl) (by simp) (by simp) alive_in
  have c3 := scan_ok (s := 1) (xs := Z.map u8) (o := false) (b := Z) rfl (.inl rfl) hzw (by omega)
  rw [alive_nil] at c1
  rw [e2] at c2
  rw [e3] at c3
  clear e2 e3
  simp only [scW, scWo, rowsC, sV, ci, pcW, List.map_cons, List.map_nil, Int.cast_ofNat_Int] at c2 c3
  dsimp only at c1 c2 c3
  refine spec_of t10 (by simp [p10]) ?_
  simp only [p10]
  first | refine pwp_sr ?_ | refine pwp_regionM ?_
  intro K hK
  simp (disch := first | (refine Ok.mk ?_; (try simp only [Lm, La, Lc, Ln, Lt, Ld, Lr, Li, true_or, or_true, true_and, and_true]); omega) | (simp <;> fail) | skip) [runM_nil]
  refine hK _ _ ?_
  clear hK K
  first | refine pwp_sr ?_ | refine pwp_regionM ?_
  intro K hK
  simp (disch := first | (refine Ok.mk ?_; (try simp only [Lm, La, Lc, Ln, Lt, Ld, Lr, Li, true_or, or_true, true_and, and_true]); omega) | (simp <;> fail) | skip) [runM_nil]
  refine useP (c1) ?_
  simp (disch := first | (refine Ok.mk ?_; (try simp only [Lm, La, Lc, Ln, Lt, Ld, Lr, Li, true_or, or_true, true_and, and_true]); omega) | (simp <;> fail) | skip) [runM_nil]
  refine hK _ _ ?_
  clear hK K
  first | refine pwp_sr ?_ | refine pwp_regionM ?_
  intro K hK
  simp (disch := first | (refine Ok.mk ?_; (try simp only [Lm, La, Lc, Ln, Lt, Ld, Lr, Li, true_or, or_true, true_and, and_true]); omega) | (simp <;> fail) | skip) [runM_nil]
  refine useP (c2) ?_
  simp (disch := first | (refine Ok.mk ?_; (try simp only [Lm, La, Lc, Ln, Lt, Ld, Lr, Li, true_or, or_true, true_and, and_true]); omega) | (simp <;> fail) | skip) [runM_nil]
  refine hK _ _ ?_
  clear hK K
  first | refine pwp_sr ?_ | refine pwp_regionM ?_
  intro K hK
  simp (disch := first | (refine Ok.mk ?_; (try simp only [Lm, La, Lc, Ln, Lt, Ld, Lr, Li, true_or, or_true, true_and, and_true]); omega) | (simp <;> fail) | skip) [runM_nil]
  refine useP (c3) ?_
  simp (disch := first | (refine Ok.mk ?_; (try simp only [Lm, La, Lc, Ln, Lt, Ld, Lr, Li, true_or, or_true, true_and, and_true]); omega) | (simp <;> fail) | skip) [runM_nil]
  refine hK _ _ ?_
  clear hK K
  have hcv : cvSP (.lst 1 [.int .u8 84, .int .u8 83, .int .u8 81, .int .u8 49] false) = some (.str [84, 83, 81, 49]) := rfl
  refine pwp_kept (keep := [1, 2, 3, 4, 5, 6, 7]) (by simp [keepA, getS]; rfl) ?_
  first | refine pwp_sr ?_ | refine pwp_regionM ?_
  intro K hK
  simp (disch := first | (refine Ok.mk ?_; (try simp only [Lm, La, Lc, Ln, Lt, Ld, Lr, Li, true_or, or_true, true_and, and_true]); omega) | (simp <;> fail) | skip) [runM_nil, strP, hcv]
  refine hK _ _ ?_
  clear hK K
  refine pwp_ret ⟨.inr rfl, _, _, (by simp (disch := first | (refine Ok.mk ?_; (try simp only [Lm, La, Lc, Ln, Lt, Ld, Lr, Li, true_or, or_true, true_and, and_true]); omega) | (simp <;> fail) | skip) [runM_nil, resL]; rfl), .refl _, by simp (disch := first | (refine Ok.mk ?_; (try simp only [Lm, La, Lc, Ln, Lt, Ld, Lr, Li, true_or, or_true, true_and, and_true]); omega) | (simp <;> fail) | skip) [resV], rfl⟩
end Go.Proofs.YtjcjbpbkakfjdaaDoor.E
/- A split of any file is as the document says. -/
namespace Go.Proofs.YtjcjbpbkakfjdaaDoor.E
open Go Go.RowKit Go.Proofs
set_option linter.unusedVariables false
set_option linter.unusedSimpArgs false
theorem seqRead_ok {o : Bool} {b : List Nat} (hw : ∀ x ∈ b, x < 256) (hl0 : b.length ≤ 140737488351232) (f t : Int) :
    PSpec Tryd.prog 7 [.lst 1 (b.map u8) o, .int .i64 f, .int .i64 t] (.bool true) := by
  intro H
  have ca := alive_ok
  refine spec_of t7 (by simp [p7]) ?_
  simp only [p7]
  first | refine pwp_sr ?_ | refine pwp_regionM ?_
  intro K hK
  simp (disch := first | (refine Ok.mk ?_; (try simp only [Lm, La, Lc, Ln, Lt, Ld, Lr, Li, true_or, or_true, true_and, and_true]); omega) | (simp <;> fail) | skip) [runM_nil]
  refine hK _ _ ?_
  clear hK K
  rcases Nat.lt_or_ge 3000 b.length with h1 | h1
  · first | refine pwp_rif ?_ | refine pwp_rifE ?_
    intro K hK
    simp (disch := first | (refine Ok.mk ?_; (try simp only [Lm, La, Lc, Ln, Lt, Ld, Lr, Li, true_or, or_true, true_and, and_true]); omega) | (simp <;> fail) | skip) [runM_nil, h1]
    refine hK _ _ ?_
    clear hK K
    refine ifT (by simp (disch := first | (refine Ok.mk ?_; (try simp only [Lm, La, Lc, Ln, Lt, Ld, Lr, Li, true_or, or_true, true_and, and_true]); omega) | (simp <;> fail) | skip) [runM_nil]) ?_
    first | refine pwp_sr ?_ | refine pwp_regionM ?_
    intro K hK
    simp (disch := first | (refine Ok.mk ?_; (try simp only [Lm, La, Lc, Ln, Lt, Ld, Lr, Li, true_or, or_true, true_and, and_true]); omega) | (simp <;> fail) | skip) [runM_nil]
    refine useP (ca) ?_
    simp (disch := first | (refine Ok.mk ?_; (try simp only [Lm, La, Lc, Ln, Lt, Ld, Lr, Li, true_or, or_true, true_and, and_true]); omega) | (simp <;> fail) | skip) [runM_nil]
    refine hK _ _ ?_
    clear hK K
    refine pwp_retT ⟨.inr rfl, _, _, (by simp (disch := first | (refine Ok.mk ?_; (try simp only [Lm, La, Lc, Ln, Lt, Ld, Lr, Li, true_or, or_true, true_and, and_true]); omega) | (simp <;> fail) | skip) [runM_nil, resL]; rfl), .refl _, by simp (disch := first | (refine Ok.mk ?_; (try simp only [Lm, La, Lc, Ln, Lt, Ld, Lr, Li, true_or, or_true, true_and, and_true]); omega) | (simp <;> fail) | skip) [resV], rfl⟩
  have h2 : ¬ 3000 < b.length := by omega
  first | refine pwp_rif ?_ | refine pwp_rifE ?_
  intro K hK
  simp (disch := first | (refine Ok.mk ?_; (try simp only [Lm, La, Lc, Ln, Lt, Ld, Lr, Li, true_or, or_true, true_and, and_true]); omega) | (simp <;> fail) | skip) [runM_nil, h2]
  refine hK _ _ ?_
  clear hK K
  refine ifF (by simp (disch := first | (refine Ok.mk ?_; (try simp only [Lm, La, Lc, Ln, Lt, Ld, Lr, Li, true_or, or_true, true_and, and_true]); omega) | (simp <;> fail) | skip) [runM_nil]) (pwp_skip ?_)
  have c1 := rscan_ok (s := 1) (xs := b.map u8) (o := false) (b := b) rfl (.inl rfl) hw (by omega)
  obtain ⟨s1, s2, hg2⟩ := scanS_facts hw
  have c5 := readBad_ok (s := 1) (xs := b.map u8) (o := false) (b := b) rfl f t ((b.length : Int) + 1) (by omega)
  simp only [scW, scWo] at c1
  by_cases hr : 0 ≤ f ∧ f ≤ t ∧ t ≤ b.length
  · obtain ⟨hr1, hr2, hr3⟩ := hr
    obtain ⟨F, rfl⟩ := Int.eq_ofNat_of_zero_le hr1
    obtain ⟨T, rfl⟩ := Int.eq_ofNat_of_zero_le (Int.le_trans hr1 hr2)
    have c3 := read_ok (s := 1) (xs := b.map u8) (o := false) (b := b) rfl (.inl rfl) hw (by omega) F T (scanS b).2.1 (by omega) (by omega) hg2
    have c4 := rread_ok (s := 1) (xs := b.map u8) (o := false) (b := b) rfl (.inl rfl) hw (by omega) F T (scanS b).2.1 (by omega) (by omega) hg2
    obtain ⟨q1, q2⟩ := ofW_facts hw F T
    rw [rd_split] at c3
    have c6 := recsSame_ok (l := ofW (scanS b).1 F T) (by omega) (fun r hr => by have := (q2 r hr).two; omega) (o := false) (q := false)
    generalize rowsC (ofW (scanS b).1 F T) = R at *
    generalize scanS b = S at *
    obtain ⟨S1, S2, S3⟩ := S
    dsimp only at *
    generalize (if S2 < T then (3 : Int) else 0) = E at *
    first | refine pwp_sr ?_ | refine pwp_regionM ?_
    intro K hK
    simp (disch := first | (refine Ok.mk ?_; (try simp only [Lm, La, Lc, Ln, Lt, Ld, Lr, Li, true_or, or_true, true_and, and_true]); omega) | (simp <;> fail) | skip) [runM_nil]
    refine useP (c1) ?_
    simp (disch := first | (refine Ok.mk ?_; (try simp only [Lm, La, Lc, Ln, Lt, Ld, Lr, Li, true_or, or_true, true_and, and_true]); omega) | (simp <;> fail) | skip) [runM_nil]
    refine hK _ _ ?_
    clear hK K
    first | refine pwp_sr ?_ | refine pwp_regionM ?_
    intro K hK
    simp (disch := first | (refine Ok.mk ?_; (try simp only [Lm, La, Lc, Ln, Lt, Ld, Lr, Li, true_or, or_true, true_and, and_true]); omega) | (simp <;> fail) | skip) [runM_nil]
    refine useP (c3) ?_
    simp (disch := first | (refine Ok.mk ?_; (try simp only [Lm, La, Lc, Ln, Lt, Ld, Lr, Li, true_or, or_true, true_and, and_true]); omega) | (simp <;> fail) | skip) [runM_nil]
    refine hK _ _ ?_
    clear hK K
    first | refine pwp_sr ?_ | refine pwp_regionM ?_
    intro K hK
    simp (disch := first | (refine Ok.mk ?_; (try simp only [Lm, La, Lc, Ln, Lt, Ld, Lr, Li, true_or, or_true, true_and, and_true]); omega) | (simp <;> fail) | skip) [runM_nil]
    refine useP (c4) ?_
    simp (disch := first | (refine Ok.mk ?_; (try simp only [Lm, La, Lc, Ln, Lt, Ld, Lr, Li, true_or, or_true, true_and, and_true]); omega) | (simp <;> fail) | skip) [runM_nil]
    refine hK _ _ ?_
    clear hK K
    first | refine pwp_sr ?_ | refine pwp_regionM ?_
    intro K hK
    simp (disch := first | (refine Ok.mk ?_; (try simp only [Lm, La, Lc, Ln, Lt, Ld, Lr, Li, true_or, or_true, true_and, and_true]); omega) | (simp <;> fail) | skip) [runM_nil]
    refine useP (c5) ?_
    simp (disch := first | (refine Ok.mk ?_; (try simp only [Lm, La, Lc, Ln, Lt, Ld, Lr, Li, true_or, or_true, true_and, and_true]); omega) | (simp <;> fail) | skip) [runM_nil]
    refine hK _ _ ?_
    clear hK K
    first | refine pwp_sr ?_ | refine pwp_regionM ?_
    intro K hK
    simp (disch := first | (refine Ok.mk ?_; (try simp only [Lm, La, Lc, Ln, Lt, Ld, Lr, Li, true_or, or_true, true_and, and_true]); omega) | (simp <;> fail) | skip) [runM_nil]
    refine useP (ca) ?_
    simp (disch := first | (refine Ok.mk ?_; (try simp only [Lm, La, Lc, Ln, Lt, Ld, Lr, Li, true_or, or_true, true_and, and_true]); omega) | (simp <;> fail) | skip) [runM_nil]
    refine useP (c6) ?_
    simp (disch := first | (refine Ok.mk ?_; (try simp only [Lm, La, Lc, Ln, Lt, Ld, Lr, Li, true_or, or_true, true_and, and_true]); omega) | (simp <;> fail) | skip) [runM_nil]
    refine hK _ _ ?_
    clear hK K
    refine pwp_ret ⟨.inr rfl, _, _, (by simp (disch := first | (refine Ok.mk ?_; (try simp only [Lm, La, Lc, Ln, Lt, Ld, Lr, Li, true_or, or_true, true_and, and_true]); omega) | (simp <;> fail) | skip) [runM_nil, resL]; rfl), .refl _, by simp (disch := first | (refine Ok.mk ?_; (try simp only [Lm, La, Lc, Ln, Lt, Ld, Lr, Li, true_or, or_true, true_and, and_true]); omega) | (simp <;> fail) | skip) [resV], rfl⟩
  · have c3 := readBad_ok (s := 1) (xs := b.map u8) (o := false) (b := b) rfl f t ((scanS b).2.1 : Nat) (by omega)
    have c4 := rreadBad_ok (s := 1) (xs := b.map u8) (o := false) (b := b) rfl f t ((scanS b).2.1 : Nat) (by omega)
    have c6 := recsNil_ok (o := false) (q := false)
    generalize scanS b = S at *
    obtain ⟨S1, S2, S3⟩ := S
    dsimp only at *
    first | refine pwp_sr ?_ | refine pwp_regionM ?_
    intro K hK
    simp (disch := first | (refine Ok.mk ?_; (try simp only [Lm, La, Lc, Ln, Lt, Ld, Lr, Li, true_or, or_true, true_and, and_true]); omega) | (simp <;> fail) | skip) [runM_nil]
    refine useP (c1) ?_
    simp (disch := first | (refine Ok.mk ?_; (try simp only [Lm, La, Lc, Ln, Lt, Ld, Lr, Li, true_or, or_true, true_and, and_true]); omega) | (simp <;> fail) | skip) [runM_nil]
    refine hK _ _ ?_
    clear hK K
    first | refine pwp_sr ?_ | refine pwp_regionM ?_
    intro K hK
    simp (disch := first | (refine Ok.mk ?_; (try simp only [Lm, La, Lc, Ln, Lt, Ld, Lr, Li, true_or, or_true, true_and, and_true]); omega) | (simp <;> fail) | skip) [runM_nil]
    refine useP (c3) ?_
    simp (disch := first | (refine Ok.mk ?_; (try simp only [Lm, La, Lc, Ln, Lt, Ld, Lr, Li, true_or, or_true, true_and, and_true]); omega) | (simp <;> fail) | skip) [runM_nil]
    refine hK _ _ ?_
    clear hK K
    first | refine pwp_sr ?_ | refine pwp_regionM ?_
    intro K hK
    simp (disch := first | (refine Ok.mk ?_; (try simp only [Lm, La, Lc, Ln, Lt, Ld, Lr, Li, true_or, or_true, true_and, and_true]); omega) | (simp <;> fail) | skip) [runM_nil]
    refine useP (c4) ?_
    simp (disch := first | (refine Ok.mk ?_; (try simp only [Lm, La, Lc, Ln, Lt, Ld, Lr, Li, true_or, or_true, true_and, and_true]); omega) | (simp <;> fail) | skip) [runM_nil]
    refine hK _ _ ?_
    clear hK K
    first | refine pwp_sr ?_ | refine pwp_regionM ?_
    intro K hK
    simp (disch := first | (refine Ok.mk ?_; (try simp only [Lm, La, Lc, Ln, Lt, Ld, Lr, Li, true_or, or_true, true_and, and_true]); omega) | (simp <;> fail) | skip) [runM_nil]
    refine useP (c5) ?_
    simp (disch := first | (refine Ok.mk ?_; (try simp only [Lm, La, Lc, Ln, Lt, Ld, Lr, Li, true_or, or_true, true_and, and_true]); omega) | (simp <;> fail) | skip) [runM_nil]
    refine hK _ _ ?_
    clear hK K
    first | refine pwp_sr ?_ | refine pwp_regionM ?_
    intro K hK
    simp (disch := first | (refine Ok.mk ?_; (try simp only [Lm, La, Lc, Ln, Lt, Ld, Lr, Li, true_or, or_true, true_and, and_true]); omega) | (simp <;> fail) | skip) [runM_nil]
    refine useP (ca) ?_
    simp (disch := first | (refine Ok.mk ?_; (try simp only [Lm, La, Lc, Ln, Lt, Ld, Lr, Li, true_or, or_true, true_and, and_true]); omega) | (simp <;> fail) | skip) [runM_nil]
    refine useP (c6) ?_
    simp (disch := first | (refine Ok.mk ?_; (try simp only [Lm, La, Lc, Ln, Lt, Ld, Lr, Li, true_or, or_true, true_and, and_true]); omega) | (simp <;> fail) | skip) [runM_nil]
    refine hK _ _ ?_
    clear hK K
    refine pwp_ret ⟨.inr rfl, _, _, (by simp (disch := first | (refine Ok.mk ?_; (try simp only [Lm, La, Lc, Ln, Lt, Ld, Lr, Li, true_or, or_true, true_and, and_true]); omega) | (simp <;> fail) | skip) [runM_nil, resL]; rfl), .refl _, by simp (disch := first | (refine Ok.mk ?_; (try simp only [Lm, La, Lc, Ln, Lt, Ld, Lr, Li, true_or, or_true, true_and, and_true]); omega) | (simp <;> fail) | skip) [resV], rfl⟩
end Go.Proofs.YtjcjbpbkakfjdaaDoor.E
/- What a row hands over, as bytes and numbers. -/
namespace Go.Proofs.YtjcjbpbkakfjdaaDoor.E
open Go Go.RowKit Go.Proofs Go.ChangeShapes Go.WideShapes
set_option linter.unusedVariables false
set_option linter.unusedSimpArgs false
theorem bytes_of {xs : List PV} (h : ∀ x ∈ xs, el false (fun ps => ∃ n : Int, ps = [.int .u8 n] ∧ (Lit.int .u8 n).wf = true) x) : ∃ l : List Nat, xs = l.map u8 ∧ ∀ x ∈ l, x < 256 := by
  induction xs with
  | nil => exact ⟨[], rfl, fun c hc => by cases hc⟩
  | cons x xs ih =>
    obtain ⟨l, rfl, hl⟩ := ih fun y hy => h y (List.mem_cons_of_mem _ hy)
    obtain ⟨n, e, hn⟩ := h x (List.mem_cons_self ..)
    cases e
    have hw : 0 ≤ n ∧ n ≤ 255 := by simpa [Lit.wf, IntKind.min, IntKind.max, IntKind.signed, IntKind.bits] using hn
    refine ⟨n.toNat :: l, ?_, fun c hc => ?_⟩
    · have : ((n.toNat : Nat) : Int) = n := by omega
      simp [u8, this]
    · rcases List.mem_cons.1 hc with rfl | hc
      · omega
      · exact hl c hc
theorem openBytes : OpnV Tryd.prog 23 1 (fun ps => ∃ l : List Nat, ps = [.lst 1 (l.map u8) false] ∧ (∀ x ∈ l, x < 256) ∧ l.length ≤ 140737488351232) :=
  (OpnV.slice (B := 1) false Tryd.underlying23 (by kernel_rfl) (by kernel_rfl) (OpnV.int Tryd.underlying5 (by kernel_rfl)) (fun _ => rfl) (by omega)).weaken (by
    rintro _ ⟨xs, rfl, h1, _, h2⟩
    obtain ⟨l, rfl, h3⟩ := bytes_of h2
    rw [List.length_map] at h1
    exact ⟨l, rfl, h3, by omega⟩)
theorem openIntB : OpnV Tryd.prog 3 1 (fun ps => ∃ n : Int, ps = [.int .i64 n] ∧ -9223372036854775808 ≤ n ∧ n ≤ 9223372036854775807) := (OpnV.int Tryd.underlying3 (by kernel_rfl)).weaken (by
  rintro _ ⟨n, rfl, h⟩
  have hw : -9223372036854775808 ≤ n ∧ n ≤ 9223372036854775807 := by simpa [Lit.wf, IntKind.min, IntKind.max, IntKind.signed, IntKind.bits] using h
  exact ⟨n, rfl, hw⟩)
end Go.Proofs.YtjcjbpbkakfjdaaDoor.E
