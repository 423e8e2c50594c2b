/- Part 3 of the proof of CsvQuotes: what the program's functions come to. -/
import Derived.KernelRfl
import Derived.Laws.Externs
import Derived.Shelf.Bytes.SlCountOne
import Derived.Test.YtdphjapaoaokmaaDoorJCsvQuotes2
/- A reader's other steps. -/
namespace Go.Proofs.YtdphjapaoaokmaaDoor.E
open Go Go.RowKit Go.Proofs
set_option linter.unusedVariables false
set_option linter.unusedSimpArgs false
section
variable {r so sc : Nat} {out : List (List Nat)} {cur : List Nat} {c : Nat} {H : Heap}
theorem plain_ok (ho : so = 1 ∨ so = 0 ∧ out.length = 0) (hc : sc = 1 ∨ sc = 0 ∧ cur.length = 0) (hw : ∀ x ∈ cur, x < 256) (hol : out.length ≤ 60) (hcl : cur.length ≤ 1000) :
    SpecH Tryd.prog 52 ((r, rdV so sc out cur false 0) :: H) [.ptr (some (r, 0)), .int .u8 c] (AnsM r H (plainM out cur c)) := by
  have cb := behind_ok (r := r) (H := H) (c := c) ho hc hw hol hcl
  have cw := wrong_ok (r := r) (H := H) (so := so) (sc := sc) (out := out) (cur := cur) (c := c)
  have ca := add_ok (r := r) (H := H) (c := c) ho hc hcl
  unfold plainM
  refine spec_of t52 (by simp [p52]) ?_
  simp only [p52]
  simp only [rdV] at cb cw ca ⊢
  first | refine pwp_sr ?_ | refine pwp_regionM ?_
  intro K hK
  simp (disch := first | (refine Ok.mk ?_; (try simp only [Lm, La, Lc, Ln, Lt, Ld, Lr, Li, true_or, or_true, true_and, and_true]); omega) | (simp <;> fail) | skip) [runM_nil]
  refine hK _ _ ?_
  clear hK K
  refine pwp_seq ?_
  first | refine pwp_sr ?_ | refine pwp_regionM ?_
  intro K hK
  simp (disch := first | (refine Ok.mk ?_; (try simp only [Lm, La, Lc, Ln, Lt, Ld, Lr, Li, true_or, or_true, true_and, and_true]); omega) | (simp <;> fail) | skip) [runM_nil]
  refine hK _ _ ?_
  clear hK K
  refine pwp_block ?_
  by_cases h : c = 44 ∨ c = 10 ∨ c = 13
  · rw [if_pos h]
    refine pwp_cut [0, 1, 6] (fun st' H' => H' = (r, [.lst so (out.map sV) true, .lst sc (cur.map u8) true, .bool false, .int .i64 0]) :: H ∧ st' = MS 23 [(0, .ptr (some (r, 0))), (1, .int .u8 c), (6, .bool true)]) ?_ ?_
    · by_cases h1 : c = 44
      · subst h1
        first | refine pwp_rif ?_ | refine pwp_rifE ?_
        intro K hK
        simp (disch := first | (refine Ok.mk ?_; (try simp only [Lm, La, Lc, Ln, Lt, Ld, Lr, Li, true_or, or_true, true_and, and_true]); omega) | (simp <;> fail) | skip) [runM_nil]
        refine hK _ _ ?_
        clear hK K
        refine ifT (by simp [runM_nil]) (pwp_skip ?_)
        exact cut_to (by simp [keepA, getS]) (.refl _) ⟨rfl, rfl⟩
      · have g1 : ¬ (c : Int) = 44 := by omega
        first | refine pwp_rif ?_ | refine pwp_rifE ?_
        intro K hK
        simp (disch := first | (refine Ok.mk ?_; (try simp only [Lm, La, Lc, Ln, Lt, Ld, Lr, Li, true_or, or_true, true_and, and_true]); omega) | (simp <;> fail) | skip) [runM_nil, g1]
        refine hK _ _ ?_
        clear hK K
        refine ifF (by simp [runM_nil, g1]) ?_
        by_cases h2 : c = 10
        · subst h2
          first | refine pwp_rif ?_ | refine pwp_rifE ?_
          intro K hK
          simp (disch := first | (refine Ok.mk ?_; (try simp only [Lm, La, Lc, Ln, Lt, Ld, Lr, Li, true_or, or_true, true_and, and_true]); omega) | (simp <;> fail) | skip) [runM_nil]
          refine hK _ _ ?_
          clear hK K
          refine ifT (by simp [runM_nil]) (pwp_skip ?_)
          exact cut_to (by simp [keepA, getS]) (.refl _) ⟨rfl, rfl⟩
        · have g2 : ¬ (c : Int) = 10 := by omega
          obtain rfl : c = 13 := by omega
          first | refine pwp_rif ?_ | refine pwp_rifE ?_
          intro K hK
          simp (disch := first | (refine Ok.mk ?_; (try simp only [Lm, La, Lc, Ln, Lt, Ld, Lr, Li, true_or, or_true, true_and, and_true]); omega) | (simp <;> fail) | skip) [runM_nil, g2]
          refine hK _ _ ?_
          clear hK K
          refine ifF (by simp [runM_nil, g2]) ?_
          first | refine pwp_sr ?_ | refine pwp_regionM ?_
          intro K hK
          simp (disch := first | (refine Ok.mk ?_; (try simp only [Lm, La, Lc, Ln, Lt, Ld, Lr, Li, true_or, or_true, true_and, and_true]); omega) | (simp <;> fail) | skip) [runM_nil]
          refine hK _ _ ?_
          clear hK K
          exact cut_to (by simp [keepA, getS]) (.refl _) ⟨rfl, rfl⟩
    · rintro _ _ ⟨rfl, rfl⟩
      refine pwp_cT (by simp) ?_
      first | refine pwp_sr ?_ | refine pwp_regionM ?_
      intro K hK
      simp (disch := first | (refine Ok.mk ?_; (try simp only [Lm, La, Lc, Ln, Lt, Ld, Lr, Li, true_or, or_true, true_and, and_true]); omega) | (simp <;> fail) | skip) [runM_nil]
      refine useH cb ?_
      try simp (disch := first | (refine Ok.mk ?_; (try simp only [Lm, La, Lc, Ln, Lt, Ld, Lr, Li, true_or, or_true, true_and, and_true]); omega) | (simp <;> fail) | skip) [runM_nil]
      intro v H' hv
      try simp (disch := first | (refine Ok.mk ?_; (try simp only [Lm, La, Lc, Ln, Lt, Ld, Lr, Li, true_or, or_true, true_and, and_true]); omega) | (simp <;> fail) | skip) [runM_nil]
      refine hK _ _ ?_
      clear hK K
      refine pwp_ret ⟨.inr rfl, _, _, (by simp [runM_nil, resL]; rfl), .refl _, by simpa [resV] using hv⟩
  · obtain ⟨h1, h2, h3⟩ : ¬ c = 44 ∧ ¬ c = 10 ∧ ¬ c = 13 := by omega
    have g1 : ¬ (c : Int) = 44 := by omega
    have g2 : ¬ (c : Int) = 10 := by omega
    have g3 : ¬ (c : Int) = 13 := by omega
    rw [if_neg h]
    refine pwp_seq ?_
    first | refine pwp_rif ?_ | refine pwp_rifE ?_
    intro K hK
    simp (disch := first | (refine Ok.mk ?_; (try simp only [Lm, La, Lc, Ln, Lt, Ld, Lr, Li, true_or, or_true, true_and, and_true]); omega) | (simp <;> fail) | skip) [runM_nil, g1]
    refine hK _ _ ?_
    clear hK K
    refine ifF (by simp [runM_nil, g1]) ?_
    first | refine pwp_rif ?_ | refine pwp_rifE ?_
    intro K hK
    simp (disch := first | (refine Ok.mk ?_; (try simp only [Lm, La, Lc, Ln, Lt, Ld, Lr, Li, true_or, or_true, true_and, and_true]); omega) | (simp <;> fail) | skip) [runM_nil, g2]
    refine hK _ _ ?_
    clear hK K
    refine ifF (by simp [runM_nil, g2]) ?_
    first | refine pwp_sr ?_ | refine pwp_regionM ?_
    intro K hK
    simp (disch := first | (refine Ok.mk ?_; (try simp only [Lm, La, Lc, Ln, Lt, Ld, Lr, Li, true_or, or_true, true_and, and_true]); omega) | (simp <;> fail) | skip) [runM_nil, g3]
    refine hK _ _ ?_
    clear hK K
    refine pwp_cF (by simp) ?_
    by_cases h4 : c = 34
    · subst h4
      first | refine pwp_rif ?_ | refine pwp_rifE ?_
      intro K hK
      simp (disch := first | (refine Ok.mk ?_; (try simp only [Lm, La, Lc, Ln, Lt, Ld, Lr, Li, true_or, or_true, true_and, and_true]); omega) | (simp <;> fail) | skip) [runM_nil]
      refine hK _ _ ?_
      clear hK K
      refine ifT (by simp (disch := first | (refine Ok.mk ?_; (try simp only [Lm, La, Lc, Ln, Lt, Ld, Lr, Li, true_or, or_true, true_and, and_true]); omega) | (simp <;> fail) | skip) [runM_nil]) ?_
      first | refine pwp_sr ?_ | refine pwp_regionM ?_
      intro K hK
      simp (disch := first | (refine Ok.mk ?_; (try simp only [Lm, La, Lc, Ln, Lt, Ld, Lr, Li, true_or, or_true, true_and, and_true]); omega) | (simp <;> fail) | skip) [runM_nil]
      refine useH cw ?_
      try simp (disch := first | (refine Ok.mk ?_; (try simp only [Lm, La, Lc, Ln, Lt, Ld, Lr, Li, true_or, or_true, true_and, and_true]); omega) | (simp <;> fail) | skip) [runM_nil]
      refine hK _ _ ?_
      clear hK K
      refine pwp_ret ⟨.inr rfl, _, _, (by simp [runM_nil, resL]; rfl), .refl _, by simp [resV, mdV], so, sc, ho, hc, by simp [rdV]⟩
    · have g4 : ¬ (c : Int) = 34 := by omega
      rw [if_neg h4]
      first | refine pwp_rif ?_ | refine pwp_rifE ?_
      intro K hK
      simp (disch := first | (refine Ok.mk ?_; (try simp only [Lm, La, Lc, Ln, Lt, Ld, Lr, Li, true_or, or_true, true_and, and_true]); omega) | (simp <;> fail) | skip) [runM_nil, g4]
      refine hK _ _ ?_
      clear hK K
      refine ifF (by simp [runM_nil, g4]) (pwp_skip ?_)
      first | refine pwp_sr ?_ | refine pwp_regionM ?_
      intro K hK
      simp (disch := first | (refine Ok.mk ?_; (try simp only [Lm, La, Lc, Ln, Lt, Ld, Lr, Li, true_or, or_true, true_and, and_true]); omega) | (simp <;> fail) | skip) [runM_nil]
      refine useH ca ?_
      try simp (disch := first | (refine Ok.mk ?_; (try simp only [Lm, La, Lc, Ln, Lt, Ld, Lr, Li, true_or, or_true, true_and, and_true]); omega) | (simp <;> fail) | skip) [runM_nil]
      refine hK _ _ ?_
      clear hK K
      first | refine pwp_sr ?_ | refine pwp_regionM ?_
      intro K hK
      simp (disch := first | (refine Ok.mk ?_; (try simp only [Lm, La, Lc, Ln, Lt, Ld, Lr, Li, true_or, or_true, true_and, and_true]); omega) | (simp <;> fail) | skip) [runM_nil]
      refine hK _ _ ?_
      clear hK K
      refine pwp_ret ⟨.inr rfl, _, _, (by simp [runM_nil, resL]; rfl), .refl _, by simp [resV, mdV, addM], so, 1, ho, .inl rfl, by simp [rdV, addM]⟩
theorem begin_ok (ho : so = 1 ∨ so = 0 ∧ out.length = 0) (hc : sc = 1 ∨ sc = 0 ∧ cur.length = 0) (hw : ∀ x ∈ cur, x < 256) (hol : out.length ≤ 60) (hcl : cur.length ≤ 1000) :
    SpecH Tryd.prog 32 ((r, rdV so sc out cur false 0) :: H) [.ptr (some (r, 0)), .int .u8 c] (AnsM r H (stpM .begin out cur c)) := by
  have cp := plain_ok (r := r) (H := H) (c := c) ho hc hw hol hcl
  simp only [stpM]
  refine spec_of t32 (by simp [p32]) ?_
  simp only [p32]
  simp only [rdV] at cp ⊢
  first | refine pwp_sr ?_ | refine pwp_regionM ?_
  intro K hK
  simp (disch := first | (refine Ok.mk ?_; (try simp only [Lm, La, Lc, Ln, Lt, Ld, Lr, Li, true_or, or_true, true_and, and_true]); omega) | (simp <;> fail) | skip) [runM_nil]
  refine hK _ _ ?_
  clear hK K
  by_cases h : c = 34
  · subst h
    first | refine pwp_rif ?_ | refine pwp_rifE ?_
    intro K hK
    simp (disch := first | (refine Ok.mk ?_; (try simp only [Lm, La, Lc, Ln, Lt, Ld, Lr, Li, true_or, or_true, true_and, and_true]); omega) | (simp <;> fail) | skip) [runM_nil]
    refine hK _ _ ?_
    clear hK K
    refine ifT (by simp (disch := first | (refine Ok.mk ?_; (try simp only [Lm, La, Lc, Ln, Lt, Ld, Lr, Li, true_or, or_true, true_and, and_true]); omega) | (simp <;> fail) | skip) [runM_nil]) ?_
    first | refine pwp_sr ?_ | refine pwp_regionM ?_
    intro K hK
    simp (disch := first | (refine Ok.mk ?_; (try simp only [Lm, La, Lc, Ln, Lt, Ld, Lr, Li, true_or, or_true, true_and, and_true]); omega) | (simp <;> fail) | skip) [runM_nil]
    refine hK _ _ ?_
    clear hK K
    refine pwp_retT ⟨.inr rfl, _, _, (by simp [runM_nil, resL]; rfl), .refl _, by simp [resV, mdV], so, sc, ho, hc, by simp [rdV]⟩
  · have g : ¬ (c : Int) = 34 := by omega
    rw [if_neg h]
    first | refine pwp_rif ?_ | refine pwp_rifE ?_
    intro K hK
    simp (disch := first | (refine Ok.mk ?_; (try simp only [Lm, La, Lc, Ln, Lt, Ld, Lr, Li, true_or, or_true, true_and, and_true]); omega) | (simp <;> fail) | skip) [runM_nil, g]
    refine hK _ _ ?_
    clear hK K
    refine ifF (by simp [runM_nil, g]) (pwp_skip ?_)
    first | refine pwp_sr ?_ | refine pwp_regionM ?_
    intro K hK
    simp (disch := first | (refine Ok.mk ?_; (try simp only [Lm, La, Lc, Ln, Lt, Ld, Lr, Li, true_or, or_true, true_and, and_true]); omega) | (simp <;> fail) | skip) [runM_nil]
    refine useH cp ?_
    try simp (disch := first | (refine Ok.mk ?_; (try simp only [Lm, La, Lc, Ln, Lt, Ld, Lr, Li, true_or, or_true, true_and, and_true]); omega) | (simp <;> fail) | skip) [runM_nil]
    intro v H' hv
    try simp (disch := first | (refine Ok.mk ?_; (try simp only [Lm, La, Lc, Ln, Lt, Ld, Lr, Li, true_or, or_true, true_and, and_true]); omega) | (simp <;> fail) | skip) [runM_nil]
    refine hK _ _ ?_
    clear hK K
    refine pwp_ret ⟨.inr rfl, _, _, (by simp [runM_nil, resL]; rfl), .refl _, by simpa [resV] using hv⟩
theorem quoted_ok (ho : so = 1 ∨ so = 0 ∧ out.length = 0) (hc : sc = 1 ∨ sc = 0 ∧ cur.length = 0) (hcl : cur.length ≤ 1000) :
    SpecH Tryd.prog 51 ((r, rdV so sc out cur false 0) :: H) [.ptr (some (r, 0)), .int .u8 c] (AnsM r H (stpM .quoted out cur c)) := by
  have ca := add_ok (r := r) (H := H) (c := c) ho hc hcl
  simp only [stpM]
  refine spec_of t51 (by simp [p51]) ?_
  simp only [p51]
  simp only [rdV] at ca ⊢
  first | refine pwp_sr ?_ | refine pwp_regionM ?_
  intro K hK
  simp (disch := first | (refine Ok.mk ?_; (try simp only [Lm, La, Lc, Ln, Lt, Ld, Lr, Li, true_or, or_true, true_and, and_true]); omega) | (simp <;> fail) | skip) [runM_nil]
  refine hK _ _ ?_
  clear hK K
  by_cases h : c = 34
  · subst h
    first | refine pwp_rif ?_ | refine pwp_rifE ?_
    intro K hK
    simp (disch := first | (refine Ok.mk ?_; (try simp only [Lm, La, Lc, Ln, Lt, Ld, Lr, Li, true_or, or_true, true_and, and_true]); omega) | (simp <;> fail) | skip) [runM_nil]
    refine hK _ _ ?_
    clear hK K
    refine ifT (by simp (disch := first | (refine Ok.mk ?_; (try simp only [Lm, La, Lc, Ln, Lt, Ld, Lr, Li, true_or, or_true, true_and, and_true]); omega) | (simp <;> fail) | skip) [runM_nil]) ?_
    first | refine pwp_sr ?_ | refine pwp_regionM ?_
    intro K hK
    simp (disch := first | (refine Ok.mk ?_; (try simp only [Lm, La, Lc, Ln, Lt, Ld, Lr, Li, true_or, or_true, true_and, and_true]); omega) | (simp <;> fail) | skip) [runM_nil]
    refine hK _ _ ?_
    clear hK K
    refine pwp_retT ⟨.inr rfl, _, _, (by simp [runM_nil, resL]; rfl), .refl _, by simp [resV, mdV], so, sc, ho, hc, by simp [rdV]⟩
  · have g : ¬ (c : Int) = 34 := by omega
    rw [if_neg h]
    first | refine pwp_rif ?_ | refine pwp_rifE ?_
    intro K hK
    simp (disch := first | (refine Ok.mk ?_; (try simp only [Lm, La, Lc, Ln, Lt, Ld, Lr, Li, true_or, or_true, true_and, and_true]); omega) | (simp <;> fail) | skip) [runM_nil, g]
    refine hK _ _ ?_
    clear hK K
    refine ifF (by simp [runM_nil, g]) (pwp_skip ?_)
    first | refine pwp_sr ?_ | refine pwp_regionM ?_
    intro K hK
    simp (disch := first | (refine Ok.mk ?_; (try simp only [Lm, La, Lc, Ln, Lt, Ld, Lr, Li, true_or, or_true, true_and, and_true]); omega) | (simp <;> fail) | skip) [runM_nil]
    refine useH ca ?_
    try simp (disch := first | (refine Ok.mk ?_; (try simp only [Lm, La, Lc, Ln, Lt, Ld, Lr, Li, true_or, or_true, true_and, and_true]); omega) | (simp <;> fail) | skip) [runM_nil]
    refine hK _ _ ?_
    clear hK K
    first | refine pwp_sr ?_ | refine pwp_regionM ?_
    intro K hK
    simp (disch := first | (refine Ok.mk ?_; (try simp only [Lm, La, Lc, Ln, Lt, Ld, Lr, Li, true_or, or_true, true_and, and_true]); omega) | (simp <;> fail) | skip) [runM_nil]
    refine hK _ _ ?_
    clear hK K
    refine pwp_ret ⟨.inr rfl, _, _, (by simp [runM_nil, resL]; rfl), .refl _, by simp [resV, mdV, addM], so, 1, ho, .inl rfl, by simp [rdV, addM]⟩
theorem closed_ok (ho : so = 1 ∨ so = 0 ∧ out.length = 0) (hc : sc = 1 ∨ sc = 0 ∧ cur.length = 0) (hw : ∀ x ∈ cur, x < 256) (hol : out.length ≤ 60) (hcl : cur.length ≤ 1000) :
    SpecH Tryd.prog 66 ((r, rdV so sc out cur false 0) :: H) [.ptr (some (r, 0)), .int .u8 c] (AnsM r H (stpM .closed out cur c)) := by
  have cb := behind_ok (r := r) (H := H) (c := c) ho hc hw hol hcl
  have ca := add_ok (r := r) (H := H) (c := c) ho hc hcl
  simp only [stpM]
  refine spec_of t66 (by simp [p66]) ?_
  simp only [p66]
  simp only [rdV] at cb ca ⊢
  first | refine pwp_sr ?_ | refine pwp_regionM ?_
  intro K hK
  simp (disch := first | (refine Ok.mk ?_; (try simp only [Lm, La, Lc, Ln, Lt, Ld, Lr, Li, true_or, or_true, true_and, and_true]); omega) | (simp <;> fail) | skip) [runM_nil]
  refine hK _ _ ?_
  clear hK K
  by_cases h : c = 34
  · subst h
    first | refine pwp_rif ?_ | refine pwp_rifE ?_
    intro K hK
    simp (disch := first | (refine Ok.mk ?_; (try simp only [Lm, La, Lc, Ln, Lt, Ld, Lr, Li, true_or, or_true, true_and, and_true]); omega) | (simp <;> fail) | skip) [runM_nil]
    refine hK _ _ ?_
    clear hK K
    refine ifT (by simp (disch := first | (refine Ok.mk ?_; (try simp only [Lm, La, Lc, Ln, Lt, Ld, Lr, Li, true_or, or_true, true_and, and_true]); omega) | (simp <;> fail) | skip) [runM_nil]) ?_
    first | refine pwp_sr ?_ | refine pwp_regionM ?_
    intro K hK
    simp (disch := first | (refine Ok.mk ?_; (try simp only [Lm, La, Lc, Ln, Lt, Ld, Lr, Li, true_or, or_true, true_and, and_true]); omega) | (simp <;> fail) | skip) [runM_nil]
    refine useH ca ?_
    try simp (disch := first | (refine Ok.mk ?_; (try simp only [Lm, La, Lc, Ln, Lt, Ld, Lr, Li, true_or, or_true, true_and, and_true]); omega) | (simp <;> fail) | skip) [runM_nil]
    refine hK _ _ ?_
    clear hK K
    first | refine pwp_sr ?_ | refine pwp_regionM ?_
    intro K hK
    simp (disch := first | (refine Ok.mk ?_; (try simp only [Lm, La, Lc, Ln, Lt, Ld, Lr, Li, true_or, or_true, true_and, and_true]); omega) | (simp <;> fail) | skip) [runM_nil]
    refine hK _ _ ?_
    clear hK K
    refine pwp_retT ⟨.inr rfl, _, _, (by simp [runM_nil, resL]; rfl), .refl _, by simp [resV, mdV, addM], so, 1, ho, .inl rfl, by simp [rdV, addM]⟩
  · have g : ¬ (c : Int) = 34 := by omega
    rw [if_neg h]
    first | refine pwp_rif ?_ | refine pwp_rifE ?_
    intro K hK
    simp (disch := first | (refine Ok.mk ?_; (try simp only [Lm, La, Lc, Ln, Lt, Ld, Lr, Li, true_or, or_true, true_and, and_true]); omega) | (simp <;> fail) | skip) [runM_nil, g]
    refine hK _ _ ?_
    clear hK K
    refine ifF (by simp [runM_nil, g]) (pwp_skip ?_)
    first | refine pwp_sr ?_ | refine pwp_regionM ?_
    intro K hK
    simp (disch := first | (refine Ok.mk ?_; (try simp only [Lm, La, Lc, Ln, Lt, Ld, Lr, Li, true_or, or_true, true_and, and_true]); omega) | (simp <;> fail) | skip) [runM_nil]
    refine useH cb ?_
    try simp (disch := first | (refine Ok.mk ?_; (try simp only [Lm, La, Lc, Ln, Lt, Ld, Lr, Li, true_or, or_true, true_and, and_true]); omega) | (simp <;> fail) | skip) [runM_nil]
    intro v H' hv
    try simp (disch := first | (refine Ok.mk ?_; (try simp only [Lm, La, Lc, Ln, Lt, Ld, Lr, Li, true_or, or_true, true_and, and_true]); omega) | (simp <;> fail) | skip) [runM_nil]
    refine hK _ _ ?_
    clear hK K
    refine pwp_ret ⟨.inr rfl, _, _, (by simp [runM_nil, resL]; rfl), .refl _, by simpa [resV] using hv⟩
theorem ended_ok (ho : so = 1 ∨ so = 0 ∧ out.length = 0) (hc : sc = 1 ∨ sc = 0 ∧ cur.length = 0) (hw : ∀ x ∈ cur, x < 256) (hol : out.length ≤ 60) (hcl : cur.length ≤ 1000) :
    SpecH Tryd.prog 76 ((r, rdV so sc out cur false 0) :: H) [.ptr (some (r, 0)), .int .u8 c] (AnsM r H (stpM .ended out cur c)) := by
  have cb := behind_ok (r := r) (H := H) (c := c) ho hc hw hol hcl
  have cw := wrong_ok (r := r) (H := H) (so := so) (sc := sc) (out := out) (cur := cur) (c := c)
  simp only [stpM]
  refine spec_of t76 (by simp [p76]) ?_
  simp only [p76]
  simp only [rdV] at cb cw ⊢
  first | refine pwp_sr ?_ | refine pwp_regionM ?_
  intro K hK
  simp (disch := first | (refine Ok.mk ?_; (try simp only [Lm, La, Lc, Ln, Lt, Ld, Lr, Li, true_or, or_true, true_and, and_true]); omega) | (simp <;> fail) | skip) [runM_nil]
  refine hK _ _ ?_
  clear hK K
  by_cases h : c = 10
  · subst h
    first | refine pwp_rif ?_ | refine pwp_rifE ?_
    intro K hK
    simp (disch := first | (refine Ok.mk ?_; (try simp only [Lm, La, Lc, Ln, Lt, Ld, Lr, Li, true_or, or_true, true_and, and_true]); omega) | (simp <;> fail) | skip) [runM_nil]
    refine hK _ _ ?_
    clear hK K
    refine ifF (by simp (disch := first | (refine Ok.mk ?_; (try simp only [Lm, La, Lc, Ln, Lt, Ld, Lr, Li, true_or, or_true, true_and, and_true]); omega) | (simp <;> fail) | skip) [runM_nil]) (pwp_skip ?_)
    first | refine pwp_sr ?_ | refine pwp_regionM ?_
    intro K hK
    simp (disch := first | (refine Ok.mk ?_; (try simp only [Lm, La, Lc, Ln, Lt, Ld, Lr, Li, true_or, or_true, true_and, and_true]); omega) | (simp <;> fail) | skip) [runM_nil]
    refine useH cb ?_
    try simp (disch := first | (refine Ok.mk ?_; (try simp only [Lm, La, Lc, Ln, Lt, Ld, Lr, Li, true_or, or_true, true_and, and_true]); omega) | (simp <;> fail) | skip) [runM_nil]
    intro v H' hv
    try simp (disch := first | (refine Ok.mk ?_; (try simp only [Lm, La, Lc, Ln, Lt, Ld, Lr, Li, true_or, or_true, true_and, and_true]); omega) | (simp <;> fail) | skip) [runM_nil]
    refine hK _ _ ?_
    clear hK K
    refine pwp_ret ⟨.inr rfl, _, _, (by simp [runM_nil, resL]; rfl), .refl _, by simpa [resV] using hv⟩
  · have g : ¬ (c : Int) = 10 := by omega
    rw [if_neg h]
    first | refine pwp_rif ?_ | refine pwp_rifE ?_
    intro K hK
    simp (disch := first | (refine Ok.mk ?_; (try simp only [Lm, La, Lc, Ln, Lt, Ld, Lr, Li, true_or, or_true, true_and, and_true]); omega) | (simp <;> fail) | skip) [runM_nil, g]
    refine hK _ _ ?_
    clear hK K
    refine ifT (by simp [runM_nil, g]) ?_
    first | refine pwp_sr ?_ | refine pwp_regionM ?_
    intro K hK
    simp (disch := first | (refine Ok.mk ?_; (try simp only [Lm, La, Lc, Ln, Lt, Ld, Lr, Li, true_or, or_true, true_and, and_true]); omega) | (simp <;> fail) | skip) [runM_nil]
    refine useH cw ?_
    try simp (disch := first | (refine Ok.mk ?_; (try simp only [Lm, La, Lc, Ln, Lt, Ld, Lr, Li, true_or, or_true, true_and, and_true]); omega) | (simp <;> fail) | skip) [runM_nil]
    refine hK _ _ ?_
    clear hK K
    refine pwp_retT ⟨.inr rfl, _, _, (by simp [runM_nil, resL]; rfl), .refl _, by simp [resV, mdV], so, sc, ho, hc, by simp [rdV]⟩
end
end Go.Proofs.YtdphjapaoaokmaaDoor.E
/- A record, byte by byte. -/
namespace Go.Proofs.YtdphjapaoaokmaaDoor.E
open Go Go.RowKit Go.Proofs
set_option linter.unusedVariables false
set_option linter.unusedSimpArgs false
def goM : Md → List (List Nat) → List Nat → List Nat → Nat → List (List Nat) × Nat × Nat
  | m, out, cur, [], k => if m = .quoted ∨ m = .ended then ([], 0, 3) else (out ++ [cur], k, 0)
  | m, out, cur, c :: s, k => if (stpM m out cur c).e ≠ 0 then ([], 0, (stpM m out cur c).e) else if (stpM m out cur c).done = true then ((stpM m out cur c).out, k + 1, 0)
    else goM (stpM m out cur c).m (stpM m out cur c).out (stpM m out cur c).cur s (k + 1)
/-- The record from a place on, the place behind it, and what is wrong. -/
def recM (b : List Nat) (k : Nat) : List (List Nat) × Nat × Nat := goM .begin [] [] (b.drop k) k
/-- A state in which a byte is awaited. -/
structure GoodM (m : Md) (out : List (List Nat)) (cur : List Nat) : Prop where
  md : m ≠ .wrong ∧ m ≠ .none
  ol : out.length < 50
  cl : cur.length ≤ 1000
  cw : ∀ x ∈ cur, x < 256
theorem behindM_good {out : List (List Nat)} {cur : List Nat} {c : Nat} (ho : out.length < 50) (hc : cur.length ≤ 1000) (hw : ∀ x ∈ cur, x < 256) (he : (behindM out cur c).e = 0) (hd : (behindM out cur c).done = false) :
    GoodM (behindM out cur c).m (behindM out cur c).out (behindM out cur c).cur ∧ (behindM out cur c).m ≠ .quoted ∧ ((behindM out cur c).m = .ended ↔ c = 13) ∧ c ≠ 34 := by
  unfold behindM at *
  split at he
  · rename_i h
    simp only [if_pos h] at *
    subst h
    refine ⟨⟨by simp, ?_, by simp, by simp⟩, by simp, by simp, by simp⟩
    simp only [List.length_append, List.length_singleton]
    split at he
    · cases he
    · omega
  · rename_i h
    simp only [if_neg h] at *
    split at he
    · rename_i h2
      simp [if_pos h2] at hd
    · rename_i h2
      simp only [if_neg h2] at *
      split at he
      · rename_i h3
        simp only [if_pos h3] at *
        exact ⟨⟨by simp, ho, hc, hw⟩, by simp, by simp [h3], by omega⟩
      · cases he
theorem addM_good {m : Md} {out : List (List Nat)} {cur : List Nat} {c : Nat} (hm : m ≠ .wrong ∧ m ≠ .none) (ho : out.length < 50) (hc : cur.length ≤ 1000) (hw : ∀ x ∈ cur, x < 256) (hcc : c < 256) (he : (addM m out cur c).e = 0) :
    GoodM (addM m out cur c).m (addM m out cur c).out (addM m out cur c).cur := by
  unfold addM at *
  refine ⟨hm, ho, ?_, ?_⟩
  · simp only [List.length_append, List.length_singleton]
    simp only at he
    split at he
    · cases he
    · omega
  · intro x hx
    rcases List.mem_append.1 hx with hx | hx
    · exact hw x hx
    · simp only [List.mem_singleton] at hx
      omega
theorem plainM_good {out : List (List Nat)} {cur : List Nat} {c : Nat} (ho : out.length < 50) (hc : cur.length ≤ 1000) (hw : ∀ x ∈ cur, x < 256) (hcc : c < 256) (he : (plainM out cur c).e = 0) (hd : (plainM out cur c).done = false) :
    GoodM (plainM out cur c).m (plainM out cur c).out (plainM out cur c).cur ∧ (plainM out cur c).m ≠ .quoted ∧ ((plainM out cur c).m = .ended ↔ c = 13) ∧ c ≠ 34 := by
  unfold plainM at *
  split at he
  · rename_i h
    simp only [if_pos h] at *
    exact behindM_good ho hc hw he hd
  · rename_i h
    simp only [if_neg h] at *
    split at he
    · cases he
    · rename_i h2
      simp only [if_neg h2] at *
      exact ⟨addM_good (by simp) ho hc hw hcc he, by simp [addM], by simp [addM]; omega, h2⟩
/-- A step that goes on. -/
theorem stpM_good {m : Md} {out : List (List Nat)} {cur : List Nat} {c : Nat} (h : GoodM m out cur) (hcc : c < 256) (he : (stpM m out cur c).e = 0) (hd : (stpM m out cur c).done = false) :
    GoodM (stpM m out cur c).m (stpM m out cur c).out (stpM m out cur c).cur ∧ ((stpM m out cur c).m = .quoted ↔ ¬ (m = .quoted ↔ c = 34)) ∧ ((stpM m out cur c).m = .ended ↔ c = 13 ∧ m ≠ .quoted) := by
  obtain ⟨hm, ho, hc, hw⟩ := h
  cases m with
  | begin =>
    simp only [stpM] at *
    split at he
    · rename_i h
      simp only [if_pos h] at *
      exact ⟨⟨by simp, ho, hc, hw⟩, by simp [h], by simp [h]⟩
    · rename_i h
      simp only [if_neg h] at *
      obtain ⟨k1, k2, k3, k4⟩ := plainM_good ho hc hw hcc he hd
      exact ⟨k1, by simp [k2, h], by simp [k3]⟩
  | plain =>
    simp only [stpM] at *
    obtain ⟨k1, k2, k3, k4⟩ := plainM_good ho hc hw hcc he hd
    exact ⟨k1, by simp [k2, k4], by simp [k3]⟩
  | quoted =>
    simp only [stpM] at *
    split at he
    · rename_i h
      simp only [if_pos h] at *
      exact ⟨⟨by simp, ho, hc, hw⟩, by simp [h], by simp⟩
    · rename_i h
      simp only [if_neg h] at *
      exact ⟨addM_good (by simp) ho hc hw hcc he, by simp [addM, h], by simp [addM]⟩
  | closed =>
    simp only [stpM] at *
    split at he
    · rename_i h
      simp only [if_pos h] at *
      exact ⟨addM_good (by simp) ho hc hw hcc he, by simp [addM, h], by simp [addM, h]⟩
    · rename_i h
      simp only [if_neg h] at *
      obtain ⟨k1, k2, k3, k4⟩ := behindM_good ho hc hw he hd
      exact ⟨k1, by simp [k2, h], by simp [k3]⟩
  | ended =>
    simp only [stpM] at *
    split at he
    · rename_i h
      simp only [if_pos h] at *
      obtain ⟨k1, k2, k3, k4⟩ := behindM_good ho hc hw he hd
      exact ⟨k1, by simp [k2, k4], by simp [k3]⟩
    · cases he
  | wrong => exact absurd rfl hm.1
  | none => exact absurd rfl hm.2
def fM : Md → Nat
  | .begin => 32
  | .plain => 52
  | .quoted => 51
  | .closed => 66
  | _ => 76
theorem mdV_fn (r : Nat) {m : Md} (h : m ≠ .wrong ∧ m ≠ .none) : mdV r m = .fn (.func (fM m)) [.ptr (some (r, 0))] [] := by
  cases m <;> first | rfl | exact absurd rfl h.1 | exact absurd rfl h.2
theorem stepM_ok {r so sc : Nat} {out : List (List Nat)} {cur : List Nat} {c : Nat} {H : Heap} {m : Md} (h : GoodM m out cur) (ho : so = 1 ∨ so = 0 ∧ out.length = 0) (hc : sc = 1 ∨ sc = 0 ∧ cur.length = 0) :
    SpecH Tryd.prog (fM m) ((r, rdV so sc out cur false 0) :: H) [.ptr (some (r, 0)), .int .u8 c] (AnsM r H (stpM m out cur c)) := by
  obtain ⟨hm, h1, h2, h3⟩ := h
  cases m with
  | begin => exact begin_ok ho hc h3 (by omega) h2
  | plain => exact plain_ok ho hc h3 (by omega) h2
  | quoted => exact quoted_ok ho hc h2
  | closed => exact closed_ok ho hc h3 (by omega) h2
  | ended => exact ended_ok ho hc h3 (by omega) h2
  | wrong => exact absurd rfl hm.1
  | none => exact absurd rfl hm.2
theorem isOpen_ok (r c : Nat) (was : Bool) : PSpec Tryd.prog 33 [.ptr (some (r, 0)), .int .u8 c, .bool was] (.bool (was != decide (c = 34))) := by
  intro H
  refine spec_of t33 (by simp [p33]) ?_
  simp only [p33]
  first | refine pwp_sr ?_ | refine pwp_regionM ?_
  intro K hK
  simp (disch := first | (refine Ok.mk ?_; (try simp only [Lm, La, Lc, Ln, Lt, Ld, Lr, Li, true_or, or_true, true_and, and_true]); omega) | (simp <;> fail) | skip) [runM_nil]
  refine hK _ _ ?_
  clear hK K
  by_cases h : c = 34
  · subst h
    cases was
    · first | refine pwp_sr ?_ | refine pwp_regionM ?_
      intro K hK
      simp (disch := first | (refine Ok.mk ?_; (try simp only [Lm, La, Lc, Ln, Lt, Ld, Lr, Li, true_or, or_true, true_and, and_true]); omega) | (simp <;> fail) | skip) [runM_nil]
      refine hK _ _ ?_
      clear hK K
      refine pwp_ret ⟨.inr rfl, _, _, (by simp (disch := first | (refine Ok.mk ?_; (try simp only [Lm, La, Lc, Ln, Lt, Ld, Lr, Li, true_or, or_true, true_and, and_true]); omega) | (simp <;> fail) | skip) [runM_nil, resL]; rfl), .refl _, by simp (disch := first | (refine Ok.mk ?_; (try simp only [Lm, La, Lc, Ln, Lt, Ld, Lr, Li, true_or, or_true, true_and, and_true]); omega) | (simp <;> fail) | skip) [resV], rfl⟩
    · first | refine pwp_sr ?_ | refine pwp_regionM ?_
      intro K hK
      simp (disch := first | (refine Ok.mk ?_; (try simp only [Lm, La, Lc, Ln, Lt, Ld, Lr, Li, true_or, or_true, true_and, and_true]); omega) | (simp <;> fail) | skip) [runM_nil]
      refine hK _ _ ?_
      clear hK K
      refine pwp_ret ⟨.inr rfl, _, _, (by simp (disch := first | (refine Ok.mk ?_; (try simp only [Lm, La, Lc, Ln, Lt, Ld, Lr, Li, true_or, or_true, true_and, and_true]); omega) | (simp <;> fail) | skip) [runM_nil, resL]; rfl), .refl _, by simp (disch := first | (refine Ok.mk ?_; (try simp only [Lm, La, Lc, Ln, Lt, Ld, Lr, Li, true_or, or_true, true_and, and_true]); omega) | (simp <;> fail) | skip) [resV], rfl⟩
  · have g : ¬ (c : Int) = 34 := by omega
    cases was
    · first | refine pwp_sr ?_ | refine pwp_regionM ?_
      intro K hK
      simp (disch := first | (refine Ok.mk ?_; (try simp only [Lm, La, Lc, Ln, Lt, Ld, Lr, Li, true_or, or_true, true_and, and_true]); omega) | (simp <;> fail) | skip) [runM_nil, g]
      refine hK _ _ ?_
      clear hK K
      refine pwp_ret ⟨.inr rfl, _, _, (by simp (disch := first | (refine Ok.mk ?_; (try simp only [Lm, La, Lc, Ln, Lt, Ld, Lr, Li, true_or, or_true, true_and, and_true]); omega) | (simp <;> fail) | skip) [runM_nil, resL, h]; rfl), .refl _, by simp (disch := first | (refine Ok.mk ?_; (try simp only [Lm, La, Lc, Ln, Lt, Ld, Lr, Li, true_or, or_true, true_and, and_true]); omega) | (simp <;> fail) | skip) [resV, h], rfl⟩
    · first | refine pwp_sr ?_ | refine pwp_regionM ?_
      intro K hK
      simp (disch := first | (refine Ok.mk ?_; (try simp only [Lm, La, Lc, Ln, Lt, Ld, Lr, Li, true_or, or_true, true_and, and_true]); omega) | (simp <;> fail) | skip) [runM_nil, g]
      refine hK _ _ ?_
      clear hK K
      refine pwp_ret ⟨.inr rfl, _, _, (by simp (disch := first | (refine Ok.mk ?_; (try simp only [Lm, La, Lc, Ln, Lt, Ld, Lr, Li, true_or, or_true, true_and, and_true]); omega) | (simp <;> fail) | skip) [runM_nil, resL, h]; rfl), .refl _, by simp (disch := first | (refine Ok.mk ?_; (try simp only [Lm, La, Lc, Ln, Lt, Ld, Lr, Li, true_or, or_true, true_and, and_true]); omega) | (simp <;> fail) | skip) [resV, h], rfl⟩
end Go.Proofs.YtdphjapaoaokmaaDoor.E
/- The next record. -/
namespace Go.Proofs.YtdphjapaoaokmaaDoor.E
open Go Go.RowKit Go.Proofs
set_option linter.unusedVariables false
set_option linter.unusedSimpArgs false
def recV (x : List (List Nat) × Nat × Nat) : PV := .tup [.lst 1 (x.1.map sV) (decide (x.2.2 ≠ 0)), .int .i64 (x.2.1 : Nat), .int .i64 (x.2.2 : Nat)]
theorem next_ok {s : Nat} {xs : List PV} {o : Bool} {b : List Nat} (hx : xs = b.map u8) (hs : s = 1 ∨ b.length = 0) (hw : ∀ x ∈ b, x < 256) (hl : b.length ≤ 1000000) (k0 : Nat) (hk0 : k0 ≤ b.length) :
    PSpec Tryd.prog 24 [.lst s xs o, .int .i64 k0] (recV (recM b k0)) := by
  intro H
  have hmix := mix06
  refine spec_ofU t24 (by simp [p24]) ?_
  simp only [p24]
  first | refine pwp_sr ?_ | refine pwp_regionM ?_
  intro K hK
  simp (disch := first | (refine Ok.mk ?_; (try simp only [Lm, La, Lc, Ln, Lt, Ld, Lr, Li, true_or, or_true, true_and, and_true]); omega) | (simp <;> fail) | skip) [runM_nil]
  refine hK _ _ ?_
  clear hK K
  first | refine pwp_sr ?_ | refine pwp_regionM ?_
  intro K hK
  simp (disch := first | (refine Ok.mk ?_; (try simp only [Lm, La, Lc, Ln, Lt, Ld, Lr, Li, true_or, or_true, true_and, and_true]); omega) | (simp <;> fail) | skip) [runM_nil]
  intro r h_r
  try simp (disch := first | (refine Ok.mk ?_; (try simp only [Lm, La, Lc, Ln, Lt, Ld, Lr, Li, true_or, or_true, true_and, and_true]); omega) | (simp <;> fail) | skip) [runM_nil]
  refine hK _ _ ?_
  clear hK K
  first | refine pwp_sr ?_ | refine pwp_regionM ?_
  intro K hK
  simp (disch := first | (refine Ok.mk ?_; (try simp only [Lm, La, Lc, Ln, Lt, Ld, Lr, Li, true_or, or_true, true_and, and_true]); omega) | (simp <;> fail) | skip) [runM_nil]
  refine hK _ _ ?_
  clear hK K
  first | refine pwp_sr ?_ | refine pwp_regionM ?_
  intro K hK
  simp (disch := first | (refine Ok.mk ?_; (try simp only [Lm, La, Lc, Ln, Lt, Ld, Lr, Li, true_or, or_true, true_and, and_true]); omega) | (simp <;> fail) | skip) [runM_nil]
  refine hK _ _ ?_
  clear hK K
  refine pwp_seq (pwp_block ?_)
  refine pwp_loopK [0, 1, 7, 9, 10, 11] (fun q st H' => ∃ (k : Nat) (m : Md) (out : List (List Nat)) (cur : List Nat) (so sc : Nat), k ≤ b.length ∧ GoodM m out cur ∧ (so = 1 ∨ so = 0 ∧ out.length = 0) ∧ (sc = 1 ∨ sc = 0 ∧ cur.length = 0) ∧ recM b k0 = goM m out cur (b.drop k) k ∧
      q = b.length - k ∧ H' = (r, rdV so sc out cur false 0) :: H ∧ st = MS 75 [(0, .lst s xs o), (1, .int .i64 k), (7, .ptr (some (r, 0))), (9, .bool (decide (m = .quoted))), (10, .bool (decide (m = .ended))), (11, mdV r m)]) (n := b.length - k0)
    ⟨_, .refl _, k0, .begin, [], [], 0, 0, hk0, ⟨by simp, by simp, by simp, by simp⟩, .inr ⟨rfl, rfl⟩, .inr ⟨rfl, rfl⟩, rfl, rfl, by simp [rdV], by simp [keepL_MS, keepA, getS, mdV]⟩ ?_
  rintro q st H' ⟨k, m, out, cur, so, sc, hk, hG, hso, hsc, hrec, rfl, rfl, rfl⟩
  have hxl : xs.length = b.length := by rw [hx, List.length_map]
  by_cases hlt : k < b.length
  · obtain rfl : s = 1 := hs.resolve_right (by omega)
    have hge : b[k]? = some b[k] := List.getElem?_eq_getElem hlt
    have hxg : xs[k]? = some (.int .u8 (b[k] : Nat)) := by rw [hx, List.getElem?_map, hge]; rfl
    have hcb : b[k] < 256 := hw _ (List.getElem_mem hlt)
    rw [List.drop_eq_getElem_cons hlt] at hrec
    generalize b[k] = c at *
    rw [goM] at hrec
    have hgood := fun he hd => stpM_good (c := c) hG hcb he hd
    have cs := stepM_ok (r := r) (H := H) (c := c) hG hso hsc
    rw [mdV_fn r hG.md]
    have hco := isOpen_ok r c (decide (m = .quoted))
    generalize hX : stpM m out cur c = x at *
    refine pwp_seq ?_
    first | refine pwp_sr ?_ | refine pwp_regionM ?_
    intro K hK
    simp (disch := first | (refine Ok.mk ?_; (try simp only [Lm, La, Lc, Ln, Lt, Ld, Lr, Li, true_or, or_true, true_and, and_true]); omega) | (simp <;> fail) | skip) [runM_nil, hxl]
    refine hK _ _ ?_
    clear hK K
    refine pwp_cT (by simp) (pwp_skip ?_)
    refine pwp_seq (pwp_block ?_)
    first | refine pwp_sr ?_ | refine pwp_regionM ?_
    intro K hK
    simp (disch := first | (refine Ok.mk ?_; (try simp only [Lm, La, Lc, Ln, Lt, Ld, Lr, Li, true_or, or_true, true_and, and_true]); omega) | (simp <;> fail) | skip) [runM_nil, hxg, hxl]
    refine hK _ _ ?_
    clear hK K
    first | refine pwp_sr ?_ | refine pwp_regionM ?_
    intro K hK
    simp (disch := first | (refine Ok.mk ?_; (try simp only [Lm, La, Lc, Ln, Lt, Ld, Lr, Li, true_or, or_true, true_and, and_true]); omega) | (simp <;> fail) | skip) [runM_nil]
    refine hK _ _ ?_
    clear hK K
    first | refine pwp_sr ?_ | refine pwp_regionM ?_
    intro K hK
    simp (disch := first | (refine Ok.mk ?_; (try simp only [Lm, La, Lc, Ln, Lt, Ld, Lr, Li, true_or, or_true, true_and, and_true]); omega) | (simp <;> fail) | skip) [runM_nil]
    refine useH cs ?_
    try simp (disch := first | (refine Ok.mk ?_; (try simp only [Lm, La, Lc, Ln, Lt, Ld, Lr, Li, true_or, or_true, true_and, and_true]); omega) | (simp <;> fail) | skip) [runM_nil]
    rintro v H' ⟨rfl, so2, sc2, h1, h2, rfl⟩
    try simp (disch := first | (refine Ok.mk ?_; (try simp only [Lm, La, Lc, Ln, Lt, Ld, Lr, Li, true_or, or_true, true_and, and_true]); omega) | (simp <;> fail) | skip) [runM_nil]
    refine hK _ _ ?_
    clear hK K
    simp only [rdV]
    refine pwp_seq (pwp_block ?_)
    by_cases he : x.e = 0
    · rw [if_neg (by simp [he])] at hrec
      simp only [he]
      first | refine pwp_rif ?_ | refine pwp_rifE ?_
      intro K hK
      simp (disch := first | (refine Ok.mk ?_; (try simp only [Lm, La, Lc, Ln, Lt, Ld, Lr, Li, true_or, or_true, true_and, and_true]); omega) | (simp <;> fail) | skip) [runM_nil]
      refine hK _ _ ?_
      clear hK K
      refine ifF (by simp [runM_nil]) ?_
      cases hd : x.done with
      | true =>
        rw [if_pos hd] at hrec
        first | refine pwp_rif ?_ | refine pwp_rifE ?_
        intro K hK
        simp (disch := first | (refine Ok.mk ?_; (try simp only [Lm, La, Lc, Ln, Lt, Ld, Lr, Li, true_or, or_true, true_and, and_true]); omega) | (simp <;> fail) | skip) [runM_nil]
        refine hK _ _ ?_
        clear hK K
        refine ifT (by simp (disch := first | (refine Ok.mk ?_; (try simp only [Lm, La, Lc, Ln, Lt, Ld, Lr, Li, true_or, or_true, true_and, and_true]); omega) | (simp <;> fail) | skip) [runM_nil]) ?_
        first | refine pwp_sr ?_ | refine pwp_regionM ?_
        intro K hK
        simp (disch := first | (refine Ok.mk ?_; (try simp only [Lm, La, Lc, Ln, Lt, Ld, Lr, Li, true_or, or_true, true_and, and_true]); omega) | (simp <;> fail) | skip) [runM_nil]
        refine hK _ _ ?_
        clear hK K
        refine pwp_ret ⟨.inr rfl, _, _, _, (by simp [runM_nil, resL]; rfl), (.cons _ (.refl _)), ?_, rfl, rfl⟩
        rw [hrec]
        rcases h1 with rfl | ⟨rfl, h1⟩
        · simp [resV, recV]
        · simp [resV, recV, List.eq_nil_of_length_eq_zero h1]
      | false =>
        rw [if_neg (by simp [hd])] at hrec
        obtain ⟨g1, g2, g3⟩ := hgood he hd
        first | refine pwp_rif ?_ | refine pwp_rifE ?_
        intro K hK
        simp (disch := first | (refine Ok.mk ?_; (try simp only [Lm, La, Lc, Ln, Lt, Ld, Lr, Li, true_or, or_true, true_and, and_true]); omega) | (simp <;> fail) | skip) [runM_nil]
        refine hK _ _ ?_
        clear hK K
        refine ifF (by simp [runM_nil]) (pwp_skip ?_)
        have e9 : (decide (m = .quoted) != decide (c = 34)) = decide (x.m = .quoted) := by
          by_cases q1 : m = .quoted <;> by_cases q2 : c = 34 <;> simp [q1, q2] at g2 ⊢ <;> simp [g2]
        have e10 : (decide (c = 13) && !decide (m = .quoted)) = decide (x.m = .ended) := by
          by_cases q1 : m = .quoted <;> by_cases q2 : c = 13 <;> simp [q1, q2] at g3 ⊢ <;> simp [g3]
        rw [e9] at hco
        rw [show b.drop (k + 1) = b.drop (k + 1) from rfl] at hrec
        by_cases h13 : c = 13
        · have i13 : (c : Int) = 13 := by omega
          simp only [i13] at hco
          rw [decide_eq_true h13, Bool.true_and] at e10
          cases hmq : decide (m = .quoted) with
          | true =>
            rw [hmq] at hco e10
            first | refine pwp_sr ?_ | refine pwp_regionM ?_
            intro K hK
            simp (disch := first | (refine Ok.mk ?_; (try simp only [Lm, La, Lc, Ln, Lt, Ld, Lr, Li, true_or, or_true, true_and, and_true]); omega) | (simp <;> fail) | skip) [runM_nil, i13]
            refine useP (hco) ?_
            simp (disch := first | (refine Ok.mk ?_; (try simp only [Lm, La, Lc, Ln, Lt, Ld, Lr, Li, true_or, or_true, true_and, and_true]); omega) | (simp <;> fail) | skip) [runM_nil, i13]
            refine hK _ _ ?_
            clear hK K
            first | refine pwp_sr ?_ | refine pwp_regionM ?_
            intro K hK
            simp (disch := first | (refine Ok.mk ?_; (try simp only [Lm, La, Lc, Ln, Lt, Ld, Lr, Li, true_or, or_true, true_and, and_true]); omega) | (simp <;> fail) | skip) [runM_nil]
            refine hK _ _ ?_
            clear hK K
            exact ⟨_, by omega, _, .refl _, k + 1, x.m, x.out, x.cur, so2, sc2, by omega, g1, h1, h2, hrec, rfl, by simp [rdV, hd], by simp [keepL_MS, keepA, getS, ← e10]⟩
          | false =>
            rw [hmq] at hco e10
            first | refine pwp_sr ?_ | refine pwp_regionM ?_
            intro K hK
            simp (disch := first | (refine Ok.mk ?_; (try simp only [Lm, La, Lc, Ln, Lt, Ld, Lr, Li, true_or, or_true, true_and, and_true]); omega) | (simp <;> fail) | skip) [runM_nil, i13]
            refine useP (hco) ?_
            simp (disch := first | (refine Ok.mk ?_; (try simp only [Lm, La, Lc, Ln, Lt, Ld, Lr, Li, true_or, or_true, true_and, and_true]); omega) | (simp <;> fail) | skip) [runM_nil, i13]
            refine hK _ _ ?_
            clear hK K
            first | refine pwp_sr ?_ | refine pwp_regionM ?_
            intro K hK
            simp (disch := first | (refine Ok.mk ?_; (try simp only [Lm, La, Lc, Ln, Lt, Ld, Lr, Li, true_or, or_true, true_and, and_true]); omega) | (simp <;> fail) | skip) [runM_nil]
            refine hK _ _ ?_
            clear hK K
            exact ⟨_, by omega, _, .refl _, k + 1, x.m, x.out, x.cur, so2, sc2, by omega, g1, h1, h2, hrec, rfl, by simp [rdV, hd], by simp [keepL_MS, keepA, getS, ← e10]⟩
        · have i13 : ¬ (c : Int) = 13 := by omega
          rw [decide_eq_false h13, Bool.false_and] at e10
          first | refine pwp_sr ?_ | refine pwp_regionM ?_
          intro K hK
          simp (disch := first | (refine Ok.mk ?_; (try simp only [Lm, La, Lc, Ln, Lt, Ld, Lr, Li, true_or, or_true, true_and, and_true]); omega) | (simp <;> fail) | skip) [runM_nil, i13]
          refine useP (hco) ?_
          simp (disch := first | (refine Ok.mk ?_; (try simp only [Lm, La, Lc, Ln, Lt, Ld, Lr, Li, true_or, or_true, true_and, and_true]); omega) | (simp <;> fail) | skip) [runM_nil, i13]
          refine hK _ _ ?_
          clear hK K
          first | refine pwp_sr ?_ | refine pwp_regionM ?_
          intro K hK
          simp (disch := first | (refine Ok.mk ?_; (try simp only [Lm, La, Lc, Ln, Lt, Ld, Lr, Li, true_or, or_true, true_and, and_true]); omega) | (simp <;> fail) | skip) [runM_nil]
          refine hK _ _ ?_
          clear hK K
          exact ⟨_, by omega, _, .refl _, k + 1, x.m, x.out, x.cur, so2, sc2, by omega, g1, h1, h2, hrec, rfl, by simp [rdV, hd], by simp [keepL_MS, keepA, getS, ← e10]⟩
    · rw [if_pos he] at hrec
      have he2 : ¬ (x.e : Int) = 0 := by omega
      first | refine pwp_rif ?_ | refine pwp_rifE ?_
      intro K hK
      simp (disch := first | (refine Ok.mk ?_; (try simp only [Lm, La, Lc, Ln, Lt, Ld, Lr, Li, true_or, or_true, true_and, and_true]); omega) | (simp <;> fail) | skip) [runM_nil, he, he2]
      refine hK _ _ ?_
      clear hK K
      refine ifT (by simp [runM_nil, he, he2]) ?_
      first | refine pwp_sd hmix ?_ | refine pwp_drawM hmix ?_
      intro K hK
      simp (disch := first | (refine Ok.mk ?_; (try simp only [Lm, La, Lc, Ln, Lt, Ld, Lr, Li, true_or, or_true, true_and, and_true]); omega) | (simp <;> fail) | skip) [runM_nil]
      refine hK _ _ ?_
      clear hK K
      refine pwp_ret ⟨.inr rfl, _, _, _, (by simp [runM_nil, resL]; rfl), (.cons _ (.refl _)), ?_, rfl, rfl⟩
      rw [hrec]
      simp [resV, recV, he]
  · obtain rfl : k = b.length := by omega
    rw [List.drop_length, goM] at hrec
    refine pwp_seq ?_
    first | refine pwp_sr ?_ | refine pwp_regionM ?_
    intro K hK
    simp (disch := first | (refine Ok.mk ?_; (try simp only [Lm, La, Lc, Ln, Lt, Ld, Lr, Li, true_or, or_true, true_and, and_true]); omega) | (simp <;> fail) | skip) [runM_nil, hxl]
    refine hK _ _ ?_
    clear hK K
    refine pwp_cF (by simp) (pwp_exit ?_)
    by_cases hq : m = .quoted ∨ m = .ended
    · rw [if_pos hq] at hrec
      rcases hq with rfl | rfl
      · first | refine pwp_rif ?_ | refine pwp_rifE ?_
        intro K hK
        simp (disch := first | (refine Ok.mk ?_; (try simp only [Lm, La, Lc, Ln, Lt, Ld, Lr, Li, true_or, or_true, true_and, and_true]); omega) | (simp <;> fail) | skip) [runM_nil]
        refine hK _ _ ?_
        clear hK K
        refine ifT (by simp (disch := first | (refine Ok.mk ?_; (try simp only [Lm, La, Lc, Ln, Lt, Ld, Lr, Li, true_or, or_true, true_and, and_true]); omega) | (simp <;> fail) | skip) [runM_nil]) ?_
        first | refine pwp_sr ?_ | refine pwp_regionM ?_
        intro K hK
        simp (disch := first | (refine Ok.mk ?_; (try simp only [Lm, La, Lc, Ln, Lt, Ld, Lr, Li, true_or, or_true, true_and, and_true]); omega) | (simp <;> fail) | skip) [runM_nil]
        refine hK _ _ ?_
        clear hK K
        refine pwp_retT ⟨.inr rfl, _, _, _, (by simp [runM_nil, resL]; rfl), (.cons _ (.refl _)), ?_, rfl, rfl⟩
        rw [hrec]
        simp [resV, recV]
      · first | refine pwp_rif ?_ | refine pwp_rifE ?_
        intro K hK
        simp (disch := first | (refine Ok.mk ?_; (try simp only [Lm, La, Lc, Ln, Lt, Ld, Lr, Li, true_or, or_true, true_and, and_true]); omega) | (simp <;> fail) | skip) [runM_nil]
        refine hK _ _ ?_
        clear hK K
        refine ifT (by simp (disch := first | (refine Ok.mk ?_; (try simp only [Lm, La, Lc, Ln, Lt, Ld, Lr, Li, true_or, or_true, true_and, and_true]); omega) | (simp <;> fail) | skip) [runM_nil]) ?_
        first | refine pwp_sr ?_ | refine pwp_regionM ?_
        intro K hK
        simp (disch := first | (refine Ok.mk ?_; (try simp only [Lm, La, Lc, Ln, Lt, Ld, Lr, Li, true_or, or_true, true_and, and_true]); omega) | (simp <;> fail) | skip) [runM_nil]
        refine hK _ _ ?_
        clear hK K
        refine pwp_retT ⟨.inr rfl, _, _, _, (by simp [runM_nil, resL]; rfl), (.cons _ (.refl _)), ?_, rfl, rfl⟩
        rw [hrec]
        simp [resV, recV]
    · rw [if_neg hq] at hrec
      obtain ⟨q1, q2⟩ : ¬ m = .quoted ∧ ¬ m = .ended := ⟨fun h => hq (.inl h), fun h => hq (.inr h)⟩
      obtain ⟨hm, ho, hc, hcw⟩ := hG
      have cf := field_ok (r := r) (H := H) (d := false) (e := 0) hso hsc hcw (by omega) (by omega)
      simp only [q1, q2, rdV] at cf ⊢
      first | refine pwp_rif ?_ | refine pwp_rifE ?_
      intro K hK
      simp (disch := first | (refine Ok.mk ?_; (try simp only [Lm, La, Lc, Ln, Lt, Ld, Lr, Li, true_or, or_true, true_and, and_true]); omega) | (simp <;> fail) | skip) [runM_nil]
      refine hK _ _ ?_
      clear hK K
      refine ifF (by simp (disch := first | (refine Ok.mk ?_; (try simp only [Lm, La, Lc, Ln, Lt, Ld, Lr, Li, true_or, or_true, true_and, and_true]); omega) | (simp <;> fail) | skip) [runM_nil]) (pwp_skip ?_)
      first | refine pwp_sr ?_ | refine pwp_regionM ?_
      intro K hK
      simp (disch := first | (refine Ok.mk ?_; (try simp only [Lm, La, Lc, Ln, Lt, Ld, Lr, Li, true_or, or_true, true_and, and_true]); omega) | (simp <;> fail) | skip) [runM_nil]
      refine useH cf ?_
      try simp (disch := first | (refine Ok.mk ?_; (try simp only [Lm, La, Lc, Ln, Lt, Ld, Lr, Li, true_or, or_true, true_and, and_true]); omega) | (simp <;> fail) | skip) [runM_nil]
      refine hK _ _ ?_
      clear hK K
      first | refine pwp_sr ?_ | refine pwp_regionM ?_
      intro K hK
      simp (disch := first | (refine Ok.mk ?_; (try simp only [Lm, La, Lc, Ln, Lt, Ld, Lr, Li, true_or, or_true, true_and, and_true]); omega) | (simp <;> fail) | skip) [runM_nil]
      refine hK _ _ ?_
      clear hK K
      refine pwp_ret ⟨.inr rfl, _, _, _, (by simp [runM_nil, resL]; rfl), (.cons _ (.refl _)), ?_, rfl, rfl⟩
      rw [hrec]
      simp [resV, recV]
end Go.Proofs.YtdphjapaoaokmaaDoor.E
/- The document's fields. -/
namespace Go.Proofs.YtdphjapaoaokmaaDoor.E
open Go Go.RowKit Go.Proofs
set_option linter.unusedVariables false
set_option linter.unusedSimpArgs false
/-- How many bytes the end of a line has. -/
def endsB (b : List Nat) (k : Nat) : Nat := if b[k]? = some 10 then 1 else if b[k]? = some 13 ∧ b[k + 1]? = some 10 then 2 else 0
theorem ends_ok {s : Nat} {xs : List PV} {o : Bool} {b : List Nat} (hx : xs = b.map u8) (hs : s = 1 ∨ b.length = 0) (hl : b.length ≤ 1000000) (k : Nat) (hk : k ≤ 2000000) :
    PSpec Tryd.prog 37 [.lst s xs o, .int .i64 k] (.int .i64 (endsB b k : Nat)) := by
  intro H
  have hxl : xs.length = b.length := by rw [hx, List.length_map]
  have hxg : ∀ i (h : i < b.length), xs[i]? = some (.int .u8 (b[i] : Nat)) := fun i h => by rw [hx, List.getElem?_map, List.getElem?_eq_getElem h]; rfl
  refine spec_of t37 (by simp [p37]) ?_
  simp only [p37]
  first | refine pwp_sr ?_ | refine pwp_regionM ?_
  intro K hK
  simp (disch := first | (refine Ok.mk ?_; (try simp only [Lm, La, Lc, Ln, Lt, Ld, Lr, Li, true_or, or_true, true_and, and_true]); omega) | (simp <;> fail) | skip) [runM_nil]
  refine hK _ _ ?_
  clear hK K
  unfold endsB
  by_cases hlt : k < b.length
  · obtain rfl : s = 1 := hs.resolve_right (by omega)
    have h1 := hxg k hlt
    rw [List.getElem?_eq_getElem hlt]
    generalize b[k] = c at *
    by_cases h10 : c = 10
    · subst h10
      first | refine pwp_rif ?_ | refine pwp_rifE ?_
      intro K hK
      simp (disch := first | (refine Ok.mk ?_; (try simp only [Lm, La, Lc, Ln, Lt, Ld, Lr, Li, true_or, or_true, true_and, and_true]); omega) | (simp <;> fail) | skip) [runM_nil, hxl, h1]
      refine hK _ _ ?_
      clear hK K
      refine ifT (by simp (disch := first | (refine Ok.mk ?_; (try simp only [Lm, La, Lc, Ln, Lt, Ld, Lr, Li, true_or, or_true, true_and, and_true]); omega) | (simp <;> fail) | skip) [runM_nil]) ?_
      first | refine pwp_sr ?_ | refine pwp_regionM ?_
      intro K hK
      simp (disch := first | (refine Ok.mk ?_; (try simp only [Lm, La, Lc, Ln, Lt, Ld, Lr, Li, true_or, or_true, true_and, and_true]); omega) | (simp <;> fail) | skip) [runM_nil]
      refine hK _ _ ?_
      clear hK K
      refine pwp_retT ⟨.inr rfl, _, _, (by simp (disch := first | (refine Ok.mk ?_; (try simp only [Lm, La, Lc, Ln, Lt, Ld, Lr, Li, true_or, or_true, true_and, and_true]); omega) | (simp <;> fail) | skip) [runM_nil, resL]; rfl), .refl _, by simp (disch := first | (refine Ok.mk ?_; (try simp only [Lm, La, Lc, Ln, Lt, Ld, Lr, Li, true_or, or_true, true_and, and_true]); omega) | (simp <;> fail) | skip) [resV], rfl⟩
    · have g10 : ¬ (c : Int) = 10 := by omega
      have i10 : ¬ (some c = some 10) := by simpa using h10
      rw [if_neg i10]
      first | refine pwp_rif ?_ | refine pwp_rifE ?_
      intro K hK
      simp (disch := first | (refine Ok.mk ?_; (try simp only [Lm, La, Lc, Ln, Lt, Ld, Lr, Li, true_or, or_true, true_and, and_true]); omega) | (simp <;> fail) | skip) [runM_nil, hxl, h1, g10]
      refine hK _ _ ?_
      clear hK K
      refine ifF (by simp [runM_nil, g10]) (pwp_skip ?_)
      by_cases hlt2 : k + 1 < b.length
      · have h2 := hxg (k + 1) hlt2
        rw [List.getElem?_eq_getElem hlt2]
        generalize b[k + 1] = d at *
        have hlt3 : (k : Int) + 1 < b.length := by omega
        have e3 : ((k : Int) + 1).toNat = k + 1 := by omega
        by_cases h13 : c = 13
        · subst h13
          by_cases hd : d = 10
          · subst hd
            first | refine pwp_rif ?_ | refine pwp_rifE ?_
            intro K hK
            simp (disch := first | (refine Ok.mk ?_; (try simp only [Lm, La, Lc, Ln, Lt, Ld, Lr, Li, true_or, or_true, true_and, and_true]); omega) | (simp <;> fail) | skip) [runM_nil, hxl, h1, hlt3, e3, h2]
            refine hK _ _ ?_
            clear hK K
            refine ifT (by simp (disch := first | (refine Ok.mk ?_; (try simp only [Lm, La, Lc, Ln, Lt, Ld, Lr, Li, true_or, or_true, true_and, and_true]); omega) | (simp <;> fail) | skip) [runM_nil]) ?_
            first | refine pwp_sr ?_ | refine pwp_regionM ?_
            intro K hK
            simp (disch := first | (refine Ok.mk ?_; (try simp only [Lm, La, Lc, Ln, Lt, Ld, Lr, Li, true_or, or_true, true_and, and_true]); omega) | (simp <;> fail) | skip) [runM_nil]
            refine hK _ _ ?_
            clear hK K
            refine pwp_retT ⟨.inr rfl, _, _, (by simp (disch := first | (refine Ok.mk ?_; (try simp only [Lm, La, Lc, Ln, Lt, Ld, Lr, Li, true_or, or_true, true_and, and_true]); omega) | (simp <;> fail) | skip) [runM_nil, resL]; rfl), .refl _, by simp (disch := first | (refine Ok.mk ?_; (try simp only [Lm, La, Lc, Ln, Lt, Ld, Lr, Li, true_or, or_true, true_and, and_true]); omega) | (simp <;> fail) | skip) [resV], rfl⟩
          · have gd : ¬ (d : Int) = 10 := by omega
            first | refine pwp_rif ?_ | refine pwp_rifE ?_
            intro K hK
            simp (disch := first | (refine Ok.mk ?_; (try simp only [Lm, La, Lc, Ln, Lt, Ld, Lr, Li, true_or, or_true, true_and, and_true]); omega) | (simp <;> fail) | skip) [runM_nil, hxl, h1, hlt3, e3, h2, gd]
            refine hK _ _ ?_
            clear hK K
            refine ifF (by simp [runM_nil, gd]) (pwp_skip ?_)
            first | refine pwp_sr ?_ | refine pwp_regionM ?_
            intro K hK
            simp (disch := first | (refine Ok.mk ?_; (try simp only [Lm, La, Lc, Ln, Lt, Ld, Lr, Li, true_or, or_true, true_and, and_true]); omega) | (simp <;> fail) | skip) [runM_nil]
            refine hK _ _ ?_
            clear hK K
            refine pwp_ret ⟨.inr rfl, _, _, (by simp (disch := first | (refine Ok.mk ?_; (try simp only [Lm, La, Lc, Ln, Lt, Ld, Lr, Li, true_or, or_true, true_and, and_true]); omega) | (simp <;> fail) | skip) [runM_nil, resL, hd]; rfl), .refl _, by simp (disch := first | (refine Ok.mk ?_; (try simp only [Lm, La, Lc, Ln, Lt, Ld, Lr, Li, true_or, or_true, true_and, and_true]); omega) | (simp <;> fail) | skip) [resV, hd], rfl⟩
        · have g13 : ¬ (c : Int) = 13 := by omega
          first | refine pwp_rif ?_ | refine pwp_rifE ?_
          intro K hK
          simp (disch := first | (refine Ok.mk ?_; (try simp only [Lm, La, Lc, Ln, Lt, Ld, Lr, Li, true_or, or_true, true_and, and_true]); omega) | (simp <;> fail) | skip) [runM_nil, hxl, h1, hlt3, e3, g13]
          refine hK _ _ ?_
          clear hK K
          refine ifF (by simp [runM_nil, g13]) (pwp_skip ?_)
          first | refine pwp_sr ?_ | refine pwp_regionM ?_
          intro K hK
          simp (disch := first | (refine Ok.mk ?_; (try simp only [Lm, La, Lc, Ln, Lt, Ld, Lr, Li, true_or, or_true, true_and, and_true]); omega) | (simp <;> fail) | skip) [runM_nil]
          refine hK _ _ ?_
          clear hK K
          refine pwp_ret ⟨.inr rfl, _, _, (by simp (disch := first | (refine Ok.mk ?_; (try simp only [Lm, La, Lc, Ln, Lt, Ld, Lr, Li, true_or, or_true, true_and, and_true]); omega) | (simp <;> fail) | skip) [runM_nil, resL, h13]; rfl), .refl _, by simp (disch := first | (refine Ok.mk ?_; (try simp only [Lm, La, Lc, Ln, Lt, Ld, Lr, Li, true_or, or_true, true_and, and_true]); omega) | (simp <;> fail) | skip) [resV, h13], rfl⟩
      · have hlt3 : ¬ (k : Int) + 1 < b.length := by omega
        have e2 : b[k + 1]? = none := List.getElem?_eq_none (by omega)
        first | refine pwp_rif ?_ | refine pwp_rifE ?_
        intro K hK
        simp (disch := first | (refine Ok.mk ?_; (try simp only [Lm, La, Lc, Ln, Lt, Ld, Lr, Li, true_or, or_true, true_and, and_true]); omega) | (simp <;> fail) | skip) [runM_nil, hxl, hlt3]
        refine hK _ _ ?_
        clear hK K
        refine ifF (by simp [runM_nil, hlt3]) (pwp_skip ?_)
        first | refine pwp_sr ?_ | refine pwp_regionM ?_
        intro K hK
        simp (disch := first | (refine Ok.mk ?_; (try simp only [Lm, La, Lc, Ln, Lt, Ld, Lr, Li, true_or, or_true, true_and, and_true]); omega) | (simp <;> fail) | skip) [runM_nil]
        refine hK _ _ ?_
        clear hK K
        refine pwp_ret ⟨.inr rfl, _, _, (by simp (disch := first | (refine Ok.mk ?_; (try simp only [Lm, La, Lc, Ln, Lt, Ld, Lr, Li, true_or, or_true, true_and, and_true]); omega) | (simp <;> fail) | skip) [runM_nil, resL, e2]; rfl), .refl _, by simp (disch := first | (refine Ok.mk ?_; (try simp only [Lm, La, Lc, Ln, Lt, Ld, Lr, Li, true_or, or_true, true_and, and_true]); omega) | (simp <;> fail) | skip) [resV, e2], rfl⟩
  · have e1 : b[k]? = none := List.getElem?_eq_none (by omega)
    have hlt2 : ¬ (k : Int) < b.length := by omega
    have hlt3 : ¬ (k : Int) + 1 < b.length := by omega
    first | refine pwp_rif ?_ | refine pwp_rifE ?_
    intro K hK
    simp (disch := first | (refine Ok.mk ?_; (try simp only [Lm, La, Lc, Ln, Lt, Ld, Lr, Li, true_or, or_true, true_and, and_true]); omega) | (simp <;> fail) | skip) [runM_nil, hxl, hlt2]
    refine hK _ _ ?_
    clear hK K
    refine ifF (by simp [runM_nil, hlt2]) (pwp_skip ?_)
    first | refine pwp_rif ?_ | refine pwp_rifE ?_
    intro K hK
    simp (disch := first | (refine Ok.mk ?_; (try simp only [Lm, La, Lc, Ln, Lt, Ld, Lr, Li, true_or, or_true, true_and, and_true]); omega) | (simp <;> fail) | skip) [runM_nil, hxl, hlt3]
    refine hK _ _ ?_
    clear hK K
    refine ifF (by simp [runM_nil, hlt3]) (pwp_skip ?_)
    first | refine pwp_sr ?_ | refine pwp_regionM ?_
    intro K hK
    simp (disch := first | (refine Ok.mk ?_; (try simp only [Lm, La, Lc, Ln, Lt, Ld, Lr, Li, true_or, or_true, true_and, and_true]); omega) | (simp <;> fail) | skip) [runM_nil]
    refine hK _ _ ?_
    clear hK K
    refine pwp_ret ⟨.inr rfl, _, _, (by simp (disch := first | (refine Ok.mk ?_; (try simp only [Lm, La, Lc, Ln, Lt, Ld, Lr, Li, true_or, or_true, true_and, and_true]); omega) | (simp <;> fail) | skip) [runM_nil, resL, e1]; rfl), .refl _, by simp (disch := first | (refine Ok.mk ?_; (try simp only [Lm, La, Lc, Ln, Lt, Ld, Lr, Li, true_or, or_true, true_and, and_true]); omega) | (simp <;> fail) | skip) [resV, e1], rfl⟩
/-- Behind a field. -/
def aftM (out : List (List Nat)) (f : List Nat) (b : List Nat) (k : Nat) : List (List Nat) × Nat × Nat :=
  if b[k]? = some 44 then (if out.length + 1 = 50 then ([], 0, 5) else goM .begin (out ++ [f]) [] (b.drop (k + 1)) (k + 1)) else (out ++ [f], k + endsB b k, 0)
/-- Where a field may end. -/
def termB (b : List Nat) (k : Nat) : Prop := b.length ≤ k ∨ b[k]? = some 44 ∨ endsB b k ≠ 0
theorem termB_cases {b : List Nat} {k : Nat} (h : termB b k) (hk : k < b.length) : b[k] = 44 ∨ b[k] = 10 ∨ (b[k] = 13 ∧ b[k + 1]? = some 10) := by
  rcases h with h | h | h
  · omega
  · left
    rw [List.getElem?_eq_getElem hk] at h
    exact Option.some.inj h
  · right
    unfold endsB at h
    rw [List.getElem?_eq_getElem hk] at h
    split at h
    · rename_i h2
      exact .inl (Option.some.inj h2)
    · split at h
      · rename_i h2
        exact .inr ⟨Option.some.inj h2.1, h2.2⟩
      · exact absurd rfl h
/-- A field that ends here. -/
theorem goM_end {m : Md} (hm : m = .begin ∨ m = .plain ∨ m = .closed) (out : List (List Nat)) (f b : List Nat) (k : Nat) (hk : k ≤ b.length) (ht : termB b k) : goM m out f (b.drop k) k = aftM out f b k := by
  unfold aftM
  by_cases hlt : k < b.length
  · have hc := termB_cases ht hlt
    have hge : b[k]? = some b[k] := List.getElem?_eq_getElem hlt
    rw [List.drop_eq_getElem_cons hlt, goM]
    have hb : stpM m out f b[k] = behindM out f b[k] := by
      rcases hm with rfl | rfl | rfl
      · rcases hc with h | h | h
        · simp [stpM, plainM, h]
        · simp [stpM, plainM, h]
        · simp [stpM, plainM, h.1]
      · rcases hc with h | h | h
        · simp [stpM, plainM, h]
        · simp [stpM, plainM, h]
        · simp [stpM, plainM, h.1]
      · rcases hc with h | h | h
        · simp [stpM, h]
        · simp [stpM, h]
        · simp [stpM, h.1]
    rw [hb, hge]
    rcases hc with h | h | ⟨h, h2⟩
    · rw [h]
      by_cases h5 : out.length + 1 = 50
      · simp [behindM, h5]
      · simp [behindM, h5]
    · have e1 : endsB b k = 1 := by simp [endsB, hge, h]
      rw [h]
      simp [behindM, e1]
    · have e2 : endsB b k = 2 := by simp [endsB, hge, h, h2]
      obtain ⟨hlt2, h3⟩ := List.getElem?_eq_some_iff.1 h2
      rw [h, List.drop_eq_getElem_cons hlt2, h3]
      simp [behindM, e2, goM, stpM]
  · obtain rfl : k = b.length := by omega
    have e1 : b[b.length]? = none := List.getElem?_eq_none (Nat.le_refl _)
    have e2 : endsB b b.length = 0 := by simp [endsB, e1]
    rw [List.drop_length, goM, if_neg (by rcases hm with rfl | rfl | rfl <;> simp), e1, e2]
    simp
/-- Not so a field in its midst. -/
theorem not_termB {b : List Nat} {k : Nat} (hk : k < b.length) (h : ¬ termB b k) : b[k] ≠ 44 ∧ b[k] ≠ 10 ∧ ¬ (b[k] = 13 ∧ b[k + 1]? = some 10) := by
  have hge : b[k]? = some b[k] := List.getElem?_eq_getElem hk
  unfold termB endsB at h
  rw [hge] at h
  refine ⟨fun e => h (.inr (.inl (by rw [e]))), fun e => h (.inr (.inr (by simp [e]))), fun e => h (.inr (.inr (by simp [e.1, e.2])))⟩
theorem goM_bad13 (m : Md) (hm : m = .begin ∨ m = .plain ∨ m = .closed) (out : List (List Nat)) (f b : List Nat) (k : Nat) (hk : k < b.length) (h : b[k] = 13) (h2 : ¬ b[k + 1]? = some 10) : goM m out f (b.drop k) k = ([], 0, 3) := by
  rw [List.drop_eq_getElem_cons hk, goM, h]
  have hb : stpM m out f 13 = ⟨.ended, out, f, false, 0⟩ := by rcases hm with rfl | rfl | rfl <;> simp [stpM, plainM, behindM]
  rw [hb]
  simp only [ne_eq, not_true, if_false, Bool.false_eq_true]
  by_cases hlt2 : k + 1 < b.length
  · rw [List.drop_eq_getElem_cons hlt2, goM]
    rw [List.getElem?_eq_getElem hlt2] at h2
    have h3 : ¬ b[k + 1] = 10 := fun e => h2 (by rw [e])
    simp [stpM, h3]
  · rw [List.drop_eq_nil_of_le (by omega), goM]
    simp
end Go.Proofs.YtdphjapaoaokmaaDoor.E
/- The document's fields: plain ones and quoted ones. -/
namespace Go.Proofs.YtdphjapaoaokmaaDoor.E
open Go Go.RowKit Go.Proofs
set_option linter.unusedVariables false
set_option linter.unusedSimpArgs false
/-- What a field from a place on comes to, told by the reader. -/
def FieldR (b : List Nat) (m : Md) (k0 : Nat) (H : Heap) (v : PV) (H' : Heap) : Prop :=
  H' = H ∧ ∃ (f : List Nat) (k e : Nat), v = .tup [.str (ci f), .int .i64 k, .int .i64 e] ∧ (e ≠ 0 → ∀ out : List (List Nat), goM m out [] (b.drop k0) k0 = ([], 0, e)) ∧
    (e = 0 → k0 ≤ k ∧ k ≤ b.length ∧ (∀ x ∈ f, x < 256) ∧ ∀ out : List (List Nat), goM m out [] (b.drop k0) k0 = aftM out f b k)
theorem rplain_ok {s : Nat} {xs : List PV} {o : Bool} {b : List Nat} {H : Heap} (hx : xs = b.map u8) (hs : s = 1 ∨ b.length = 0) (hw : ∀ x ∈ b, x < 256) (hl : b.length ≤ 1000000) (k0 : Nat) (hk0 : k0 ≤ b.length) (h34 : b[k0]? ≠ some 34) :
    SpecH Tryd.prog 36 H [.lst s xs o, .int .i64 k0] (FieldR b .begin k0 H) := by
  have hxl : xs.length = b.length := by rw [hx, List.length_map]
  have hxg : ∀ i (h : i < b.length), xs[i]? = some (.int .u8 (b[i] : Nat)) := fun i h => by rw [hx, List.getElem?_map, List.getElem?_eq_getElem h]; rfl
  refine spec_of t36 (by simp [p36]) ?_
  simp only [p36]
  first | refine pwp_sr ?_ | refine pwp_regionM ?_
  intro K hK
  simp (disch := first | (refine Ok.mk ?_; (try simp only [Lm, La, Lc, Ln, Lt, Ld, Lr, Li, true_or, or_true, true_and, and_true]); omega) | (simp <;> fail) | skip) [runM_nil]
  refine hK _ _ ?_
  clear hK K
  first | refine pwp_sr ?_ | refine pwp_regionM ?_
  intro K hK
  simp (disch := first | (refine Ok.mk ?_; (try simp only [Lm, La, Lc, Ln, Lt, Ld, Lr, Li, true_or, or_true, true_and, and_true]); omega) | (simp <;> fail) | skip) [runM_nil]
  refine hK _ _ ?_
  clear hK K
  refine pwp_seq (pwp_block ?_)
  refine pwp_loopK [0, 1, 7] (fun q st H' => ∃ (k : Nat) (m : Md), k0 ≤ k ∧ k ≤ b.length ∧ k - k0 ≤ 1000 ∧ (m = .begin ∧ k = k0 ∨ m = .plain) ∧ (∀ out : List (List Nat), goM .begin out [] (b.drop k0) k0 = goM m out ((b.drop k0).take (k - k0)) (b.drop k) k) ∧
      q = b.length - k ∧ H' = H ∧ st = MS 50 [(0, .lst s xs o), (1, .int .i64 k), (7, .int .i64 k0)]) (n := b.length - k0)
    ⟨_, .refl _, k0, .begin, Nat.le_refl _, hk0, by omega, .inl ⟨rfl, rfl⟩, fun out => by simp, rfl, rfl, by simp [keepL_MS, keepA, getS]⟩ ?_
  rintro q st H' ⟨k, m, hk1, hk2, hk3, hm, hgo, rfl, rfl, rfl⟩
  have hmm : m = .begin ∨ m = .plain ∨ m = .closed := hm.elim (fun h => .inl h.1) (fun h => .inr (.inl h))
  have cE := ends_ok (o := false) hx hs hl k (by omega)
  by_cases ht : termB b k
  · -- it ends
    have hfin : ∀ out : List (List Nat), goM .begin out [] (b.drop k0) k0 = aftM out ((b.drop k0).take (k - k0)) b k := fun out => (hgo out).trans (goM_end hmm out _ b k hk2 ht)
    have hfl : ((b.drop k0).take (k - k0)).length = k - k0 := by rw [List.length_take, List.length_drop]; omega
    have hfw : ∀ x ∈ (b.drop k0).take (k - k0), x < 256 := fun x hx => hw x (List.mem_of_mem_drop (List.mem_of_mem_take hx))
    have hsl : (xs.take k).drop k0 = ((b.drop k0).take (k - k0)).map u8 := by rw [hx, ← List.map_take, ← List.map_drop, List.drop_take]
    have v1 : ∀ o, cvSP (.lst s (((b.drop k0).take (k - k0)).map u8) o) = some (.str (ci ((b.drop k0).take (k - k0)))) := fun o => cvS_u8 rfl (hs.imp id fun h => by rw [hfl]; omega) hfw
    generalize (b.drop k0).take (k - k0) = f at *
    have hout : pwp Tryd.prog (.seq (.region [⟨some 44, none, .mv false (.t 0)⟩, ⟨some 45, none, .mv false (.t 7)⟩, ⟨some 46, none, .mv false (.t 1)⟩, ⟨some 47, none, .sli 1 (.t 44) (some (.t 45)) (some (.t 46)) none⟩, ⟨some 48, none, .cvS (.t 47)⟩, ⟨some 49, none, .mv true (.t 1)⟩, ⟨some 4, none, .mv true (.t 48)⟩, ⟨some 5, none, .mv true (.t 49)⟩, ⟨some 6, none, .mv true (.c (.int .i64 0))⟩]) .ret)
        (fun e st2 H3 => (e = .normal ∨ e = .ret) ∧ ∃ rs H2, resL st2 H3 [.t 4, .t 5, .t 6] = some rs ∧ H2.Sublist H3 ∧ FieldR b .begin k0 H' (resV rs) H2) (MS 50 [(0, .lst s xs o), (1, .int .i64 k), (7, .int .i64 k0)]) H' := by
      have hs2 : s = 1 ∨ xs.length = 0 := by rw [hxl]; exact hs
      first | refine pwp_sr ?_ | refine pwp_regionM ?_
      intro K hK
      simp (disch := first | (refine Ok.mk ?_; (try simp only [Lm, La, Lc, Ln, Lt, Ld, Lr, Li, true_or, or_true, true_and, and_true]); omega) | (simp <;> fail) | skip) [runM_nil, hsl, v1]
      refine hK _ _ ?_
      clear hK K
      refine pwp_ret ⟨.inr rfl, _, _, (by simp [runM_nil, resL]; rfl), .refl _, rfl, f, k, 0, by simp [resV], fun h => absurd rfl h, fun _ => ⟨hk1, hk2, hfw, hfin⟩⟩
    refine pwp_seq ?_
    by_cases hlt : k < b.length
    · obtain rfl : s = 1 := hs.resolve_right (by omega)
      have h1 := hxg k hlt
      have hc := termB_cases ht hlt
      have hge : b[k]? = some b[k] := List.getElem?_eq_getElem hlt
      by_cases h44 : b[k] = 44
      · rw [h44] at h1
        first | refine pwp_sr ?_ | refine pwp_regionM ?_
        intro K hK
        simp (disch := first | (refine Ok.mk ?_; (try simp only [Lm, La, Lc, Ln, Lt, Ld, Lr, Li, true_or, or_true, true_and, and_true]); omega) | (simp <;> fail) | skip) [runM_nil, hxl, h1]
        refine hK _ _ ?_
        clear hK K
        refine pwp_cF (by simp) (pwp_exit ?_)
        exact pwp_kept (keep := [0, 1, 7]) (by simp [keepA, getS]) hout
      · have hE : endsB b k ≠ 0 := by
          rcases hc with h | h | ⟨h, h2⟩
          · exact absurd h h44
          · simp [endsB, hge, h]
          · simp [endsB, hge, h, h2]
        have g44 : ¬ (b[k] : Int) = 44 := by omega
        have gE : ¬ (endsB b k : Int) = 0 := by omega
        generalize endsB b k = E at *
        generalize b[k] = c at *
        first | refine pwp_sr ?_ | refine pwp_regionM ?_
        intro K hK
        simp (disch := first | (refine Ok.mk ?_; (try simp only [Lm, La, Lc, Ln, Lt, Ld, Lr, Li, true_or, or_true, true_and, and_true]); omega) | (simp <;> fail) | skip) [runM_nil, hxl, h1, g44, gE, hE]
        refine useP (cE) ?_
        simp (disch := first | (refine Ok.mk ?_; (try simp only [Lm, La, Lc, Ln, Lt, Ld, Lr, Li, true_or, or_true, true_and, and_true]); omega) | (simp <;> fail) | skip) [runM_nil, hxl, h1, g44, gE, hE]
        refine hK _ _ ?_
        clear hK K
        refine pwp_cF (by simp) (pwp_exit ?_)
        exact pwp_kept (keep := [0, 1, 7]) (by simp [keepA, getS]) hout
    · have hlt2 : ¬ (k : Int) < b.length := by omega
      first | refine pwp_sr ?_ | refine pwp_regionM ?_
      intro K hK
      simp (disch := first | (refine Ok.mk ?_; (try simp only [Lm, La, Lc, Ln, Lt, Ld, Lr, Li, true_or, or_true, true_and, and_true]); omega) | (simp <;> fail) | skip) [runM_nil, hxl, hlt2]
      refine hK _ _ ?_
      clear hK K
      refine pwp_cF (by simp) (pwp_exit ?_)
      exact pwp_kept (keep := [0, 1, 7]) (by simp [keepA, getS]) hout
  · -- it goes on
    have hlt : k < b.length := Nat.lt_of_not_le fun h => ht (.inl h)
    obtain rfl : s = 1 := hs.resolve_right (by omega)
    obtain ⟨n44, n10, n13⟩ := not_termB hlt ht
    have h1 := hxg k hlt
    have hE : endsB b k = 0 := Nat.eq_zero_of_not_pos fun h => ht (.inr (.inr (by omega)))
    rw [hE] at cE
    have h0 : k = k0 → b[k] ≠ 34 := fun e h => h34 (by subst e; rw [List.getElem?_eq_getElem hlt, h])
    have htk : (b.drop k0).take (k + 1 - k0) = (b.drop k0).take (k - k0) ++ [b[k]] := by
      rw [show k + 1 - k0 = (k - k0) + 1 by omega, List.take_succ_eq_append_getElem (by rw [List.length_drop]; omega)]
      simp [show k0 + (k - k0) = k by omega]
    have hfl : ((b.drop k0).take (k - k0)).length = k - k0 := by rw [List.length_take, List.length_drop]; omega
    have hb13 : b[k] = 13 → ∀ out : List (List Nat), goM .begin out [] (b.drop k0) k0 = ([], 0, 3) := fun h out => (hgo out).trans (goM_bad13 m hmm out _ b k hlt h fun h2 => n13 ⟨h, h2⟩)
    have hgo2 : ∀ out : List (List Nat), goM m out ((b.drop k0).take (k - k0)) (b.drop k) k = if (stpM m out ((b.drop k0).take (k - k0)) b[k]).e ≠ 0 then ([], 0, (stpM m out ((b.drop k0).take (k - k0)) b[k]).e) else
        if (stpM m out ((b.drop k0).take (k - k0)) b[k]).done = true then ((stpM m out ((b.drop k0).take (k - k0)) b[k]).out, k + 1, 0) else goM (stpM m out ((b.drop k0).take (k - k0)) b[k]).m (stpM m out ((b.drop k0).take (k - k0)) b[k]).out (stpM m out ((b.drop k0).take (k - k0)) b[k]).cur (b.drop (k + 1)) (k + 1) := fun out => by
      rw [List.drop_eq_getElem_cons hlt, goM]
    generalize b[k] = c at *
    generalize (b.drop k0).take (k - k0) = f at *
    have g44 : ¬ (c : Int) = 44 := by omega
    refine pwp_seq ?_
    first | refine pwp_sr ?_ | refine pwp_regionM ?_
    intro K hK
    simp (disch := first | (refine Ok.mk ?_; (try simp only [Lm, La, Lc, Ln, Lt, Ld, Lr, Li, true_or, or_true, true_and, and_true]); omega) | (simp <;> fail) | skip) [runM_nil, hxl, h1, g44]
    refine useP (cE) ?_
    simp (disch := first | (refine Ok.mk ?_; (try simp only [Lm, La, Lc, Ln, Lt, Ld, Lr, Li, true_or, or_true, true_and, and_true]); omega) | (simp <;> fail) | skip) [runM_nil, hxl, h1, g44]
    refine hK _ _ ?_
    clear hK K
    refine pwp_cT (by simp) (pwp_skip ?_)
    refine pwp_block ?_
    by_cases h34' : c = 34
    · subst h34'
      obtain rfl : m = .plain := hm.resolve_left fun h => h0 h.2 rfl
      first | refine pwp_rif ?_ | refine pwp_rifE ?_
      intro K hK
      simp (disch := first | (refine Ok.mk ?_; (try simp only [Lm, La, Lc, Ln, Lt, Ld, Lr, Li, true_or, or_true, true_and, and_true]); omega) | (simp <;> fail) | skip) [runM_nil, hxl, h1]
      refine hK _ _ ?_
      clear hK K
      refine ifT (by simp (disch := first | (refine Ok.mk ?_; (try simp only [Lm, La, Lc, Ln, Lt, Ld, Lr, Li, true_or, or_true, true_and, and_true]); omega) | (simp <;> fail) | skip) [runM_nil]) ?_
      first | refine pwp_sr ?_ | refine pwp_regionM ?_
      intro K hK
      simp (disch := first | (refine Ok.mk ?_; (try simp only [Lm, La, Lc, Ln, Lt, Ld, Lr, Li, true_or, or_true, true_and, and_true]); omega) | (simp <;> fail) | skip) [runM_nil]
      refine hK _ _ ?_
      clear hK K
      refine pwp_ret ⟨.inr rfl, _, _, (by simp [runM_nil, resL]; rfl), .refl _, rfl, [], 0, 3, by simp [resV], fun _ out => ?_, fun h => by cases h⟩
      rw [hgo out, hgo2 out]
      simp [stpM, plainM]
    · have g34 : ¬ (c : Int) = 34 := by omega
      by_cases h13 : c = 13
      · subst h13
        first | refine pwp_rif ?_ | refine pwp_rifE ?_
        intro K hK
        simp (disch := first | (refine Ok.mk ?_; (try simp only [Lm, La, Lc, Ln, Lt, Ld, Lr, Li, true_or, or_true, true_and, and_true]); omega) | (simp <;> fail) | skip) [runM_nil, hxl, h1]
        refine hK _ _ ?_
        clear hK K
        refine ifT (by simp (disch := first | (refine Ok.mk ?_; (try simp only [Lm, La, Lc, Ln, Lt, Ld, Lr, Li, true_or, or_true, true_and, and_true]); omega) | (simp <;> fail) | skip) [runM_nil]) ?_
        first | refine pwp_sr ?_ | refine pwp_regionM ?_
        intro K hK
        simp (disch := first | (refine Ok.mk ?_; (try simp only [Lm, La, Lc, Ln, Lt, Ld, Lr, Li, true_or, or_true, true_and, and_true]); omega) | (simp <;> fail) | skip) [runM_nil]
        refine hK _ _ ?_
        clear hK K
        refine pwp_ret ⟨.inr rfl, _, _, (by simp [runM_nil, resL]; rfl), .refl _, rfl, [], 0, 3, by simp [resV], fun _ out => hb13 rfl out, fun h => by cases h⟩
      · have g13 : ¬ (c : Int) = 13 := by omega
        have hst : ∀ out : List (List Nat), stpM m out f c = addM .plain out f c := fun out => by
          rcases hm with ⟨rfl, _⟩ | rfl
          · simp [stpM, plainM, h34', n44, n10, h13]
          · simp [stpM, plainM, h34', n44, n10, h13]
        simp only [hst] at hgo2
        first | refine pwp_rif ?_ | refine pwp_rifE ?_
        intro K hK
        simp (disch := first | (refine Ok.mk ?_; (try simp only [Lm, La, Lc, Ln, Lt, Ld, Lr, Li, true_or, or_true, true_and, and_true]); omega) | (simp <;> fail) | skip) [runM_nil, hxl, h1, g34, g13]
        refine hK _ _ ?_
        clear hK K
        refine ifF (by simp [runM_nil, g34, g13]) (pwp_skip ?_)
        first | refine pwp_sr ?_ | refine pwp_regionM ?_
        intro K hK
        simp (disch := first | (refine Ok.mk ?_; (try simp only [Lm, La, Lc, Ln, Lt, Ld, Lr, Li, true_or, or_true, true_and, and_true]); omega) | (simp <;> fail) | skip) [runM_nil]
        refine hK _ _ ?_
        clear hK K
        by_cases h1000 : 1000 < f.length + 1
        · have i1000 : (1000 : Int) < (k : Int) + 1 - k0 := by omega
          first | refine pwp_rif ?_ | refine pwp_rifE ?_
          intro K hK
          simp (disch := first | (refine Ok.mk ?_; (try simp only [Lm, La, Lc, Ln, Lt, Ld, Lr, Li, true_or, or_true, true_and, and_true]); omega) | (simp <;> fail) | skip) [runM_nil, i1000]
          refine hK _ _ ?_
          clear hK K
          refine ifT (by simp [runM_nil, i1000]) ?_
          first | refine pwp_sr ?_ | refine pwp_regionM ?_
          intro K hK
          simp (disch := first | (refine Ok.mk ?_; (try simp only [Lm, La, Lc, Ln, Lt, Ld, Lr, Li, true_or, or_true, true_and, and_true]); omega) | (simp <;> fail) | skip) [runM_nil]
          refine hK _ _ ?_
          clear hK K
          refine pwp_ret ⟨.inr rfl, _, _, (by simp [runM_nil, resL]; rfl), .refl _, rfl, [], 0, 5, by simp [resV], fun _ out => ?_, fun h => by cases h⟩
          rw [hgo out, hgo2 out]
          simp [addM, h1000]
        · have i1000 : ¬ (1000 : Int) < (k : Int) + 1 - k0 := by omega
          first | refine pwp_rif ?_ | refine pwp_rifE ?_
          intro K hK
          simp (disch := first | (refine Ok.mk ?_; (try simp only [Lm, La, Lc, Ln, Lt, Ld, Lr, Li, true_or, or_true, true_and, and_true]); omega) | (simp <;> fail) | skip) [runM_nil, i1000]
          refine hK _ _ ?_
          clear hK K
          refine ifF (by simp [runM_nil, i1000]) (pwp_skip ?_)
          refine ⟨_, by omega, _, .refl _, k + 1, .plain, by omega, by omega, by omega, .inr rfl, fun out => ?_, rfl, rfl, by simp [keepL_MS, keepA, getS]⟩
          rw [hgo out, hgo2 out, htk]
          simp [addM, h1000]
end Go.Proofs.YtdphjapaoaokmaaDoor.E
/- The document's quoted fields. -/
namespace Go.Proofs.YtdphjapaoaokmaaDoor.E
open Go Go.RowKit Go.Proofs
set_option linter.unusedVariables false
set_option linter.unusedSimpArgs false
theorem rquoted_ok {s : Nat} {xs : List PV} {o : Bool} {b : List Nat} {H : Heap} (hx : xs = b.map u8) (hs : s = 1 ∨ b.length = 0) (hw : ∀ x ∈ b, x < 256) (hl : b.length ≤ 1000000) (k0 : Nat) (hk0 : k0 ≤ b.length) :
    SpecH Tryd.prog 35 H [.lst s xs o, .int .i64 k0] (FieldR b .quoted k0 H) := by
  have hxl : xs.length = b.length := by rw [hx, List.length_map]
  have hxg : ∀ i (h : i < b.length), xs[i]? = some (.int .u8 (b[i] : Nat)) := fun i h => by rw [hx, List.getElem?_map, List.getElem?_eq_getElem h]; rfl
  refine spec_of t35 (by simp [p35]) ?_
  simp only [p35]
  first | refine pwp_sr ?_ | refine pwp_regionM ?_
  intro K hK
  simp (disch := first | (refine Ok.mk ?_; (try simp only [Lm, La, Lc, Ln, Lt, Ld, Lr, Li, true_or, or_true, true_and, and_true]); omega) | (simp <;> fail) | skip) [runM_nil]
  refine hK _ _ ?_
  clear hK K
  first | refine pwp_sr ?_ | refine pwp_regionM ?_
  intro K hK
  simp (disch := first | (refine Ok.mk ?_; (try simp only [Lm, La, Lc, Ln, Lt, Ld, Lr, Li, true_or, or_true, true_and, and_true]); omega) | (simp <;> fail) | skip) [runM_nil]
  refine hK _ _ ?_
  clear hK K
  refine pwp_seq (pwp_block ?_)
  refine pwp_loopK [0, 1, 7] (fun q st H' => ∃ (k : Nat) (cur : List Nat), k0 ≤ k ∧ k ≤ b.length ∧ cur.length ≤ 1000 ∧ (∀ x ∈ cur, x < 256) ∧ (∀ out : List (List Nat), goM .quoted out [] (b.drop k0) k0 = goM .quoted out cur (b.drop k) k) ∧
      q = b.length - k ∧ H' = H ∧ st = MS 70 [(0, .lst s xs o), (1, .int .i64 k), (7, bV cur true)]) (n := b.length - k0)
    ⟨_, .refl _, k0, [], Nat.le_refl _, hk0, by simp, by simp, fun out => rfl, rfl, rfl, by simp [keepL_MS, keepA, getS]⟩ ?_
  rintro q st H' ⟨k, cur, hk1, hk2, hk3, hcw, hgo, rfl, rfl, rfl⟩
  by_cases hlt : k < b.length
  · obtain rfl : s = 1 := hs.resolve_right (by omega)
    have h1 := hxg k hlt
    have hcb : b[k] < 256 := hw _ (List.getElem_mem hlt)
    have hgo2 : ∀ out : List (List Nat), goM .quoted out cur (b.drop k) k = if (stpM .quoted out cur b[k]).e ≠ 0 then ([], 0, (stpM .quoted out cur b[k]).e) else
        if (stpM .quoted out cur b[k]).done = true then ((stpM .quoted out cur b[k]).out, k + 1, 0) else goM (stpM .quoted out cur b[k]).m (stpM .quoted out cur b[k]).out (stpM .quoted out cur b[k]).cur (b.drop (k + 1)) (k + 1) := fun out => by
      rw [List.drop_eq_getElem_cons hlt, goM]
    generalize b[k] = c at *
    refine pwp_seq ?_
    first | refine pwp_sr ?_ | refine pwp_regionM ?_
    intro K hK
    simp (disch := first | (refine Ok.mk ?_; (try simp only [Lm, La, Lc, Ln, Lt, Ld, Lr, Li, true_or, or_true, true_and, and_true]); omega) | (simp <;> fail) | skip) [runM_nil, hxl]
    refine hK _ _ ?_
    clear hK K
    refine pwp_cT (by simp) (pwp_skip ?_)
    refine pwp_block ?_
    by_cases h34 : c = 34
    · subst h34
      have hst : ∀ out : List (List Nat), stpM .quoted out cur 34 = ⟨.closed, out, cur, false, 0⟩ := fun out => by simp [stpM]
      have hgo3 : ∀ out : List (List Nat), goM .quoted out [] (b.drop k0) k0 = goM .closed out cur (b.drop (k + 1)) (k + 1) := fun out => by rw [hgo out, hgo2 out, hst out]; simp
      clear hgo hgo2
      have hkn : ((k : Int) + 1).toNat = k + 1 := by omega
      have cE := ends_ok (s := 1) (o := false) hx (.inl rfl) hl (k + 1) (by omega)
      rw [Int.natCast_add, Int.natCast_one] at cE
      have v1 : ∀ o, cvSP (.lst 1 (cur.map u8) o) = some (.str (ci cur)) := fun o => cvS_u8 rfl (.inl rfl) hcw
      refine pwp_seq ?_
      first | refine pwp_rif ?_ | refine pwp_rifE ?_
      intro K hK
      simp (disch := first | (refine Ok.mk ?_; (try simp only [Lm, La, Lc, Ln, Lt, Ld, Lr, Li, true_or, or_true, true_and, and_true]); omega) | (simp <;> fail) | skip) [runM_nil, hxl, h1]
      refine hK _ _ ?_
      clear hK K
      refine ifF (by simp [runM_nil]) ?_
      by_cases hlt2 : k + 1 < b.length
      · have j2 : (k : Int) + 1 < b.length := by omega
        have h2 := hxg (k + 1) hlt2
        have hge2 : b[k + 1]? = some b[k + 1] := List.getElem?_eq_getElem hlt2
        have hgo4 : ∀ out : List (List Nat), goM .closed out cur (b.drop (k + 1)) (k + 1) = if (stpM .closed out cur b[k + 1]).e ≠ 0 then ([], 0, (stpM .closed out cur b[k + 1]).e) else
            if (stpM .closed out cur b[k + 1]).done = true then ((stpM .closed out cur b[k + 1]).out, k + 1 + 1, 0) else goM (stpM .closed out cur b[k + 1]).m (stpM .closed out cur b[k + 1]).out (stpM .closed out cur b[k + 1]).cur (b.drop (k + 1 + 1)) (k + 1 + 1) := fun out => by
          rw [List.drop_eq_getElem_cons hlt2, goM]
        by_cases hq : b[k + 1] = 34
        · rw [hq] at h2 hgo4
          have hst2 : ∀ out : List (List Nat), stpM .closed out cur 34 = addM .quoted out cur 34 := fun out => by simp [stpM]
          simp only [hst2] at hgo4
          first | refine pwp_rif ?_ | refine pwp_rifE ?_
          intro K hK
          simp (disch := first | (refine Ok.mk ?_; (try simp only [Lm, La, Lc, Ln, Lt, Ld, Lr, Li, true_or, or_true, true_and, and_true]); omega) | (simp <;> fail) | skip) [runM_nil, hxl, j2, hkn, h2]
          refine hK _ _ ?_
          clear hK K
          refine ifT (by simp (disch := first | (refine Ok.mk ?_; (try simp only [Lm, La, Lc, Ln, Lt, Ld, Lr, Li, true_or, or_true, true_and, and_true]); omega) | (simp <;> fail) | skip) [runM_nil]) ?_
          first | refine pwp_sr ?_ | refine pwp_regionM ?_
          intro K hK
          simp (disch := first | (refine Ok.mk ?_; (try simp only [Lm, La, Lc, Ln, Lt, Ld, Lr, Li, true_or, or_true, true_and, and_true]); omega) | (simp <;> fail) | skip) [runM_nil]
          refine hK _ _ ?_
          clear hK K
          first | refine pwp_sr ?_ | refine pwp_regionM ?_
          intro K hK
          simp (disch := first | (refine Ok.mk ?_; (try simp only [Lm, La, Lc, Ln, Lt, Ld, Lr, Li, true_or, or_true, true_and, and_true]); omega) | (simp <;> fail) | skip) [runM_nil]
          refine hK _ _ ?_
          clear hK K
          by_cases h1000 : 1000 < cur.length + 1
          · have i1000 : (1000 : Int) < cur.length + 1 := by omega
            first | refine pwp_rif ?_ | refine pwp_rifE ?_
            intro K hK
            simp (disch := first | (refine Ok.mk ?_; (try simp only [Lm, La, Lc, Ln, Lt, Ld, Lr, Li, true_or, or_true, true_and, and_true]); omega) | (simp <;> fail) | skip) [runM_nil, i1000]
            refine hK _ _ ?_
            clear hK K
            refine ifT (by simp (disch := first | (refine Ok.mk ?_; (try simp only [Lm, La, Lc, Ln, Lt, Ld, Lr, Li, true_or, or_true, true_and, and_true]); omega) | (simp <;> fail) | skip) [runM_nil]) ?_
            first | refine pwp_sr ?_ | refine pwp_regionM ?_
            intro K hK
            simp (disch := first | (refine Ok.mk ?_; (try simp only [Lm, La, Lc, Ln, Lt, Ld, Lr, Li, true_or, or_true, true_and, and_true]); omega) | (simp <;> fail) | skip) [runM_nil]
            refine hK _ _ ?_
            clear hK K
            refine pwp_ret ⟨.inr rfl, _, _, (by simp [runM_nil, resL]; rfl), .refl _, rfl, [], 0, 5, by simp [resV], fun _ out => ?_, fun h => by cases h⟩
            rw [hgo3 out, hgo4 out]
            simp [addM, h1000]
          · have i1000 : ¬ (1000 : Int) < cur.length + 1 := by omega
            first | refine pwp_rif ?_ | refine pwp_rifE ?_
            intro K hK
            simp (disch := first | (refine Ok.mk ?_; (try simp only [Lm, La, Lc, Ln, Lt, Ld, Lr, Li, true_or, or_true, true_and, and_true]); omega) | (simp <;> fail) | skip) [runM_nil, i1000]
            refine hK _ _ ?_
            clear hK K
            refine ifF (by simp [runM_nil, i1000]) (pwp_skip ?_)
            refine ⟨_, by omega, _, .refl _, k + 2, cur ++ [34], by omega, by omega, by rw [List.length_append]; simp; omega, fun x hx => ?_, fun out => ?_, rfl, rfl, by simp [keepL_MS, keepA, getS]⟩
            · rcases List.mem_append.1 hx with hx | hx
              · exact hcw x hx
              · simp only [List.mem_singleton] at hx
                omega
            · rw [hgo3 out, hgo4 out]
              simp [addM, h1000]
        · have gq : ¬ (b[k + 1] : Int) = 34 := by omega
          first | refine pwp_rif ?_ | refine pwp_rifE ?_
          intro K hK
          simp (disch := first | (refine Ok.mk ?_; (try simp only [Lm, La, Lc, Ln, Lt, Ld, Lr, Li, true_or, or_true, true_and, and_true]); omega) | (simp <;> fail) | skip) [runM_nil, hxl, j2, hkn, h2, gq]
          refine hK _ _ ?_
          clear hK K
          refine ifF (by simp [runM_nil, gq]) ?_
          first | refine pwp_sr ?_ | refine pwp_regionM ?_
          intro K hK
          simp (disch := first | (refine Ok.mk ?_; (try simp only [Lm, La, Lc, Ln, Lt, Ld, Lr, Li, true_or, or_true, true_and, and_true]); omega) | (simp <;> fail) | skip) [runM_nil]
          refine hK _ _ ?_
          clear hK K
          by_cases ht : termB b (k + 1)
          · -- the field ends
            have hfin : ∀ out : List (List Nat), goM .quoted out [] (b.drop k0) k0 = aftM out cur b (k + 1) := fun out => (hgo3 out).trans (goM_end (.inr (.inr rfl)) out cur b (k + 1) (by omega) ht)
            have hc := termB_cases ht hlt2
            refine pwp_seq ?_
            by_cases h44 : b[k + 1] = 44
            · rw [h44] at h2
              first | refine pwp_sr ?_ | refine pwp_regionM ?_
              intro K hK
              simp (disch := first | (refine Ok.mk ?_; (try simp only [Lm, La, Lc, Ln, Lt, Ld, Lr, Li, true_or, or_true, true_and, and_true]); omega) | (simp <;> fail) | skip) [runM_nil, hxl, j2, hkn, h2]
              refine hK _ _ ?_
              clear hK K
              refine pwp_cF (by simp) (pwp_skip ?_)
              first | refine pwp_sr ?_ | refine pwp_regionM ?_
              intro K hK
              simp (disch := first | (refine Ok.mk ?_; (try simp only [Lm, La, Lc, Ln, Lt, Ld, Lr, Li, true_or, or_true, true_and, and_true]); omega) | (simp <;> fail) | skip) [runM_nil, v1]
              refine hK _ _ ?_
              clear hK K
              refine pwp_ret ⟨.inr rfl, _, _, (by simp [runM_nil, resL]; rfl), .refl _, rfl, cur, k + 1, 0, by simp [resV], fun h => absurd rfl h, fun _ => ⟨by omega, by omega, hcw, hfin⟩⟩
            · have hE : endsB b (k + 1) ≠ 0 := by
                rcases hc with h | h | ⟨h, h2⟩
                · exact absurd h h44
                · simp [endsB, hge2, h]
                · simp [endsB, hge2, h, h2]
              have g44 : ¬ (b[k + 1] : Int) = 44 := by omega
              have gE : ¬ (endsB b (k + 1) : Int) = 0 := by omega
              generalize endsB b (k + 1) = E at *
              generalize b[k + 1] = c at *
              first | refine pwp_sr ?_ | refine pwp_regionM ?_
              intro K hK
              simp (disch := first | (refine Ok.mk ?_; (try simp only [Lm, La, Lc, Ln, Lt, Ld, Lr, Li, true_or, or_true, true_and, and_true]); omega) | (simp <;> fail) | skip) [runM_nil, hxl, j2, hkn, h2, g44, gE, hE]
              refine useP (cE) ?_
              simp (disch := first | (refine Ok.mk ?_; (try simp only [Lm, La, Lc, Ln, Lt, Ld, Lr, Li, true_or, or_true, true_and, and_true]); omega) | (simp <;> fail) | skip) [runM_nil, hxl, j2, hkn, h2, g44, gE, hE]
              refine hK _ _ ?_
              clear hK K
              refine pwp_cF (by simp [hE]) (pwp_skip ?_)
              first | refine pwp_sr ?_ | refine pwp_regionM ?_
              intro K hK
              simp (disch := first | (refine Ok.mk ?_; (try simp only [Lm, La, Lc, Ln, Lt, Ld, Lr, Li, true_or, or_true, true_and, and_true]); omega) | (simp <;> fail) | skip) [runM_nil, v1]
              refine hK _ _ ?_
              clear hK K
              refine pwp_ret ⟨.inr rfl, _, _, (by simp [runM_nil, resL]; rfl), .refl _, rfl, cur, k + 1, 0, by simp [resV], fun h => absurd rfl h, fun _ => ⟨by omega, by omega, hcw, hfin⟩⟩
          · -- it is wrong
            obtain ⟨n44, n10, n13⟩ := not_termB hlt2 ht
            have hE : endsB b (k + 1) = 0 := Nat.eq_zero_of_not_pos fun h => ht (.inr (.inr (by omega)))
            rw [hE] at cE
            have hbad : ∀ out : List (List Nat), goM .quoted out [] (b.drop k0) k0 = ([], 0, 3) := fun out => by
              rw [hgo3 out]
              by_cases h13 : b[k + 1] = 13
              · exact goM_bad13 .closed (.inr (.inr rfl)) out cur b (k + 1) hlt2 h13 fun h2 => n13 ⟨h13, h2⟩
              · rw [hgo4 out]
                simp [stpM, behindM, hq, n44, n10, h13]
            have g44 : ¬ (b[k + 1] : Int) = 44 := by omega
            generalize b[k + 1] = c at *
            refine pwp_seq ?_
            first | refine pwp_sr ?_ | refine pwp_regionM ?_
            intro K hK
            simp (disch := first | (refine Ok.mk ?_; (try simp only [Lm, La, Lc, Ln, Lt, Ld, Lr, Li, true_or, or_true, true_and, and_true]); omega) | (simp <;> fail) | skip) [runM_nil, hxl, j2, hkn, h2, g44]
            refine useP (cE) ?_
            simp (disch := first | (refine Ok.mk ?_; (try simp only [Lm, La, Lc, Ln, Lt, Ld, Lr, Li, true_or, or_true, true_and, and_true]); omega) | (simp <;> fail) | skip) [runM_nil, hxl, j2, hkn, h2, g44]
            refine hK _ _ ?_
            clear hK K
            refine pwp_cT (by simp) ?_
            first | refine pwp_sr ?_ | refine pwp_regionM ?_
            intro K hK
            simp (disch := first | (refine Ok.mk ?_; (try simp only [Lm, La, Lc, Ln, Lt, Ld, Lr, Li, true_or, or_true, true_and, and_true]); omega) | (simp <;> fail) | skip) [runM_nil]
            refine hK _ _ ?_
            clear hK K
            refine pwp_ret ⟨.inr rfl, _, _, (by simp [runM_nil, resL]; rfl), .refl _, rfl, [], 0, 3, by simp [resV], fun _ out => hbad out, fun h => by cases h⟩
      · have j2 : ¬ (k : Int) + 1 < b.length := by omega
        have ht : termB b (k + 1) := .inl (by omega)
        have hfin : ∀ out : List (List Nat), goM .quoted out [] (b.drop k0) k0 = aftM out cur b (k + 1) := fun out => (hgo3 out).trans (goM_end (.inr (.inr rfl)) out cur b (k + 1) (by omega) ht)
        first | refine pwp_rif ?_ | refine pwp_rifE ?_
        intro K hK
        simp (disch := first | (refine Ok.mk ?_; (try simp only [Lm, La, Lc, Ln, Lt, Ld, Lr, Li, true_or, or_true, true_and, and_true]); omega) | (simp <;> fail) | skip) [runM_nil, hxl, j2]
        refine hK _ _ ?_
        clear hK K
        refine ifF (by simp [runM_nil, j2]) ?_
        first | refine pwp_sr ?_ | refine pwp_regionM ?_
        intro K hK
        simp (disch := first | (refine Ok.mk ?_; (try simp only [Lm, La, Lc, Ln, Lt, Ld, Lr, Li, true_or, or_true, true_and, and_true]); omega) | (simp <;> fail) | skip) [runM_nil]
        refine hK _ _ ?_
        clear hK K
        refine pwp_seq ?_
        first | refine pwp_sr ?_ | refine pwp_regionM ?_
        intro K hK
        simp (disch := first | (refine Ok.mk ?_; (try simp only [Lm, La, Lc, Ln, Lt, Ld, Lr, Li, true_or, or_true, true_and, and_true]); omega) | (simp <;> fail) | skip) [runM_nil, hxl, j2]
        refine hK _ _ ?_
        clear hK K
        refine pwp_cF (by simp) (pwp_skip ?_)
        first | refine pwp_sr ?_ | refine pwp_regionM ?_
        intro K hK
        simp (disch := first | (refine Ok.mk ?_; (try simp only [Lm, La, Lc, Ln, Lt, Ld, Lr, Li, true_or, or_true, true_and, and_true]); omega) | (simp <;> fail) | skip) [runM_nil, v1]
        refine hK _ _ ?_
        clear hK K
        refine pwp_ret ⟨.inr rfl, _, _, (by simp [runM_nil, resL]; rfl), .refl _, rfl, cur, k + 1, 0, by simp [resV], fun h => absurd rfl h, fun _ => ⟨by omega, by omega, hcw, hfin⟩⟩
    · have g34 : ¬ (c : Int) = 34 := by omega
      have hst : ∀ out : List (List Nat), stpM .quoted out cur c = addM .quoted out cur c := fun out => by simp [stpM, h34]
      simp only [hst] at hgo2
      refine pwp_seq ?_
      first | refine pwp_rif ?_ | refine pwp_rifE ?_
      intro K hK
      simp (disch := first | (refine Ok.mk ?_; (try simp only [Lm, La, Lc, Ln, Lt, Ld, Lr, Li, true_or, or_true, true_and, and_true]); omega) | (simp <;> fail) | skip) [runM_nil, hxl, h1, g34]
      refine hK _ _ ?_
      clear hK K
      refine ifT (by simp [runM_nil, g34]) ?_
      first | refine pwp_sr ?_ | refine pwp_regionM ?_
      intro K hK
      simp (disch := first | (refine Ok.mk ?_; (try simp only [Lm, La, Lc, Ln, Lt, Ld, Lr, Li, true_or, or_true, true_and, and_true]); omega) | (simp <;> fail) | skip) [runM_nil, hxl, h1]
      refine hK _ _ ?_
      clear hK K
      first | refine pwp_sr ?_ | refine pwp_regionM ?_
      intro K hK
      simp (disch := first | (refine Ok.mk ?_; (try simp only [Lm, La, Lc, Ln, Lt, Ld, Lr, Li, true_or, or_true, true_and, and_true]); omega) | (simp <;> fail) | skip) [runM_nil]
      refine hK _ _ ?_
      clear hK K
      by_cases h1000 : 1000 < cur.length + 1
      · have i1000 : (1000 : Int) < cur.length + 1 := by omega
        first | refine pwp_rif ?_ | refine pwp_rifE ?_
        intro K hK
        simp (disch := first | (refine Ok.mk ?_; (try simp only [Lm, La, Lc, Ln, Lt, Ld, Lr, Li, true_or, or_true, true_and, and_true]); omega) | (simp <;> fail) | skip) [runM_nil, i1000]
        refine hK _ _ ?_
        clear hK K
        refine ifT (by simp (disch := first | (refine Ok.mk ?_; (try simp only [Lm, La, Lc, Ln, Lt, Ld, Lr, Li, true_or, or_true, true_and, and_true]); omega) | (simp <;> fail) | skip) [runM_nil]) ?_
        first | refine pwp_sr ?_ | refine pwp_regionM ?_
        intro K hK
        simp (disch := first | (refine Ok.mk ?_; (try simp only [Lm, La, Lc, Ln, Lt, Ld, Lr, Li, true_or, or_true, true_and, and_true]); omega) | (simp <;> fail) | skip) [runM_nil]
        refine hK _ _ ?_
        clear hK K
        refine pwp_ret ⟨.inr rfl, _, _, (by simp [runM_nil, resL]; rfl), .refl _, rfl, [], 0, 5, by simp [resV], fun _ out => ?_, fun h => by cases h⟩
        rw [hgo out, hgo2 out]
        simp [addM, h1000]
      · have i1000 : ¬ (1000 : Int) < cur.length + 1 := by omega
        first | refine pwp_rif ?_ | refine pwp_rifE ?_
        intro K hK
        simp (disch := first | (refine Ok.mk ?_; (try simp only [Lm, La, Lc, Ln, Lt, Ld, Lr, Li, true_or, or_true, true_and, and_true]); omega) | (simp <;> fail) | skip) [runM_nil, i1000]
        refine hK _ _ ?_
        clear hK K
        refine ifF (by simp [runM_nil, i1000]) (pwp_skip ?_)
        refine ⟨_, by omega, _, .refl _, k + 1, cur ++ [c], by omega, by omega, by rw [List.length_append]; simp; omega, fun x hx => ?_, fun out => ?_, rfl, rfl, by simp [keepL_MS, keepA, getS]⟩
        · rcases List.mem_append.1 hx with hx | hx
          · exact hcw x hx
          · simp only [List.mem_singleton] at hx
            omega
        · rw [hgo out, hgo2 out]
          simp [addM, h1000]
  · obtain rfl : k = b.length := by omega
    refine pwp_seq ?_
    first | refine pwp_sr ?_ | refine pwp_regionM ?_
    intro K hK
    simp (disch := first | (refine Ok.mk ?_; (try simp only [Lm, La, Lc, Ln, Lt, Ld, Lr, Li, true_or, or_true, true_and, and_true]); omega) | (simp <;> fail) | skip) [runM_nil, hxl]
    refine hK _ _ ?_
    clear hK K
    refine pwp_cF (by simp) (pwp_exit ?_)
    first | refine pwp_sr ?_ | refine pwp_regionM ?_
    intro K hK
    simp (disch := first | (refine Ok.mk ?_; (try simp only [Lm, La, Lc, Ln, Lt, Ld, Lr, Li, true_or, or_true, true_and, and_true]); omega) | (simp <;> fail) | skip) [runM_nil]
    refine hK _ _ ?_
    clear hK K
    refine pwp_ret ⟨.inr rfl, _, _, (by simp [runM_nil, resL]; rfl), .refl _, rfl, [], 0, 3, by simp [resV], fun _ out => ?_, fun h => by cases h⟩
    rw [hgo out, List.drop_length, goM]
    simp
end Go.Proofs.YtdphjapaoaokmaaDoor.E
/- The document's record. -/
namespace Go.Proofs.YtdphjapaoaokmaaDoor.E
open Go Go.RowKit Go.Proofs
set_option linter.unusedVariables false
set_option linter.unusedSimpArgs false
def rrecV (x : List (List Nat) × Nat × Nat) : PV := .tup [.lst 1 (x.1.map sV) true, .int .i64 (x.2.1 : Nat), .int .i64 (x.2.2 : Nat)]
theorem rrecord_ok {s : Nat} {xs : List PV} {o : Bool} {b : List Nat} (hx : xs = b.map u8) (hs : s = 1 ∨ b.length = 0) (hw : ∀ x ∈ b, x < 256) (hl : b.length ≤ 1000000) (k0 : Nat) (hk0 : k0 ≤ b.length) :
    PSpec Tryd.prog 28 [.lst s xs o, .int .i64 k0] (rrecV (recM b k0)) := by
  intro H
  have hxl : xs.length = b.length := by rw [hx, List.length_map]
  have hxg : ∀ i (h : i < b.length), xs[i]? = some (.int .u8 (b[i] : Nat)) := fun i h => by rw [hx, List.getElem?_map, List.getElem?_eq_getElem h]; rfl
  refine spec_ofU t28 (by simp [p28]) ?_
  simp only [p28]
  first | refine pwp_sr ?_ | refine pwp_regionM ?_
  intro K hK
  simp (disch := first | (refine Ok.mk ?_; (try simp only [Lm, La, Lc, Ln, Lt, Ld, Lr, Li, true_or, or_true, true_and, and_true]); omega) | (simp <;> fail) | skip) [runM_nil]
  refine hK _ _ ?_
  clear hK K
  first | refine pwp_sr ?_ | refine pwp_regionM ?_
  intro K hK
  simp (disch := first | (refine Ok.mk ?_; (try simp only [Lm, La, Lc, Ln, Lt, Ld, Lr, Li, true_or, or_true, true_and, and_true]); omega) | (simp <;> fail) | skip) [runM_nil]
  refine hK _ _ ?_
  clear hK K
  refine pwp_block ?_
  refine pwp_loopK [0, 1, 7] (fun q st H' => ∃ (k : Nat) (out : List (List Nat)), k ≤ b.length ∧ out.length ≤ 50 ∧ (out.length = 50 ∧ recM b k0 = ([], 0, 5) ∨ out.length < 50 ∧ recM b k0 = goM .begin out [] (b.drop k) k) ∧
      q = b.length - k + (50 - out.length) ∧ H' = H ∧ st = MS 68 [(0, .lst s xs o), (1, .int .i64 k), (7, .lst 1 (out.map sV) true)]) (n := b.length - k0 + 50)
    ⟨_, .refl _, k0, [], hk0, by simp, .inr ⟨by simp, rfl⟩, rfl, rfl, by simp [keepL_MS, keepA, getS]⟩ ?_
  rintro q st H' ⟨k, out, hk, hol, hcase, rfl, hH, rfl⟩
  subst hH
  refine pwp_block ?_
  rcases hcase with ⟨h50, hrec⟩ | ⟨h50, hrec⟩
  · have i50 : (out.length : Int) = 50 := by omega
    first | refine pwp_rif ?_ | refine pwp_rifE ?_
    intro K hK
    simp (disch := first | (refine Ok.mk ?_; (try simp only [Lm, La, Lc, Ln, Lt, Ld, Lr, Li, true_or, or_true, true_and, and_true]); omega) | (simp <;> fail) | skip) [runM_nil, i50]
    refine hK _ _ ?_
    clear hK K
    refine ifT (by simp [runM_nil, i50]) ?_
    first | refine pwp_sr ?_ | refine pwp_regionM ?_
    intro K hK
    simp (disch := first | (refine Ok.mk ?_; (try simp only [Lm, La, Lc, Ln, Lt, Ld, Lr, Li, true_or, or_true, true_and, and_true]); omega) | (simp <;> fail) | skip) [runM_nil]
    refine hK _ _ ?_
    clear hK K
    refine pwp_ret ⟨.inr rfl, _, _, _, (by simp [runM_nil, resL]; rfl), .refl _, ?_, rfl, rfl⟩
    rw [hrec]
    simp [resV, rrecV]
  · have i50 : ¬ (out.length : Int) = 50 := by omega
    first | refine pwp_rif ?_ | refine pwp_rifE ?_
    intro K hK
    simp (disch := first | (refine Ok.mk ?_; (try simp only [Lm, La, Lc, Ln, Lt, Ld, Lr, Li, true_or, or_true, true_and, and_true]); omega) | (simp <;> fail) | skip) [runM_nil, i50]
    refine hK _ _ ?_
    clear hK K
    refine ifF (by simp [runM_nil, i50]) (pwp_skip ?_)
    first | refine pwp_sr ?_ | refine pwp_regionM ?_
    intro K hK
    simp (disch := first | (refine Ok.mk ?_; (try simp only [Lm, La, Lc, Ln, Lt, Ld, Lr, Li, true_or, or_true, true_and, and_true]); omega) | (simp <;> fail) | skip) [runM_nil]
    refine hK _ _ ?_
    clear hK K
    refine pwp_cut [0, 1, 7, 8, 9, 10] (fun st' H2 => ∃ (f : List Nat) (k' e : Nat), (e ≠ 0 → recM b k0 = ([], 0, e)) ∧ (e = 0 → k ≤ k' ∧ k' ≤ b.length ∧ recM b k0 = aftM out f b k') ∧ H2 = H' ∧
      st' = MS 68 [(0, .lst s xs o), (1, .int .i64 k), (7, .lst 1 (out.map sV) true), (8, .str (ci f)), (9, .int .i64 k'), (10, .int .i64 e)]) ?_ ?_
    · by_cases hlt : k < b.length
      · obtain rfl : s = 1 := hs.resolve_right (by omega)
        have h1 := hxg k hlt
        have hge : b[k]? = some b[k] := List.getElem?_eq_getElem hlt
        have hdr : b.drop k = b[k] :: b.drop (k + 1) := List.drop_eq_getElem_cons hlt
        by_cases h34 : b[k] = 34
        · have c := rquoted_ok (H := H') (s := 1) (o := false) hx (.inl rfl) hw hl (k + 1) (by omega)
          rw [Int.natCast_add, Int.natCast_one] at c
          rw [hdr, h34, goM] at hrec
          rw [h34] at h1
          first | refine pwp_rif ?_ | refine pwp_rifE ?_
          intro K hK
          simp (disch := first | (refine Ok.mk ?_; (try simp only [Lm, La, Lc, Ln, Lt, Ld, Lr, Li, true_or, or_true, true_and, and_true]); omega) | (simp <;> fail) | skip) [runM_nil, hxl, h1]
          refine hK _ _ ?_
          clear hK K
          refine ifT (by simp (disch := first | (refine Ok.mk ?_; (try simp only [Lm, La, Lc, Ln, Lt, Ld, Lr, Li, true_or, or_true, true_and, and_true]); omega) | (simp <;> fail) | skip) [runM_nil]) ?_
          first | refine pwp_sr ?_ | refine pwp_regionM ?_
          intro K hK
          simp (disch := first | (refine Ok.mk ?_; (try simp only [Lm, La, Lc, Ln, Lt, Ld, Lr, Li, true_or, or_true, true_and, and_true]); omega) | (simp <;> fail) | skip) [runM_nil]
          refine useH c ?_
          try simp (disch := first | (refine Ok.mk ?_; (try simp only [Lm, La, Lc, Ln, Lt, Ld, Lr, Li, true_or, or_true, true_and, and_true]); omega) | (simp <;> fail) | skip) [runM_nil]
          rintro v H2 ⟨hH, f, k', e, rfl, q1, q2⟩
          try simp (disch := first | (refine Ok.mk ?_; (try simp only [Lm, La, Lc, Ln, Lt, Ld, Lr, Li, true_or, or_true, true_and, and_true]); omega) | (simp <;> fail) | skip) [runM_nil]
          subst hH
          try simp (disch := first | (refine Ok.mk ?_; (try simp only [Lm, La, Lc, Ln, Lt, Ld, Lr, Li, true_or, or_true, true_and, and_true]); omega) | (simp <;> fail) | skip) [runM_nil]
          refine hK _ _ ?_
          clear hK K
          refine cut_to (by simp [keepA, getS]) (.refl _) ⟨f, k', e, fun he => ?_, fun he => ?_, rfl, rfl⟩
          · rw [hrec, ← q1 he out]
            simp [stpM]
          · obtain ⟨k1, k2, _, k4⟩ := q2 he
            refine ⟨by omega, k2, ?_⟩
            rw [hrec, ← k4 out]
            simp [stpM]
        · have g34 : ¬ (b[k] : Int) = 34 := by omega
          have c := rplain_ok (H := H') (s := 1) (o := false) hx (.inl rfl) hw hl k hk (by rw [hge]; simpa using h34)
          first | refine pwp_rif ?_ | refine pwp_rifE ?_
          intro K hK
          simp (disch := first | (refine Ok.mk ?_; (try simp only [Lm, La, Lc, Ln, Lt, Ld, Lr, Li, true_or, or_true, true_and, and_true]); omega) | (simp <;> fail) | skip) [runM_nil, hxl, h1, g34]
          refine hK _ _ ?_
          clear hK K
          refine ifF (by simp [runM_nil, g34]) ?_
          first | refine pwp_sr ?_ | refine pwp_regionM ?_
          intro K hK
          simp (disch := first | (refine Ok.mk ?_; (try simp only [Lm, La, Lc, Ln, Lt, Ld, Lr, Li, true_or, or_true, true_and, and_true]); omega) | (simp <;> fail) | skip) [runM_nil]
          refine useH c ?_
          try simp (disch := first | (refine Ok.mk ?_; (try simp only [Lm, La, Lc, Ln, Lt, Ld, Lr, Li, true_or, or_true, true_and, and_true]); omega) | (simp <;> fail) | skip) [runM_nil]
          rintro v H2 ⟨hH, f, k', e, rfl, q1, q2⟩
          try simp (disch := first | (refine Ok.mk ?_; (try simp only [Lm, La, Lc, Ln, Lt, Ld, Lr, Li, true_or, or_true, true_and, and_true]); omega) | (simp <;> fail) | skip) [runM_nil]
          subst hH
          try simp (disch := first | (refine Ok.mk ?_; (try simp only [Lm, La, Lc, Ln, Lt, Ld, Lr, Li, true_or, or_true, true_and, and_true]); omega) | (simp <;> fail) | skip) [runM_nil]
          refine hK _ _ ?_
          clear hK K
          refine cut_to (by simp [keepA, getS]) (.refl _) ⟨f, k', e, fun he => by rw [hrec, q1 he out], fun he => ?_, rfl, rfl⟩
          obtain ⟨k1, k2, _, k4⟩ := q2 he
          exact ⟨k1, k2, by rw [hrec, k4 out]⟩
      · have c := rplain_ok (H := H') (o := false) hx hs hw hl k hk (by rw [List.getElem?_eq_none (by omega)]; simp)
        have hlt2 : ¬ (k : Int) < b.length := by omega
        first | refine pwp_rif ?_ | refine pwp_rifE ?_
        intro K hK
        simp (disch := first | (refine Ok.mk ?_; (try simp only [Lm, La, Lc, Ln, Lt, Ld, Lr, Li, true_or, or_true, true_and, and_true]); omega) | (simp <;> fail) | skip) [runM_nil, hxl, hlt2]
        refine hK _ _ ?_
        clear hK K
        refine ifF (by simp [runM_nil, hlt2]) ?_
        first | refine pwp_sr ?_ | refine pwp_regionM ?_
        intro K hK
        simp (disch := first | (refine Ok.mk ?_; (try simp only [Lm, La, Lc, Ln, Lt, Ld, Lr, Li, true_or, or_true, true_and, and_true]); omega) | (simp <;> fail) | skip) [runM_nil]
        refine useH c ?_
        try simp (disch := first | (refine Ok.mk ?_; (try simp only [Lm, La, Lc, Ln, Lt, Ld, Lr, Li, true_or, or_true, true_and, and_true]); omega) | (simp <;> fail) | skip) [runM_nil]
        rintro v H2 ⟨hH, f, k', e, rfl, q1, q2⟩
        try simp (disch := first | (refine Ok.mk ?_; (try simp only [Lm, La, Lc, Ln, Lt, Ld, Lr, Li, true_or, or_true, true_and, and_true]); omega) | (simp <;> fail) | skip) [runM_nil]
        subst hH
        try simp (disch := first | (refine Ok.mk ?_; (try simp only [Lm, La, Lc, Ln, Lt, Ld, Lr, Li, true_or, or_true, true_and, and_true]); omega) | (simp <;> fail) | skip) [runM_nil]
        refine hK _ _ ?_
        clear hK K
        refine cut_to (by simp [keepA, getS]) (.refl _) ⟨f, k', e, fun he => by rw [hrec, q1 he out], fun he => ?_, rfl, rfl⟩
        obtain ⟨k1, k2, _, k4⟩ := q2 he
        exact ⟨k1, k2, by rw [hrec, k4 out]⟩
    · rintro _ _ ⟨f, k', e, q1, q2, rfl, rfl⟩
      clear hrec
      by_cases he : e = 0
      · subst he
        obtain ⟨k1, k2, hrec⟩ := q2 rfl
        unfold aftM at hrec
        have cE := ends_ok (o := false) hx hs hl k' (by omega)
        have hE2 : endsB b k' ≤ 2 := by
          unfold endsB
          split
          · omega
          · split <;> omega
        first | refine pwp_rif ?_ | refine pwp_rifE ?_
        intro K hK
        simp (disch := first | (refine Ok.mk ?_; (try simp only [Lm, La, Lc, Ln, Lt, Ld, Lr, Li, true_or, or_true, true_and, and_true]); omega) | (simp <;> fail) | skip) [runM_nil]
        refine hK _ _ ?_
        clear hK K
        refine ifF (by simp [runM_nil]) (pwp_skip ?_)
        first | refine pwp_sr ?_ | refine pwp_regionM ?_
        intro K hK
        simp (disch := first | (refine Ok.mk ?_; (try simp only [Lm, La, Lc, Ln, Lt, Ld, Lr, Li, true_or, or_true, true_and, and_true]); omega) | (simp <;> fail) | skip) [runM_nil]
        refine hK _ _ ?_
        clear hK K
        first | refine pwp_sr ?_ | refine pwp_regionM ?_
        intro K hK
        simp (disch := first | (refine Ok.mk ?_; (try simp only [Lm, La, Lc, Ln, Lt, Ld, Lr, Li, true_or, or_true, true_and, and_true]); omega) | (simp <;> fail) | skip) [runM_nil]
        refine hK _ _ ?_
        clear hK K
        by_cases hlt : k' < b.length
        · obtain rfl : s = 1 := hs.resolve_right (by omega)
          have h1 := hxg k' hlt
          have hge : b[k']? = some b[k'] := List.getElem?_eq_getElem hlt
          rw [hge] at hrec
          by_cases h44 : b[k'] = 44
          · rw [h44] at hrec h1
            rw [if_pos rfl] at hrec
            first | refine pwp_rif ?_ | refine pwp_rifE ?_
            intro K hK
            simp (disch := first | (refine Ok.mk ?_; (try simp only [Lm, La, Lc, Ln, Lt, Ld, Lr, Li, true_or, or_true, true_and, and_true]); omega) | (simp <;> fail) | skip) [runM_nil, hxl, h1]
            refine hK _ _ ?_
            clear hK K
            refine ifT (by simp (disch := first | (refine Ok.mk ?_; (try simp only [Lm, La, Lc, Ln, Lt, Ld, Lr, Li, true_or, or_true, true_and, and_true]); omega) | (simp <;> fail) | skip) [runM_nil]) ?_
            first | refine pwp_sr ?_ | refine pwp_regionM ?_
            intro K hK
            simp (disch := first | (refine Ok.mk ?_; (try simp only [Lm, La, Lc, Ln, Lt, Ld, Lr, Li, true_or, or_true, true_and, and_true]); omega) | (simp <;> fail) | skip) [runM_nil]
            refine hK _ _ ?_
            clear hK K
            refine pwp_exit ?_
            refine ⟨_, ?_, _, .refl _, k' + 1, out ++ [f], by omega, by rw [List.length_append]; simp; omega, ?_, rfl, rfl, by simp [keepL_MS, keepA, getS, sV]⟩
            · rw [List.length_append, List.length_singleton]
              omega
            · rw [List.length_append, List.length_singleton]
              by_cases h49 : out.length + 1 = 50
              · rw [if_pos h49] at hrec
                exact .inl ⟨h49, hrec⟩
              · rw [if_neg h49] at hrec
                exact .inr ⟨by omega, hrec⟩
          · have g44 : ¬ (b[k'] : Int) = 44 := by omega
            rw [if_neg (by simpa using h44)] at hrec
            first | refine pwp_rif ?_ | refine pwp_rifE ?_
            intro K hK
            simp (disch := first | (refine Ok.mk ?_; (try simp only [Lm, La, Lc, Ln, Lt, Ld, Lr, Li, true_or, or_true, true_and, and_true]); omega) | (simp <;> fail) | skip) [runM_nil, hxl, h1, g44]
            refine hK _ _ ?_
            clear hK K
            refine ifF (by simp [runM_nil, g44]) (pwp_skip ?_)
            first | refine pwp_sr ?_ | refine pwp_regionM ?_
            intro K hK
            simp (disch := first | (refine Ok.mk ?_; (try simp only [Lm, La, Lc, Ln, Lt, Ld, Lr, Li, true_or, or_true, true_and, and_true]); omega) | (simp <;> fail) | skip) [runM_nil]
            refine useP (cE) ?_
            simp (disch := first | (refine Ok.mk ?_; (try simp only [Lm, La, Lc, Ln, Lt, Ld, Lr, Li, true_or, or_true, true_and, and_true]); omega) | (simp <;> fail) | skip) [runM_nil]
            refine hK _ _ ?_
            clear hK K
            refine pwp_ret ⟨.inr rfl, _, _, _, (by simp [runM_nil, resL]; rfl), .refl _, ?_, rfl, rfl⟩
            rw [hrec]
            simp [resV, rrecV, sV]
        · have hlt2 : ¬ (k' : Int) < b.length := by omega
          rw [List.getElem?_eq_none (by omega), if_neg (by simp)] at hrec
          first | refine pwp_rif ?_ | refine pwp_rifE ?_
          intro K hK
          simp (disch := first | (refine Ok.mk ?_; (try simp only [Lm, La, Lc, Ln, Lt, Ld, Lr, Li, true_or, or_true, true_and, and_true]); omega) | (simp <;> fail) | skip) [runM_nil, hxl, hlt2]
          refine hK _ _ ?_
          clear hK K
          refine ifF (by simp [runM_nil, hlt2]) (pwp_skip ?_)
          first | refine pwp_sr ?_ | refine pwp_regionM ?_
          intro K hK
          simp (disch := first | (refine Ok.mk ?_; (try simp only [Lm, La, Lc, Ln, Lt, Ld, Lr, Li, true_or, or_true, true_and, and_true]); omega) | (simp <;> fail) | skip) [runM_nil]
          refine useP (cE) ?_
          simp (disch := first | (refine Ok.mk ?_; (try simp only [Lm, La, Lc, Ln, Lt, Ld, Lr, Li, true_or, or_true, true_and, and_true]); omega) | (simp <;> fail) | skip) [runM_nil]
          refine hK _ _ ?_
          clear hK K
          refine pwp_ret ⟨.inr rfl, _, _, _, (by simp [runM_nil, resL]; rfl), .refl _, ?_, rfl, rfl⟩
          rw [hrec]
          simp [resV, rrecV, sV]
      · have hrec := q1 he
        have ge : ¬ (e : Int) = 0 := by omega
        first | refine pwp_rif ?_ | refine pwp_rifE ?_
        intro K hK
        simp (disch := first | (refine Ok.mk ?_; (try simp only [Lm, La, Lc, Ln, Lt, Ld, Lr, Li, true_or, or_true, true_and, and_true]); omega) | (simp <;> fail) | skip) [runM_nil, ge, he]
        refine hK _ _ ?_
        clear hK K
        refine ifT (by simp [runM_nil, ge, he]) ?_
        first | refine pwp_sr ?_ | refine pwp_regionM ?_
        intro K hK
        simp (disch := first | (refine Ok.mk ?_; (try simp only [Lm, La, Lc, Ln, Lt, Ld, Lr, Li, true_or, or_true, true_and, and_true]); omega) | (simp <;> fail) | skip) [runM_nil]
        refine hK _ _ ?_
        clear hK K
        refine pwp_ret ⟨.inr rfl, _, _, _, (by simp [runM_nil, resL]; rfl), .refl _, ?_, rfl, rfl⟩
        rw [hrec]
        simp [resV, rrecV]
end Go.Proofs.YtdphjapaoaokmaaDoor.E
/- Records one behind the other, and where they begin, in plain terms. -/
namespace Go.Proofs.YtdphjapaoaokmaaDoor.E
open Go Go.RowKit Go.Proofs
set_option linter.unusedVariables false
set_option linter.unusedSimpArgs false
/-- Is the number of quotes ahead of a place odd? -/
def parM : Bool → List Nat → Bool
  | p, [] => p
  | p, c :: s => parM (if c = 34 then !p else p) s
def par (b : List Nat) (k : Nat) : Bool := parM false (b.take k)
theorem parM_append : ∀ (a s : List Nat) (p : Bool), parM p (a ++ s) = parM (parM p a) s
  | [], s, p => rfl
  | c :: a, s, p => parM_append a s _
theorem par_succ {b : List Nat} {k : Nat} (h : k < b.length) : par b (k + 1) = if b[k] = 34 then !par b k else par b k := by
  unfold par
  rw [List.take_succ_eq_append_getElem h, parM_append]
  rfl
theorem par_zero (b : List Nat) : par b 0 = false := rfl
/-- The end of the line that is open. -/
def scanF : List Nat → Nat → Bool → Nat
  | [], k, _ => k
  | c :: s, k, p => if c = 34 then scanF s (k + 1) (!p) else if c = 10 ∧ p = false then k + 1 else scanF s (k + 1) p
theorem scanF_ge : ∀ (s : List Nat) (k : Nat) (p : Bool), k ≤ scanF s k p
  | [], k, p => Nat.le_refl _
  | c :: s, k, p => by
    unfold scanF
    have h1 := scanF_ge s (k + 1) (!p)
    have h2 := scanF_ge s (k + 1) p
    split
    · omega
    · split <;> omega
def firstB (b : List Nat) (k : Nat) (p : Bool) : Nat := if k = 0 ∨ (b[k - 1]? = some 10 ∧ p = false) then k else scanF (b.drop k) k p
theorem firstB_ge (b : List Nat) (k : Nat) (p : Bool) : k ≤ firstB b k p := by
  unfold firstB
  split
  · exact Nat.le_refl _
  · exact scanF_ge _ _ _
/-- What a record that is right says of its bytes. -/
structure EndR (b : List Nat) (k k' : Nat) : Prop where
  le : k ≤ k'
  le2 : k' ≤ b.length
  lt : k < b.length → k < k'
  par : par b k' = false
  nl : k' = b.length ∨ (0 < k' ∧ b[k' - 1]? = some 10)
  mid : ∀ j, k ≤ j → j < k' → (j = k ∨ ¬ (b[j - 1]? = some 10 ∧ E.par b j = false)) ∧ scanF (b.drop j) j (E.par b j) = k'
theorem stpM_ten {m : Md} {out : List (List Nat)} {cur : List Nat} (hm : m ≠ .wrong ∧ m ≠ .none) (hq : m ≠ .quoted) : stpM m out cur 10 = ⟨.none, out ++ [cur], [], true, 0⟩ := by
  cases m <;> first | (exact absurd rfl hm.1) | (exact absurd rfl hm.2) | (exact absurd rfl hq) | simp [stpM, plainM, behindM]
theorem stpM_done {m : Md} {out : List (List Nat)} {cur : List Nat} {c : Nat} (hm : m ≠ .wrong ∧ m ≠ .none) (hd : (stpM m out cur c).done = true) : c = 10 ∧ m ≠ .quoted := by
  have hb : (behindM out cur c).done = true → c = 10 := fun h => by
    unfold behindM at h
    split at h
    · cases h
    · split at h
      · assumption
      · split at h <;> cases h
  cases m with
  | begin =>
    simp only [stpM, plainM] at hd
    split at hd
    · cases hd
    · split at hd
      · exact ⟨hb hd, by simp⟩
      · first | cases hd | (split at hd <;> cases hd)
  | plain =>
    simp only [stpM, plainM] at hd
    split at hd
    · exact ⟨hb hd, by simp⟩
    · split at hd <;> cases hd
  | quoted =>
    simp only [stpM] at hd
    split at hd <;> cases hd
  | closed =>
    simp only [stpM] at hd
    split at hd
    · cases hd
    · exact ⟨hb hd, by simp⟩
  | ended =>
    simp only [stpM] at hd
    split at hd
    · exact ⟨hb hd, by simp⟩
    · cases hd
  | wrong => exact absurd rfl hm.1
  | none => exact absurd rfl hm.2
theorem goM_end2 {b : List Nat} (hw : ∀ x ∈ b, x < 256) : ∀ (n k : Nat) (m : Md) (out : List (List Nat)) (cur : List Nat) (r : List (List Nat)) (k' : Nat), b.length - k ≤ n → k ≤ b.length → GoodM m out cur → (m = .quoted ↔ par b k = true) →
    goM m out cur (b.drop k) k = (r, k', 0) → EndR b k k'
  | 0, k, m, out, cur, r, k', hn, hk, hG, hq, hg => by
    obtain rfl : k = b.length := by omega
    rw [List.drop_length, goM] at hg
    split at hg
    · cases hg
    · rename_i h
      simp only [Prod.mk.injEq, and_true] at hg
      obtain ⟨_, rfl⟩ := hg
      have hp : par b b.length = false := by
        cases hp : par b b.length with
        | false => rfl
        | true => exact absurd (.inl (hq.2 hp)) h
      exact ⟨Nat.le_refl _, Nat.le_refl _, fun h => by omega, hp, .inl rfl, fun j h1 h2 => by omega⟩
  | n + 1, k, m, out, cur, r, k', hn, hk, hG, hq, hg => by
    by_cases hlt : k < b.length
    · have hps := par_succ hlt
      have hcb := hw _ (List.getElem_mem hlt)
      have hge : b[k]? = some b[k] := List.getElem?_eq_getElem hlt
      have hdr : b.drop k = b[k] :: b.drop (k + 1) := List.drop_eq_getElem_cons hlt
      rw [hdr, goM] at hg
      generalize b[k] = c at *
      split at hg
      · rename_i he
        simp only [Prod.mk.injEq] at hg
        exact absurd hg.2.2 he
      · rename_i he
        have he := Decidable.not_not.1 he
        split at hg
        · rename_i hd
          obtain ⟨rfl, hmq⟩ := stpM_done hG.md hd
          simp only [Prod.mk.injEq, and_true] at hg
          obtain ⟨_, rfl⟩ := hg
          have hp : par b k = false := by
            cases hp : par b k with
            | false => rfl
            | true => exact absurd (hq.2 hp) hmq
          refine ⟨by omega, by omega, fun _ => by omega, by rw [hps, hp]; simp, .inr ⟨by omega, by simpa using hge⟩, fun j h1 h2 => ?_⟩
          obtain rfl : j = k := by omega
          refine ⟨.inl rfl, ?_⟩
          rw [hdr, scanF, hp]
          simp
        · rename_i hd
          have hd : (stpM m out cur c).done = false := by simpa using hd
          obtain ⟨g1, g2, g3⟩ := stpM_good hG hcb he hd
          have hq2 : (stpM m out cur c).m = .quoted ↔ par b (k + 1) = true := by
            rw [g2, hps, hq]
            by_cases h34 : c = 34 <;> cases par b k <;> simp [h34]
          have ih := goM_end2 hw n (k + 1) _ _ _ r k' (by omega) (by omega) g1 hq2 hg
          have h10 : ¬ (c = 10 ∧ par b k = false) := fun ⟨h1, h2⟩ => by
            have hmq : m ≠ .quoted := fun h => by
              have := hq.1 h
              rw [h2] at this
              cases this
            rw [h1, stpM_ten hG.md hmq] at hd
            cases hd
          have hk1 : k + 1 ≤ k' := ih.le
          have hsc : scanF (b.drop k) k (par b k) = scanF (b.drop (k + 1)) (k + 1) (par b (k + 1)) := by
            rw [hdr, scanF, hps]
            by_cases h34 : c = 34
            · rw [if_pos h34, if_pos h34]
            · rw [if_neg h34, if_neg h34, if_neg h10]
          refine ⟨by omega, ih.le2, fun _ => by omega, ih.par, ih.nl, fun j h1 h2 => ?_⟩
          by_cases hj : j = k
          · subst hj
            refine ⟨.inl rfl, ?_⟩
            rw [hsc]
            by_cases hk2 : j + 1 < k'
            · exact (ih.mid (j + 1) (Nat.le_refl _) hk2).2
            · obtain rfl : k' = j + 1 := by omega
              have hl : b.length = j + 1 := by
                have := ih.lt
                omega
              rw [List.drop_eq_nil_of_le (by omega), scanF]
          · obtain ⟨q1, q2⟩ := ih.mid j (by omega) h2
            refine ⟨.inr ?_, q2⟩
            rcases q1 with rfl | q1
            · rw [Nat.add_sub_cancel, hge]
              rintro ⟨e1, e2⟩
              obtain rfl := Option.some.inj e1
              rw [hps, if_neg (by simp)] at e2
              exact h10 ⟨rfl, e2⟩
            · exact q1
    · obtain rfl : k = b.length := by omega
      exact goM_end2 hw 0 b.length m out cur r k' (by omega) hk hG hq hg
theorem recM_end {b : List Nat} (hw : ∀ x ∈ b, x < 256) {k : Nat} (hk : k ≤ b.length) (hp : par b k = false) {r : List (List Nat)} {k' : Nat} (h : recM b k = (r, k', 0)) : EndR b k k' :=
  goM_end2 hw _ k .begin [] [] r k' (Nat.le_refl _) hk ⟨by simp, by simp, by simp, by simp⟩ (by simp [hp]) h
/-- The pieces from a place on. -/
def scanM (b : List Nat) : Nat → Nat → List (Nat × List (List Nat)) × Nat × Nat
  | 0, k => ([], k, 0)
  | n + 1, k => if b.length ≤ k then ([], k, 0) else if (recM b k).2.2 ≠ 0 then ([], k, (recM b k).2.2) else
    ((k, (recM b k).1) :: (scanM b n (recM b k).2.1).1, (scanM b n (recM b k).2.1).2.1, (scanM b n (recM b k).2.1).2.2)
def scanB (b : List Nat) (k : Nat) : List (Nat × List (List Nat)) × Nat × Nat := scanM b (b.length - k) k
theorem scanM_fuel {b : List Nat} (hw : ∀ x ∈ b, x < 256) : ∀ (n n' k : Nat), k ≤ b.length → par b k = false → b.length - k ≤ n → b.length - k ≤ n' → scanM b n k = scanM b n' k
  | 0, 0, k, hk, hp, h1, h2 => rfl
  | 0, n' + 1, k, hk, hp, h1, h2 => by rw [scanM, scanM, if_pos (by omega)]
  | n + 1, 0, k, hk, hp, h1, h2 => by rw [scanM, scanM, if_pos (by omega)]
  | n + 1, n' + 1, k, hk, hp, h1, h2 => by
    rw [scanM, scanM]
    by_cases hl : b.length ≤ k
    · rw [if_pos hl, if_pos hl]
    · rw [if_neg hl, if_neg hl]
      by_cases he : (recM b k).2.2 ≠ 0
      · rw [if_pos he, if_pos he]
      · rw [if_neg he, if_neg he]
        have he := Decidable.not_not.1 he
        have hE := recM_end hw hk hp (r := (recM b k).1) (k' := (recM b k).2.1) (by rw [← he])
        have := hE.lt (by omega)
        rw [scanM_fuel hw n n' _ hE.le2 hE.par (by omega) (by omega)]
theorem scanB_end {b : List Nat} : scanB b b.length = ([], b.length, 0) := by
  unfold scanB
  rw [Nat.sub_self]
  rfl
theorem scanB_bad {b : List Nat} {k : Nat} (hk : k < b.length) (he : (recM b k).2.2 ≠ 0) : scanB b k = ([], k, (recM b k).2.2) := by
  unfold scanB
  obtain ⟨n, hn⟩ : ∃ n, b.length - k = n + 1 := ⟨b.length - k - 1, by omega⟩
  rw [hn, scanM, if_neg (by omega), if_pos he]
theorem scanB_step {b : List Nat} (hw : ∀ x ∈ b, x < 256) {k : Nat} (hk : k < b.length) (hp : par b k = false) (he : (recM b k).2.2 = 0) :
    scanB b k = ((k, (recM b k).1) :: (scanB b (recM b k).2.1).1, (scanB b (recM b k).2.1).2.1, (scanB b (recM b k).2.1).2.2) := by
  have hE := recM_end hw (by omega) hp (r := (recM b k).1) (k' := (recM b k).2.1) (by rw [← he])
  have := hE.lt hk
  have hsc : scanB b k = scanM b (b.length - k) k := rfl
  obtain ⟨n, hn⟩ : ∃ n, b.length - k = n + 1 := ⟨b.length - k - 1, by omega⟩
  rw [hsc, hn, scanM, if_neg (by omega), if_neg (by simp [he])]
  have e : scanM b n (recM b k).2.1 = scanB b (recM b k).2.1 := scanM_fuel hw n _ _ hE.le2 hE.par (by omega) (Nat.le_refl _)
  rw [e]
/-- Where a record may begin. -/
structure Bd (b : List Nat) (k : Nat) : Prop where
  le : k ≤ b.length
  par : par b k = false
  nl : k = 0 ∨ k = b.length ∨ (0 < k ∧ b[k - 1]? = some 10)
theorem Bd.zero (b : List Nat) : Bd b 0 := ⟨Nat.zero_le _, par_zero b, .inl rfl⟩
theorem Bd.next {b : List Nat} (hw : ∀ x ∈ b, x < 256) {k : Nat} (h : Bd b k) (he : (recM b k).2.2 = 0) : Bd b (recM b k).2.1 ∧ EndR b k (recM b k).2.1 := by
  have hE := recM_end hw h.le h.par (r := (recM b k).1) (k' := (recM b k).2.1) (by rw [← he])
  exact ⟨⟨hE.le2, hE.par, .inr hE.nl⟩, hE⟩
theorem Bd.first {b : List Nat} {k : Nat} (h : Bd b k) : firstB b k (E.par b k) = k := by
  unfold firstB
  rw [h.par]
  rcases h.nl with h1 | h1 | ⟨h1, h2⟩
  · rw [if_pos (.inl h1)]
  · split
    · rfl
    · rw [h1, List.drop_length, scanF]
  · rw [if_pos (.inr ⟨h2, rfl⟩)]
theorem first_mid {b : List Nat} {k k' j : Nat} (hE : EndR b k k') (h1 : k < j) (h2 : j < k') : firstB b j (par b j) = k' := by
  obtain ⟨q1, q2⟩ := hE.mid j (by omega) h2
  unfold firstB
  rw [if_neg, q2]
  rintro (h | h)
  · omega
  · rcases q1 with q1 | q1
    · omega
    · exact q1 h
theorem scanB_facts {b : List Nat} (hw : ∀ x ∈ b, x < 256) : ∀ (n k : Nat), b.length - k ≤ n → Bd b k → k ≤ (scanB b k).2.1 ∧ (scanB b k).2.1 ≤ b.length ∧ (∀ p ∈ (scanB b k).1, k ≤ p.1 ∧ p.1 < (scanB b k).2.1)
  | 0, k, hn, h => by
    obtain rfl : k = b.length := by have := h.le; omega
    rw [scanB_end]
    exact ⟨Nat.le_refl _, Nat.le_refl _, fun p hp => by cases hp⟩
  | n + 1, k, hn, h => by
    by_cases hk : k < b.length
    · by_cases he : (recM b k).2.2 = 0
      · obtain ⟨h2, hE⟩ := h.next hw he
        have := hE.lt hk
        obtain ⟨i1, i2, i3⟩ := scanB_facts hw n (recM b k).2.1 (by omega) h2
        rw [scanB_step hw hk h.par he]
        dsimp only
        refine ⟨by omega, i2, fun p hp => ?_⟩
        rcases List.mem_cons.1 hp with rfl | hp
        · exact ⟨Nat.le_refl _, by show k < _; omega⟩
        · obtain ⟨j1, j2⟩ := i3 p hp
          exact ⟨by omega, j2⟩
      · rw [scanB_bad hk he]
        exact ⟨Nat.le_refl _, by show k ≤ _; omega, fun p hp => by cases hp⟩
    · obtain rfl : k = b.length := by have := h.le; omega
      rw [scanB_end]
      exact ⟨Nat.le_refl _, Nat.le_refl _, fun p hp => by cases hp⟩
/-- The records that are read from a place on. -/
def rdM (b : List Nat) (to good : Nat) : Nat → Nat → List (List (List Nat))
  | 0, _ => []
  | n + 1, k => if k < to ∧ k < good then (if (recM b k).2.2 ≠ 0 then [] else (recM b k).1 :: rdM b to good n (recM b k).2.1) else []
def ofB (l : List (Nat × List (List Nat))) (f t : Nat) : List (List (List Nat)) := (l.filter fun p => decide (f ≤ p.1 ∧ p.1 < t)).map (·.2)
theorem rd_scan {b : List Nat} (hw : ∀ x ∈ b, x < 256) (to f : Nat) : ∀ (n k : Nat), b.length - k ≤ n → Bd b k → f ≤ k → rdM b to (scanB b k).2.1 n k = ofB (scanB b k).1 f to
  | 0, k, hn, h, hf => by
    obtain rfl : k = b.length := by have := h.le; omega
    rw [scanB_end]
    rfl
  | n + 1, k, hn, h, hf => by
    by_cases hk : k < b.length
    · by_cases he : (recM b k).2.2 = 0
      · obtain ⟨h2, hE⟩ := h.next hw he
        have := hE.lt hk
        have ih := rd_scan hw to f n (recM b k).2.1 (by omega) h2 (by omega)
        obtain ⟨i1, i2, i3⟩ := scanB_facts hw n (recM b k).2.1 (by omega) h2
        rw [scanB_step hw hk h.par he, rdM]
        dsimp only
        by_cases ht : k < to
        · rw [if_pos ⟨ht, by omega⟩, if_neg (by simp [he]), ih]
          simp [ofB, hf, ht]
        · rw [if_neg (by omega)]
          unfold ofB
          symm
          rw [List.map_eq_nil_iff, List.filter_eq_nil_iff]
          intro p hp
          rcases List.mem_cons.1 hp with rfl | hp
          · simp; omega
          · have := (i3 p hp).1
            simp
            omega
      · rw [scanB_bad hk he, rdM, if_neg (by simp)]
        rfl
    · obtain rfl : k = b.length := by have := h.le; omega
      rw [scanB_end, rdM, if_neg (by simp)]
      rfl
theorem rdM_stop {b : List Nat} {to good : Nat} {k : Nat} (h : good ≤ k) : ∀ n, rdM b to good n k = []
  | 0 => rfl
  | n + 1 => by rw [rdM, if_neg (by omega)]
/-- A split reads the records that begin in it. -/
theorem rd_split {b : List Nat} (hw : ∀ x ∈ b, x < 256) (to f : Nat) (hf2 : f ≤ b.length) : ∀ (n k : Nat), b.length - k ≤ n → Bd b k → k ≤ f → ∀ N, b.length ≤ N + firstB b f (par b f) → rdM b to (scanB b k).2.1 N (firstB b f (par b f)) = ofB (scanB b k).1 f to
  | 0, k, hn, h, hf, N, hN => by
    obtain rfl : k = b.length := by have := h.le; omega
    have := firstB_ge b f (par b f)
    rw [scanB_end, rdM_stop (by dsimp only; omega)]
    rfl
  | n + 1, k, hn, h, hf, N, hN => by
    have hge := firstB_ge b f (par b f)
    by_cases hfk : f = k
    · subst hfk
      rw [h.first] at hN ⊢
      exact rd_scan hw to f N f (by omega) h (Nat.le_refl _)
    · by_cases hk : k < b.length
      · by_cases he : (recM b k).2.2 = 0
        · obtain ⟨h2, hE⟩ := h.next hw he
          have := hE.lt hk
          rw [scanB_step hw hk h.par he]
          dsimp only
          have hof : ofB ((k, (recM b k).1) :: (scanB b (recM b k).2.1).1) f to = ofB (scanB b (recM b k).2.1).1 f to := by
            unfold ofB
            rw [List.filter_cons_of_neg (by simp; omega)]
          rw [hof]
          by_cases hfn : f < (recM b k).2.1
          · rw [first_mid hE (by omega) hfn] at hN ⊢
            exact rd_scan hw to f N _ (by omega) h2 (by omega)
          · exact rd_split hw to f hf2 n _ (by omega) h2 (by omega) N hN
        · rw [scanB_bad hk he, rdM_stop (by dsimp only; omega)]
          rfl
      · obtain rfl : k = b.length := by have := h.le; omega
        omega
end Go.Proofs.YtdphjapaoaokmaaDoor.E
/- The pieces of a file, by both; quotes; the first record behind a place. -/
namespace Go.Proofs.YtdphjapaoaokmaaDoor.E
open Go Go.RowKit Go.Proofs
set_option linter.unusedVariables false
set_option linter.unusedSimpArgs false
def pcV (p : Nat × List (List Nat)) : PV := .agg [.int .i64 p.1, .lst 1 [.lst 1 (p.2.map sV) false] false]
def scV (x : List (Nat × List (List Nat)) × Nat × Nat) : PV := .tup [.lst 2 (x.1.map pcV) true, .int .i64 (x.2.1 : Nat), .int .i64 (x.2.2 : Nat)]
theorem scan_ok {s : Nat} {xs : List PV} {o : Bool} {b : List Nat} (hx : xs = b.map u8) (hs : s = 1 ∨ b.length = 0) (hw : ∀ x ∈ b, x < 256) (hl : b.length ≤ 1000000) :
    PSpec Tryd.prog 9 [.lst s xs o] (scV (scanB b 0)) := by
  intro H
  have hxl : xs.length = b.length := by rw [hx, List.length_map]
  refine spec_ofU t9 (by simp [p9]) ?_
  simp only [p9]
  first | refine pwp_sr ?_ | refine pwp_regionM ?_
  intro K hK
  simp (disch := first | (refine Ok.mk ?_; (try simp only [Lm, La, Lc, Ln, Lt, Ld, Lr, Li, true_or, or_true, true_and, and_true]); omega) | (simp <;> fail) | skip) [runM_nil]
  refine hK _ _ ?_
  clear hK K
  first | refine pwp_sr ?_ | refine pwp_regionM ?_
  intro K hK
  simp (disch := first | (refine Ok.mk ?_; (try simp only [Lm, La, Lc, Ln, Lt, Ld, Lr, Li, true_or, or_true, true_and, and_true]); omega) | (simp <;> fail) | skip) [runM_nil]
  refine hK _ _ ?_
  clear hK K
  first | refine pwp_sr ?_ | refine pwp_regionM ?_
  intro K hK
  simp (disch := first | (refine Ok.mk ?_; (try simp only [Lm, La, Lc, Ln, Lt, Ld, Lr, Li, true_or, or_true, true_and, and_true]); omega) | (simp <;> fail) | skip) [runM_nil]
  refine hK _ _ ?_
  clear hK K
  refine pwp_seq (pwp_block ?_)
  refine pwp_loopU [0, 5, 6] (fun q st H' => ∃ (k : Nat) (acc : List (Nat × List (List Nat))), Bd b k ∧ acc.length ≤ k ∧ scanB b 0 = (acc ++ (scanB b k).1, (scanB b k).2) ∧ q = b.length - k ∧ H' = H ∧
      st = MS 36 [(0, .lst s xs o), (5, .lst 2 (acc.map pcV) true), (6, .int .i64 k)]) (n := b.length)
    ⟨_, _, keep_up (l' := [(0, .lst s xs o), (5, .lst 2 [] true), (6, .int .i64 0)]) (by simp), List.Sublist.refl _, 0, [], Bd.zero b, by simp, rfl, rfl, rfl, by simp⟩ ?_
  rintro q st H' ⟨k, acc, hB, hal, hsc, rfl, hH, rfl⟩
  subst hH
  have hk := hB.le
  by_cases hlt : k < b.length
  · have c := next_ok (o := false) hx hs hw hl k hk
    refine pwp_seq ?_
    first | refine pwp_sr ?_ | refine pwp_regionM ?_
    intro K hK
    simp (disch := first | (refine Ok.mk ?_; (try simp only [Lm, La, Lc, Ln, Lt, Ld, Lr, Li, true_or, or_true, true_and, and_true]); omega) | (simp <;> fail) | skip) [runM_nil, hxl]
    refine hK _ _ ?_
    clear hK K
    refine pwp_cT (by simp) (pwp_skip ?_)
    refine pwp_block ?_
    by_cases he : (recM b k).2.2 = 0
    · obtain ⟨h2, hE⟩ := hB.next hw he
      have hlt2 := hE.lt hlt
      have hle2 := hE.le2
      rw [scanB_step hw hlt hB.par he] at hsc
      generalize recM b k = x at *
      obtain ⟨x1, x2, x3⟩ := x
      simp only at he
      subst he
      dsimp only at *
      simp only [recV, ne_eq, not_true, decide_false] at c
      first | refine pwp_sr ?_ | refine pwp_regionM ?_
      intro K hK
      simp (disch := first | (refine Ok.mk ?_; (try simp only [Lm, La, Lc, Ln, Lt, Ld, Lr, Li, true_or, or_true, true_and, and_true]); omega) | (simp <;> fail) | skip) [runM_nil]
      refine useP (c) ?_
      simp (disch := first | (refine Ok.mk ?_; (try simp only [Lm, La, Lc, Ln, Lt, Ld, Lr, Li, true_or, or_true, true_and, and_true]); omega) | (simp <;> fail) | skip) [runM_nil]
      refine hK _ _ ?_
      clear hK K
      first | refine pwp_rif ?_ | refine pwp_rifE ?_
      intro K hK
      simp (disch := first | (refine Ok.mk ?_; (try simp only [Lm, La, Lc, Ln, Lt, Ld, Lr, Li, true_or, or_true, true_and, and_true]); omega) | (simp <;> fail) | skip) [runM_nil]
      refine hK _ _ ?_
      clear hK K
      refine ifF (by simp [runM_nil]) (pwp_skip ?_)
      first | refine pwp_sr ?_ | refine pwp_regionM ?_
      intro K hK
      simp (disch := first | (refine Ok.mk ?_; (try simp only [Lm, La, Lc, Ln, Lt, Ld, Lr, Li, true_or, or_true, true_and, and_true]); omega) | (simp <;> fail) | skip) [runM_nil]
      refine hK _ _ ?_
      clear hK K
      refine ⟨b.length - x2, by omega, _, _, keep_up (l' := [(0, .lst s xs o), (5, .lst 2 ((acc ++ [(k, x1)]).map pcV) true), (6, .int .i64 x2)]) (by simp [pcV]), List.Sublist.refl _, x2, acc ++ [(k, x1)], h2, by simp; omega, by rw [hsc, List.append_assoc]; rfl, rfl, rfl, by simp⟩
    · rw [scanB_bad hlt he] at hsc
      generalize recM b k = x at *
      obtain ⟨x1, x2, x3⟩ := x
      dsimp only at *
      have ge : ¬ (x3 : Int) = 0 := by omega
      simp only [recV] at c
      first | refine pwp_sr ?_ | refine pwp_regionM ?_
      intro K hK
      simp (disch := first | (refine Ok.mk ?_; (try simp only [Lm, La, Lc, Ln, Lt, Ld, Lr, Li, true_or, or_true, true_and, and_true]); omega) | (simp <;> fail) | skip) [runM_nil]
      refine useP (c) ?_
      simp (disch := first | (refine Ok.mk ?_; (try simp only [Lm, La, Lc, Ln, Lt, Ld, Lr, Li, true_or, or_true, true_and, and_true]); omega) | (simp <;> fail) | skip) [runM_nil]
      refine hK _ _ ?_
      clear hK K
      first | refine pwp_rif ?_ | refine pwp_rifE ?_
      intro K hK
      simp (disch := first | (refine Ok.mk ?_; (try simp only [Lm, La, Lc, Ln, Lt, Ld, Lr, Li, true_or, or_true, true_and, and_true]); omega) | (simp <;> fail) | skip) [runM_nil, ge, he]
      refine hK _ _ ?_
      clear hK K
      refine ifT (by simp [runM_nil, ge, he]) ?_
      first | refine pwp_sr ?_ | refine pwp_regionM ?_
      intro K hK
      simp (disch := first | (refine Ok.mk ?_; (try simp only [Lm, La, Lc, Ln, Lt, Ld, Lr, Li, true_or, or_true, true_and, and_true]); omega) | (simp <;> fail) | skip) [runM_nil]
      refine hK _ _ ?_
      clear hK K
      refine pwp_ret ⟨.inr rfl, _, _, _, (by simp [runM_nil, resL]; rfl), .refl _, ?_, rfl, rfl⟩
      rw [hsc]
      simp [resV, scV]
  · obtain rfl : k = b.length := by omega
    rw [scanB_end] at hsc
    refine pwp_seq ?_
    first | refine pwp_sr ?_ | refine pwp_regionM ?_
    intro K hK
    simp (disch := first | (refine Ok.mk ?_; (try simp only [Lm, La, Lc, Ln, Lt, Ld, Lr, Li, true_or, or_true, true_and, and_true]); omega) | (simp <;> fail) | skip) [runM_nil, hxl]
    refine hK _ _ ?_
    clear hK K
    refine pwp_cF (by simp) (pwp_exit ?_)
    first | refine pwp_sr ?_ | refine pwp_regionM ?_
    intro K hK
    simp (disch := first | (refine Ok.mk ?_; (try simp only [Lm, La, Lc, Ln, Lt, Ld, Lr, Li, true_or, or_true, true_and, and_true]); omega) | (simp <;> fail) | skip) [runM_nil]
    refine hK _ _ ?_
    clear hK K
    refine pwp_ret ⟨.inr rfl, _, _, _, (by simp [runM_nil, resL]; rfl), .refl _, ?_, rfl, rfl⟩
    rw [hsc]
    simp [resV, scV]
theorem rscan_ok {s : Nat} {xs : List PV} {o : Bool} {b : List Nat} (hx : xs = b.map u8) (hs : s = 1 ∨ b.length = 0) (hw : ∀ x ∈ b, x < 256) (hl : b.length ≤ 1000000) :
    PSpec Tryd.prog 17 [.lst s xs o] (scV (scanB b 0)) := by
  intro H
  have hxl : xs.length = b.length := by rw [hx, List.length_map]
  refine spec_ofU t17 (by simp [p17]) ?_
  simp only [p17]
  first | refine pwp_sr ?_ | refine pwp_regionM ?_
  intro K hK
  simp (disch := first | (refine Ok.mk ?_; (try simp only [Lm, La, Lc, Ln, Lt, Ld, Lr, Li, true_or, or_true, true_and, and_true]); omega) | (simp <;> fail) | skip) [runM_nil]
  refine hK _ _ ?_
  clear hK K
  first | refine pwp_sr ?_ | refine pwp_regionM ?_
  intro K hK
  simp (disch := first | (refine Ok.mk ?_; (try simp only [Lm, La, Lc, Ln, Lt, Ld, Lr, Li, true_or, or_true, true_and, and_true]); omega) | (simp <;> fail) | skip) [runM_nil]
  refine hK _ _ ?_
  clear hK K
  first | refine pwp_sr ?_ | refine pwp_regionM ?_
  intro K hK
  simp (disch := first | (refine Ok.mk ?_; (try simp only [Lm, La, Lc, Ln, Lt, Ld, Lr, Li, true_or, or_true, true_and, and_true]); omega) | (simp <;> fail) | skip) [runM_nil]
  refine hK _ _ ?_
  clear hK K
  refine pwp_seq (pwp_block ?_)
  refine pwp_loopU [0, 5, 6] (fun q st H' => ∃ (k : Nat) (acc : List (Nat × List (List Nat))), Bd b k ∧ acc.length ≤ k ∧ scanB b 0 = (acc ++ (scanB b k).1, (scanB b k).2) ∧ q = b.length - k ∧ H' = H ∧
      st = MS 37 [(0, .lst s xs o), (5, .lst 2 (acc.map pcV) true), (6, .int .i64 k)]) (n := b.length)
    ⟨_, _, keep_up (l' := [(0, .lst s xs o), (5, .lst 2 [] true), (6, .int .i64 0)]) (by simp), List.Sublist.refl _, 0, [], Bd.zero b, by simp, rfl, rfl, rfl, by simp⟩ ?_
  rintro q st H' ⟨k, acc, hB, hal, hsc, rfl, hH, rfl⟩
  subst hH
  have hk := hB.le
  by_cases hlt : k < b.length
  · have c := rrecord_ok (o := false) hx hs hw hl k hk
    refine pwp_seq ?_
    first | refine pwp_sr ?_ | refine pwp_regionM ?_
    intro K hK
    simp (disch := first | (refine Ok.mk ?_; (try simp only [Lm, La, Lc, Ln, Lt, Ld, Lr, Li, true_or, or_true, true_and, and_true]); omega) | (simp <;> fail) | skip) [runM_nil, hxl]
    refine hK _ _ ?_
    clear hK K
    refine pwp_cT (by simp) (pwp_skip ?_)
    refine pwp_block ?_
    by_cases he : (recM b k).2.2 = 0
    · obtain ⟨h2, hE⟩ := hB.next hw he
      have hlt2 := hE.lt hlt
      have hle2 := hE.le2
      rw [scanB_step hw hlt hB.par he] at hsc
      generalize recM b k = x at *
      obtain ⟨x1, x2, x3⟩ := x
      simp only at he
      subst he
      dsimp only at *
      simp only [rrecV] at c
      first | refine pwp_sr ?_ | refine pwp_regionM ?_
      intro K hK
      simp (disch := first | (refine Ok.mk ?_; (try simp only [Lm, La, Lc, Ln, Lt, Ld, Lr, Li, true_or, or_true, true_and, and_true]); omega) | (simp <;> fail) | skip) [runM_nil]
      refine useP (c) ?_
      simp (disch := first | (refine Ok.mk ?_; (try simp only [Lm, La, Lc, Ln, Lt, Ld, Lr, Li, true_or, or_true, true_and, and_true]); omega) | (simp <;> fail) | skip) [runM_nil]
      refine hK _ _ ?_
      clear hK K
      first | refine pwp_rif ?_ | refine pwp_rifE ?_
      intro K hK
      simp (disch := first | (refine Ok.mk ?_; (try simp only [Lm, La, Lc, Ln, Lt, Ld, Lr, Li, true_or, or_true, true_and, and_true]); omega) | (simp <;> fail) | skip) [runM_nil]
      refine hK _ _ ?_
      clear hK K
      refine ifF (by simp [runM_nil]) (pwp_skip ?_)
      first | refine pwp_sr ?_ | refine pwp_regionM ?_
      intro K hK
      simp (disch := first | (refine Ok.mk ?_; (try simp only [Lm, La, Lc, Ln, Lt, Ld, Lr, Li, true_or, or_true, true_and, and_true]); omega) | (simp <;> fail) | skip) [runM_nil]
      refine hK _ _ ?_
      clear hK K
      first | refine pwp_sr ?_ | refine pwp_regionM ?_
      intro K hK
      simp (disch := first | (refine Ok.mk ?_; (try simp only [Lm, La, Lc, Ln, Lt, Ld, Lr, Li, true_or, or_true, true_and, and_true]); omega) | (simp <;> fail) | skip) [runM_nil]
      refine hK _ _ ?_
      clear hK K
      refine ⟨b.length - x2, by omega, _, _, keep_up (l' := [(0, .lst s xs o), (5, .lst 2 ((acc ++ [(k, x1)]).map pcV) true), (6, .int .i64 x2)]) (by simp [pcV]), List.Sublist.refl _, x2, acc ++ [(k, x1)], h2, by simp; omega, by rw [hsc, List.append_assoc]; rfl, rfl, rfl, by simp⟩
    · rw [scanB_bad hlt he] at hsc
      generalize recM b k = x at *
      obtain ⟨x1, x2, x3⟩ := x
      dsimp only at *
      have ge : ¬ (x3 : Int) = 0 := by omega
      simp only [rrecV] at c
      first | refine pwp_sr ?_ | refine pwp_regionM ?_
      intro K hK
      simp (disch := first | (refine Ok.mk ?_; (try simp only [Lm, La, Lc, Ln, Lt, Ld, Lr, Li, true_or, or_true, true_and, and_true]); omega) | (simp <;> fail) | skip) [runM_nil]
      refine useP (c) ?_
      simp (disch := first | (refine Ok.mk ?_; (try simp only [Lm, La, Lc, Ln, Lt, Ld, Lr, Li, true_or, or_true, true_and, and_true]); omega) | (simp <;> fail) | skip) [runM_nil]
      refine hK _ _ ?_
      clear hK K
      first | refine pwp_rif ?_ | refine pwp_rifE ?_
      intro K hK
      simp (disch := first | (refine Ok.mk ?_; (try simp only [Lm, La, Lc, Ln, Lt, Ld, Lr, Li, true_or, or_true, true_and, and_true]); omega) | (simp <;> fail) | skip) [runM_nil, ge, he]
      refine hK _ _ ?_
      clear hK K
      refine ifT (by simp [runM_nil, ge, he]) ?_
      first | refine pwp_sr ?_ | refine pwp_regionM ?_
      intro K hK
      simp (disch := first | (refine Ok.mk ?_; (try simp only [Lm, La, Lc, Ln, Lt, Ld, Lr, Li, true_or, or_true, true_and, and_true]); omega) | (simp <;> fail) | skip) [runM_nil]
      refine hK _ _ ?_
      clear hK K
      refine pwp_ret ⟨.inr rfl, _, _, _, (by simp [runM_nil, resL]; rfl), .refl _, ?_, rfl, rfl⟩
      rw [hsc]
      simp [resV, scV]
  · obtain rfl : k = b.length := by omega
    rw [scanB_end] at hsc
    refine pwp_seq ?_
    first | refine pwp_sr ?_ | refine pwp_regionM ?_
    intro K hK
    simp (disch := first | (refine Ok.mk ?_; (try simp only [Lm, La, Lc, Ln, Lt, Ld, Lr, Li, true_or, or_true, true_and, and_true]); omega) | (simp <;> fail) | skip) [runM_nil, hxl]
    refine hK _ _ ?_
    clear hK K
    refine pwp_cF (by simp) (pwp_exit ?_)
    first | refine pwp_sr ?_ | refine pwp_regionM ?_
    intro K hK
    simp (disch := first | (refine Ok.mk ?_; (try simp only [Lm, La, Lc, Ln, Lt, Ld, Lr, Li, true_or, or_true, true_and, and_true]); omega) | (simp <;> fail) | skip) [runM_nil]
    refine hK _ _ ?_
    clear hK K
    refine pwp_ret ⟨.inr rfl, _, _, _, (by simp [runM_nil, resL]; rfl), .refl _, ?_, rfl, rfl⟩
    rw [hsc]
    simp [resV, scV]
theorem rinside_ok {s : Nat} {xs : List PV} {o : Bool} {b : List Nat} (hx : xs = b.map u8) (hs : s = 1 ∨ b.length = 0) (hw : ∀ x ∈ b, x < 256) (hl : b.length ≤ 1000000) (n : Int) :
    PSpec Tryd.prog 21 [.lst s xs o, .int .i64 n] (.bool (par b n.toNat)) := by
  intro H
  have hxl : xs.length = b.length := by rw [hx, List.length_map]
  have hxg : ∀ i (h : i < b.length), xs[i]? = some (.int .u8 (b[i] : Nat)) := fun i h => by rw [hx, List.getElem?_map, List.getElem?_eq_getElem h]; rfl
  have hpar : ∀ k, b.length ≤ k → par b k = par b b.length := fun k hk => by unfold par; rw [List.take_of_length_le hk, List.take_length]
  refine spec_of t21 (by simp [p21]) ?_
  simp only [p21]
  first | refine pwp_sr ?_ | refine pwp_regionM ?_
  intro K hK
  simp (disch := first | (refine Ok.mk ?_; (try simp only [Lm, La, Lc, Ln, Lt, Ld, Lr, Li, true_or, or_true, true_and, and_true]); omega) | (simp <;> fail) | skip) [runM_nil]
  refine hK _ _ ?_
  clear hK K
  first | refine pwp_sr ?_ | refine pwp_regionM ?_
  intro K hK
  simp (disch := first | (refine Ok.mk ?_; (try simp only [Lm, La, Lc, Ln, Lt, Ld, Lr, Li, true_or, or_true, true_and, and_true]); omega) | (simp <;> fail) | skip) [runM_nil]
  refine hK _ _ ?_
  clear hK K
  refine pwp_seq (pwp_seq ?_)
  first | refine pwp_sr ?_ | refine pwp_regionM ?_
  intro K hK
  simp (disch := first | (refine Ok.mk ?_; (try simp only [Lm, La, Lc, Ln, Lt, Ld, Lr, Li, true_or, or_true, true_and, and_true]); omega) | (simp <;> fail) | skip) [runM_nil]
  refine hK _ _ ?_
  clear hK K
  refine pwp_block ?_
  refine pwp_loopK [0, 1, 5, 6] (fun q st H' => ∃ k : Nat, k ≤ b.length ∧ k ≤ n.toNat ∧ q = b.length - k ∧ H' = H ∧ st = MS 26 [(0, .lst s xs o), (1, .int .i64 n), (5, .bool (par b k)), (6, .int .i64 k)]) (n := b.length)
    ⟨_, .refl _, 0, Nat.zero_le _, Nat.zero_le _, rfl, rfl, by simp [keepL_MS, keepA, getS, par_zero]⟩ ?_
  rintro q st H' ⟨k, hk, hkn, rfl, rfl, rfl⟩
  refine pwp_seq ?_
  by_cases hlt : k < b.length
  · obtain rfl : s = 1 := hs.resolve_right (by omega)
    have h1 := hxg k hlt
    have hps := par_succ hlt
    by_cases hn : (k : Int) < n
    · first | refine pwp_sr ?_ | refine pwp_regionM ?_
      intro K hK
      simp (disch := first | (refine Ok.mk ?_; (try simp only [Lm, La, Lc, Ln, Lt, Ld, Lr, Li, true_or, or_true, true_and, and_true]); omega) | (simp <;> fail) | skip) [runM_nil, hxl, hn]
      refine hK _ _ ?_
      clear hK K
      refine pwp_cT (by simp) (pwp_skip ?_)
      refine pwp_seq (pwp_block ?_)
      by_cases h34 : b[k] = 34
      · rw [h34] at h1
        rw [if_pos h34] at hps
        first | refine pwp_rif ?_ | refine pwp_rifE ?_
        intro K hK
        simp (disch := first | (refine Ok.mk ?_; (try simp only [Lm, La, Lc, Ln, Lt, Ld, Lr, Li, true_or, or_true, true_and, and_true]); omega) | (simp <;> fail) | skip) [runM_nil, hxl, h1]
        refine hK _ _ ?_
        clear hK K
        refine ifT (by simp (disch := first | (refine Ok.mk ?_; (try simp only [Lm, La, Lc, Ln, Lt, Ld, Lr, Li, true_or, or_true, true_and, and_true]); omega) | (simp <;> fail) | skip) [runM_nil]) ?_
        first | refine pwp_sr ?_ | refine pwp_regionM ?_
        intro K hK
        simp (disch := first | (refine Ok.mk ?_; (try simp only [Lm, La, Lc, Ln, Lt, Ld, Lr, Li, true_or, or_true, true_and, and_true]); omega) | (simp <;> fail) | skip) [runM_nil]
        refine hK _ _ ?_
        clear hK K
        first | refine pwp_sr ?_ | refine pwp_regionM ?_
        intro K hK
        simp (disch := first | (refine Ok.mk ?_; (try simp only [Lm, La, Lc, Ln, Lt, Ld, Lr, Li, true_or, or_true, true_and, and_true]); omega) | (simp <;> fail) | skip) [runM_nil]
        refine hK _ _ ?_
        clear hK K
        exact ⟨_, by omega, _, .refl _, k + 1, by omega, by omega, rfl, rfl, by simp [keepL_MS, keepA, getS, hps]⟩
      · rw [if_neg h34] at hps
        have g34 : ¬ (b[k] : Int) = 34 := by omega
        first | refine pwp_rif ?_ | refine pwp_rifE ?_
        intro K hK
        simp (disch := first | (refine Ok.mk ?_; (try simp only [Lm, La, Lc, Ln, Lt, Ld, Lr, Li, true_or, or_true, true_and, and_true]); omega) | (simp <;> fail) | skip) [runM_nil, hxl, h1, g34]
        refine hK _ _ ?_
        clear hK K
        refine ifF (by simp [runM_nil, g34]) (pwp_skip ?_)
        first | refine pwp_sr ?_ | refine pwp_regionM ?_
        intro K hK
        simp (disch := first | (refine Ok.mk ?_; (try simp only [Lm, La, Lc, Ln, Lt, Ld, Lr, Li, true_or, or_true, true_and, and_true]); omega) | (simp <;> fail) | skip) [runM_nil]
        refine hK _ _ ?_
        clear hK K
        exact ⟨_, by omega, _, .refl _, k + 1, by omega, by omega, rfl, rfl, by simp [keepL_MS, keepA, getS, hps]⟩
    · have hkk : n.toNat = k := by omega
      first | refine pwp_sr ?_ | refine pwp_regionM ?_
      intro K hK
      simp (disch := first | (refine Ok.mk ?_; (try simp only [Lm, La, Lc, Ln, Lt, Ld, Lr, Li, true_or, or_true, true_and, and_true]); omega) | (simp <;> fail) | skip) [runM_nil, hxl, hn]
      refine hK _ _ ?_
      clear hK K
      refine pwp_cF (by simp) (pwp_exit ?_)
      first | refine pwp_sr ?_ | refine pwp_regionM ?_
      intro K hK
      simp (disch := first | (refine Ok.mk ?_; (try simp only [Lm, La, Lc, Ln, Lt, Ld, Lr, Li, true_or, or_true, true_and, and_true]); omega) | (simp <;> fail) | skip) [runM_nil]
      refine hK _ _ ?_
      clear hK K
      refine pwp_ret ⟨.inr rfl, _, _, (by simp (disch := first | (refine Ok.mk ?_; (try simp only [Lm, La, Lc, Ln, Lt, Ld, Lr, Li, true_or, or_true, true_and, and_true]); omega) | (simp <;> fail) | skip) [runM_nil, resL, hkk]; rfl), .refl _, by simp (disch := first | (refine Ok.mk ?_; (try simp only [Lm, La, Lc, Ln, Lt, Ld, Lr, Li, true_or, or_true, true_and, and_true]); omega) | (simp <;> fail) | skip) [resV, hkk], rfl⟩
  · obtain rfl : k = b.length := by omega
    have hpn := hpar n.toNat hkn
    first | refine pwp_sr ?_ | refine pwp_regionM ?_
    intro K hK
    simp (disch := first | (refine Ok.mk ?_; (try simp only [Lm, La, Lc, Ln, Lt, Ld, Lr, Li, true_or, or_true, true_and, and_true]); omega) | (simp <;> fail) | skip) [runM_nil, hxl]
    refine hK _ _ ?_
    clear hK K
    refine pwp_cF (by simp) (pwp_exit ?_)
    first | refine pwp_sr ?_ | refine pwp_regionM ?_
    intro K hK
    simp (disch := first | (refine Ok.mk ?_; (try simp only [Lm, La, Lc, Ln, Lt, Ld, Lr, Li, true_or, or_true, true_and, and_true]); omega) | (simp <;> fail) | skip) [runM_nil]
    refine hK _ _ ?_
    clear hK K
    refine pwp_ret ⟨.inr rfl, _, _, (by simp (disch := first | (refine Ok.mk ?_; (try simp only [Lm, La, Lc, Ln, Lt, Ld, Lr, Li, true_or, or_true, true_and, and_true]); omega) | (simp <;> fail) | skip) [runM_nil, resL, hpn]; rfl), .refl _, by simp (disch := first | (refine Ok.mk ?_; (try simp only [Lm, La, Lc, Ln, Lt, Ld, Lr, Li, true_or, or_true, true_and, and_true]); omega) | (simp <;> fail) | skip) [resV, hpn], rfl⟩
end Go.Proofs.YtdphjapaoaokmaaDoor.E
/- A split, by both. -/
namespace Go.Proofs.YtdphjapaoaokmaaDoor.E
open Go Go.RowKit Go.Proofs
set_option linter.unusedVariables false
set_option linter.unusedSimpArgs false
structure Prog (b : List Nat) (k : Nat) (r : List (List Nat)) (k' : Nat) : Prop where
  le : k ≤ k'
  le2 : k' ≤ b.length
  lt : k < b.length → k < k'
  len : r.length ≤ 50
theorem goM_prog {b : List Nat} (hw : ∀ x ∈ b, x < 256) : ∀ (n k : Nat) (m : Md) (out : List (List Nat)) (cur : List Nat) (r : List (List Nat)) (k' : Nat), b.length - k ≤ n → k ≤ b.length → GoodM m out cur →
    goM m out cur (b.drop k) k = (r, k', 0) → Prog b k r k'
  | 0, k, m, out, cur, r, k', hn, hk, hG, hg => by
    obtain rfl : k = b.length := by omega
    rw [List.drop_length, goM] at hg
    split at hg
    · cases hg
    · simp only [Prod.mk.injEq, and_true] at hg
      obtain ⟨rfl, rfl⟩ := hg
      exact ⟨Nat.le_refl _, Nat.le_refl _, fun h => by omega, by have := hG.ol; simp; omega⟩
  | n + 1, k, m, out, cur, r, k', hn, hk, hG, hg => by
    by_cases hlt : k < b.length
    · have hcb := hw _ (List.getElem_mem hlt)
      rw [List.drop_eq_getElem_cons hlt, goM] at hg
      generalize b[k] = c at *
      split at hg
      · rename_i he
        simp only [Prod.mk.injEq] at hg
        exact absurd hg.2.2 he
      · rename_i he
        have he := Decidable.not_not.1 he
        split at hg
        · rename_i hd
          obtain ⟨rfl, hmq⟩ := stpM_done hG.md hd
          rw [stpM_ten hG.md hmq] at hg
          simp only [Prod.mk.injEq, and_true] at hg
          obtain ⟨rfl, rfl⟩ := hg
          exact ⟨by omega, by omega, fun _ => by omega, by have := hG.ol; simp; omega⟩
        · rename_i hd
          obtain ⟨g1, _, _⟩ := stpM_good hG hcb he (by simpa using hd)
          have ih := goM_prog hw n (k + 1) _ _ _ r k' (by omega) (by omega) g1 hg
          exact ⟨by have := ih.le; omega, ih.le2, fun _ => by have := ih.le; omega, ih.len⟩
    · obtain rfl : k = b.length := by omega
      exact goM_prog hw 0 b.length m out cur r k' (by omega) hk hG hg
theorem recM_prog {b : List Nat} (hw : ∀ x ∈ b, x < 256) {k : Nat} (hk : k ≤ b.length) (he : (recM b k).2.2 = 0) : Prog b k (recM b k).1 (recM b k).2.1 :=
  goM_prog hw _ k .begin [] [] _ _ (Nat.le_refl _) hk ⟨by simp, by simp, by simp, by simp⟩ (show recM b k = _ by rw [← he])
theorem rdM_fuel {b : List Nat} (hw : ∀ x ∈ b, x < 256) {to good : Nat} (ht : to ≤ b.length) : ∀ (n n' k : Nat), b.length - k ≤ n → b.length - k ≤ n' → rdM b to good n k = rdM b to good n' k
  | 0, 0, k, h1, h2 => rfl
  | 0, n' + 1, k, h1, h2 => by rw [rdM, rdM, if_neg (by omega)]
  | n + 1, 0, k, h1, h2 => by rw [rdM, rdM, if_neg (by omega)]
  | n + 1, n' + 1, k, h1, h2 => by
    rw [rdM, rdM]
    by_cases h : k < to ∧ k < good
    · rw [if_pos h, if_pos h]
      by_cases he : (recM b k).2.2 ≠ 0
      · rw [if_pos he, if_pos he]
      · rw [if_neg he, if_neg he]
        have hP := recM_prog hw (k := k) (by omega) (Decidable.not_not.1 he)
        have := hP.lt (by omega)
        rw [rdM_fuel hw ht n n' _ (by omega) (by omega)]
    · rw [if_neg h, if_neg h]
def rdB (b : List Nat) (to good k : Nat) : List (List (List Nat)) := rdM b to good (b.length - k) k
theorem rdB_off {b : List Nat} {to good k : Nat} (h : ¬ (k < to ∧ k < good)) : rdB b to good k = [] := by
  unfold rdB
  cases b.length - k with
  | zero => rfl
  | succ n => rw [rdM, if_neg h]
theorem rdB_bad {b : List Nat} {to good k : Nat} (he : (recM b k).2.2 ≠ 0) : rdB b to good k = [] := by
  unfold rdB
  cases b.length - k with
  | zero => rfl
  | succ n => rw [rdM, if_pos he, ite_self]
theorem rdB_step {b : List Nat} (hw : ∀ x ∈ b, x < 256) {to good k : Nat} (ht : to ≤ b.length) (h1 : k < to) (h2 : k < good) (he : (recM b k).2.2 = 0) : rdB b to good k = (recM b k).1 :: rdB b to good (recM b k).2.1 := by
  have hP := recM_prog hw (k := k) (by omega) he
  have := hP.lt (by omega)
  have e : rdB b to good k = rdM b to good (b.length - k) k := rfl
  obtain ⟨n, hn⟩ : ∃ n, b.length - k = n + 1 := ⟨b.length - k - 1, by omega⟩
  rw [e, hn, rdM, if_pos ⟨h1, h2⟩, if_neg (by simp [he]), rdM_fuel hw ht n (b.length - (recM b k).2.1) _ (by omega) (Nat.le_refl _)]
  rfl
theorem rdB_facts {b : List Nat} (hw : ∀ x ∈ b, x < 256) {to good : Nat} (ht : to ≤ b.length) : ∀ (n k : Nat), b.length - k ≤ n → (rdB b to good k).length ≤ b.length - k ∧ ∀ r ∈ rdB b to good k, r.length ≤ 50
  | 0, k, hn => by
    have : rdB b to good k = [] := by unfold rdB; rw [show b.length - k = 0 by omega]; rfl
    rw [this]
    exact ⟨Nat.zero_le _, fun r hr => by cases hr⟩
  | n + 1, k, hn => by
    by_cases h : k < to ∧ k < good
    · by_cases he : (recM b k).2.2 = 0
      · have hP := recM_prog hw (k := k) (by omega) he
        have hlt := hP.lt (by omega)
        obtain ⟨i1, i2⟩ := rdB_facts hw (good := good) ht n (recM b k).2.1 (by omega)
        rw [rdB_step hw ht h.1 h.2 he]
        refine ⟨by rw [List.length_cons]; have := hP.le2; omega, fun r hr => ?_⟩
        rcases List.mem_cons.1 hr with rfl | hr
        · exact hP.len
        · exact i2 r hr
      · rw [rdB_bad he]
        exact ⟨Nat.zero_le _, fun r hr => by cases hr⟩
    · rw [rdB_off h]
      exact ⟨Nat.zero_le _, fun r hr => by cases hr⟩
end Go.Proofs.YtdphjapaoaokmaaDoor.E
/- What the document reads of a split; the same records; the law of splits. -/
namespace Go.Proofs.YtdphjapaoaokmaaDoor.E
open Go Go.RowKit Go.Proofs
set_option linter.unusedVariables false
set_option linter.unusedSimpArgs false
end Go.Proofs.YtdphjapaoaokmaaDoor.E
/- The document's split; the live question; the law of splits. -/
namespace Go.Proofs.YtdphjapaoaokmaaDoor.E
open Go Go.RowKit Go.Proofs
set_option linter.unusedVariables false
set_option linter.unusedSimpArgs false
theorem recsNil_ok {o q : Bool} : PSpec Tryd.prog 10 [.lst 0 [] o, .lst 0 [] q] (.bool true) := by
  intro H
  have hmix := mix06
  refine spec_of t10 (by simp [p10]) ?_
  simp only [p10]
  first | refine pwp_sr ?_ | refine pwp_regionM ?_
  intro K hK
  simp (disch := first | (refine Ok.mk ?_; (try simp only [Lm, La, Lc, Ln, Lt, Ld, Lr, Li, true_or, or_true, true_and, and_true]); omega) | (simp <;> fail) | skip) [runM_nil]
  refine hK _ _ ?_
  clear hK K
  refine pwp_seq ?_
  first | refine pwp_sr ?_ | refine pwp_regionM ?_
  intro K hK
  simp (disch := first | (refine Ok.mk ?_; (try simp only [Lm, La, Lc, Ln, Lt, Ld, Lr, Li, true_or, or_true, true_and, and_true]); omega) | (simp <;> fail) | skip) [runM_nil]
  refine hK _ _ ?_
  clear hK K
  refine pwp_cF (by simp) (pwp_skip ?_)
  refine pwp_seq (pwp_seq ?_)
  first | refine pwp_sr ?_ | refine pwp_regionM ?_
  intro K hK
  simp (disch := first | (refine Ok.mk ?_; (try simp only [Lm, La, Lc, Ln, Lt, Ld, Lr, Li, true_or, or_true, true_and, and_true]); omega) | (simp <;> fail) | skip) [runM_nil]
  refine hK _ _ ?_
  clear hK K
  refine pwp_block ?_
  refine pwp_loopK [0, 1, 5] (fun m st H' => H' = H ∧ st = MS 27 [(0, .lst 0 [] o), (1, .lst 0 [] q), (5, .int .i64 0)]) (n := 0) ⟨_, .refl _, rfl, by simp [keepL_MS, keepA, getS]⟩ ?_
  rintro m st H1 ⟨rfl, rfl⟩
  refine pwp_seq ?_
  first | refine pwp_sr ?_ | refine pwp_regionM ?_
  intro K hK
  simp (disch := first | (refine Ok.mk ?_; (try simp only [Lm, La, Lc, Ln, Lt, Ld, Lr, Li, true_or, or_true, true_and, and_true]); omega) | (simp <;> fail) | skip) [runM_nil]
  refine hK _ _ ?_
  clear hK K
  refine pwp_cF (by simp) (pwp_exit ?_)
  first | refine pwp_sr ?_ | refine pwp_regionM ?_
  intro K hK
  simp (disch := first | (refine Ok.mk ?_; (try simp only [Lm, La, Lc, Ln, Lt, Ld, Lr, Li, true_or, or_true, true_and, and_true]); omega) | (simp <;> fail) | skip) [runM_nil]
  refine hK _ _ ?_
  clear hK K
  refine pwp_ret ⟨.inr rfl, _, _, (by simp (disch := first | (refine Ok.mk ?_; (try simp only [Lm, La, Lc, Ln, Lt, Ld, Lr, Li, true_or, or_true, true_and, and_true]); omega) | (simp <;> fail) | skip) [runM_nil, resL]; rfl), .refl _, by simp (disch := first | (refine Ok.mk ?_; (try simp only [Lm, La, Lc, Ln, Lt, Ld, Lr, Li, true_or, or_true, true_and, and_true]); omega) | (simp <;> fail) | skip) [resV], rfl⟩
theorem scanB_len {b : List Nat} (hw : ∀ x ∈ b, x < 256) : ∀ (n k : Nat), b.length - k ≤ n → Bd b k → (scanB b k).1.length ≤ b.length - k
  | 0, k, hn, h => by
    obtain rfl : k = b.length := by have := h.le; omega
    rw [scanB_end]
    simp
  | n + 1, k, hn, h => by
    by_cases hk : k < b.length
    · by_cases he : (recM b k).2.2 = 0
      · obtain ⟨h2, hE⟩ := h.next hw he
        have h3 := hE.lt hk
        have h4 := hE.le2
        have := scanB_len hw n (recM b k).2.1 (by omega) h2
        rw [scanB_step hw hk h.par he]
        dsimp only
        rw [List.length_cons]
        omega
      · rw [scanB_bad hk he]
        simp
    · obtain rfl : k = b.length := by have := h.le; omega
      rw [scanB_end]
      simp
theorem alive_ok : PSpec Tryd.prog 7 [] (.bool true) := by
  intro H
  have c1 := scan_ok (s := 1) (xs := [34, 97, 44, 34, 34, 98, 34, 44, 99].map u8) (o := false) (b := [34, 97, 44, 34, 34, 98, 34, 44, 99]) rfl (.inl rfl) (by decide) (by decide)
  have e1 : scanB [34, 97, 44, 34, 34, 98, 34, 44, 99] 0 = ([(0, [[97, 44, 34, 98], [99]])], 9, 0) := by decide +kernel
  have c2 := scan_ok (s := 1) (xs := [97, 10, 98, 34, 10].map u8) (o := false) (b := [97, 10, 98, 34, 10]) rfl (.inl rfl) (by decide) (by decide)
  have e2 : scanB [97, 10, 98, 34, 10] 0 = ([(0, [[97]])], 2, 3) := by decide +kernel
  rw [e1] at c1
  rw [e2] at c2
  simp [scV, pcV, sV, ci] at c1 c2
  refine spec_of t7 (by simp [p7]) ?_
  simp only [p7]
  first | refine pwp_sr ?_ | refine pwp_regionM ?_
  intro K hK
  simp (disch := first | (refine Ok.mk ?_; (try simp only [Lm, La, Lc, Ln, Lt, Ld, Lr, Li, true_or, or_true, true_and, and_true]); omega) | (simp <;> fail) | skip) [runM_nil]
  refine hK _ _ ?_
  clear hK K
  first | refine pwp_sr ?_ | refine pwp_regionM ?_
  intro K hK
  simp (disch := first | (refine Ok.mk ?_; (try simp only [Lm, La, Lc, Ln, Lt, Ld, Lr, Li, true_or, or_true, true_and, and_true]); omega) | (simp <;> fail) | skip) [runM_nil]
  refine useP (c1) ?_
  simp (disch := first | (refine Ok.mk ?_; (try simp only [Lm, La, Lc, Ln, Lt, Ld, Lr, Li, true_or, or_true, true_and, and_true]); omega) | (simp <;> fail) | skip) [runM_nil]
  refine hK _ _ ?_
  clear hK K
  first | refine pwp_sr ?_ | refine pwp_regionM ?_
  intro K hK
  simp (disch := first | (refine Ok.mk ?_; (try simp only [Lm, La, Lc, Ln, Lt, Ld, Lr, Li, true_or, or_true, true_and, and_true]); omega) | (simp <;> fail) | skip) [runM_nil]
  refine useP (c2) ?_
  simp (disch := first | (refine Ok.mk ?_; (try simp only [Lm, La, Lc, Ln, Lt, Ld, Lr, Li, true_or, or_true, true_and, and_true]); omega) | (simp <;> fail) | skip) [runM_nil]
  refine hK _ _ ?_
  clear hK K
  first | refine pwp_sr ?_ | refine pwp_regionM ?_
  intro K hK
  simp (disch := first | (refine Ok.mk ?_; (try simp only [Lm, La, Lc, Ln, Lt, Ld, Lr, Li, true_or, or_true, true_and, and_true]); omega) | (simp <;> fail) | skip) [runM_nil, strP]
  refine hK _ _ ?_
  clear hK K
  refine pwp_ret ⟨.inr rfl, _, _, (by simp (disch := first | (refine Ok.mk ?_; (try simp only [Lm, La, Lc, Ln, Lt, Ld, Lr, Li, true_or, or_true, true_and, and_true]); omega) | (simp <;> fail) | skip) [runM_nil, resL]; rfl), .refl _, by simp (disch := first | (refine Ok.mk ?_; (try simp only [Lm, La, Lc, Ln, Lt, Ld, Lr, Li, true_or, or_true, true_and, and_true]); omega) | (simp <;> fail) | skip) [resV], rfl⟩
end Go.Proofs.YtdphjapaoaokmaaDoor.E
/- A field as it is written, by both; what may be a row. -/
namespace Go.Proofs.YtdphjapaoaokmaaDoor.E
open Go Go.RowKit Go.Proofs
set_option linter.unusedVariables false
set_option linter.unusedSimpArgs false
def needsB (s : List Nat) : Bool := s.any ([44, 34, 10, 13].contains ·)
def dblB (s : List Nat) : List Nat := repB 34 [34, 34] s
def quoteB (s : List Nat) : List Nat := if needsB s = true then 34 :: (dblB s ++ [34]) else s
theorem quote_ok {s : List Nat} (hs : s.length ≤ 1000000) : PSpec Tryd.prog 8 [.str (ci s)] (.str (ci (quoteB s))) := by
  intro H
  have c1 := containsAny_ok (s := s) (c := [44, 34, 10, 13]) hs (by simp) (by simp) (by simp)
  have c2 := replaceAll_ok (s := s) (c := 34) (n := [34, 34]) hs (by simp) (by simp)
  have hl := repB_len 34 [34, 34] s
  have hci : (ci (repB 34 [34, 34] s)).length = (repB 34 [34, 34] s).length := Li
  have e1 : (ci [44, 34, 10, 13]) = [44, 34, 10, 13] := rfl
  have e2 : (ci [34]) = [34] := rfl
  have e3 : (ci [34, 34]) = [34, 34] := rfl
  rw [e1] at c1
  rw [e2, e3] at c2
  simp only [List.length_cons, List.length_nil] at hl
  refine spec_of t8 (by simp [p8]) ?_
  simp only [p8]
  first | refine pwp_sr ?_ | refine pwp_regionM ?_
  intro K hK
  simp (disch := first | (refine Ok.mk ?_; (try simp only [Lm, La, Lc, Ln, Lt, Ld, Lr, Li, true_or, or_true, true_and, and_true]); omega) | (simp <;> fail) | skip) [runM_nil]
  refine hK _ _ ?_
  clear hK K
  refine pwp_seq ?_
  cases hn : needsB s with
  | false =>
    have hq : quoteB s = s := by unfold quoteB; rw [hn]; rfl
    rw [show (s.any ([44, 34, 10, 13].contains ·)) = false from hn] at c1
    first | refine pwp_rif ?_ | refine pwp_rifE ?_
    intro K hK
    simp (disch := first | (refine Ok.mk ?_; (try simp only [Lm, La, Lc, Ln, Lt, Ld, Lr, Li, true_or, or_true, true_and, and_true]); omega) | (simp <;> fail) | skip) [runM_nil]
    refine useP (c1) ?_
    simp (disch := first | (refine Ok.mk ?_; (try simp only [Lm, La, Lc, Ln, Lt, Ld, Lr, Li, true_or, or_true, true_and, and_true]); omega) | (simp <;> fail) | skip) [runM_nil]
    refine hK _ _ ?_
    clear hK K
    refine ifT (by simp (disch := first | (refine Ok.mk ?_; (try simp only [Lm, La, Lc, Ln, Lt, Ld, Lr, Li, true_or, or_true, true_and, and_true]); omega) | (simp <;> fail) | skip) [runM_nil]) ?_
    first | refine pwp_sr ?_ | refine pwp_regionM ?_
    intro K hK
    simp (disch := first | (refine Ok.mk ?_; (try simp only [Lm, La, Lc, Ln, Lt, Ld, Lr, Li, true_or, or_true, true_and, and_true]); omega) | (simp <;> fail) | skip) [runM_nil]
    refine hK _ _ ?_
    clear hK K
    refine pwp_retT ⟨.inr rfl, _, _, (by simp [runM_nil, resL]; rfl), .refl _, by simp [resV, hq], rfl⟩
  | true =>
    have hq : quoteB s = 34 :: (repB 34 [34, 34] s ++ [34]) := by unfold quoteB; rw [hn]; rfl
    rw [show (s.any ([44, 34, 10, 13].contains ·)) = true from hn] at c1
    first | refine pwp_rif ?_ | refine pwp_rifE ?_
    intro K hK
    simp (disch := first | (refine Ok.mk ?_; (try simp only [Lm, La, Lc, Ln, Lt, Ld, Lr, Li, true_or, or_true, true_and, and_true]); omega) | (simp <;> fail) | skip) [runM_nil]
    refine useP (c1) ?_
    simp (disch := first | (refine Ok.mk ?_; (try simp only [Lm, La, Lc, Ln, Lt, Ld, Lr, Li, true_or, or_true, true_and, and_true]); omega) | (simp <;> fail) | skip) [runM_nil]
    refine hK _ _ ?_
    clear hK K
    refine ifF (by simp [runM_nil]) (pwp_skip ?_)
    generalize repB 34 [34, 34] s = d at *
    first | refine pwp_sr ?_ | refine pwp_regionM ?_
    intro K hK
    simp (disch := first | (refine Ok.mk ?_; (try simp only [Lm, La, Lc, Ln, Lt, Ld, Lr, Li, true_or, or_true, true_and, and_true]); omega) | (simp <;> fail) | skip) [runM_nil, strP, hci]
    refine useP (c2) ?_
    simp (disch := first | (refine Ok.mk ?_; (try simp only [Lm, La, Lc, Ln, Lt, Ld, Lr, Li, true_or, or_true, true_and, and_true]); omega) | (simp <;> fail) | skip) [runM_nil, strP, hci]
    refine hK _ _ ?_
    clear hK K
    refine pwp_ret ⟨.inr rfl, _, _, (by simp [runM_nil, resL]; rfl), .refl _, by simp [resV, hq, ci], rfl⟩
def rowOkB (r : List (List Nat)) : Bool := decide (0 < r.length) && decide (r.length ≤ 50) && r.all fun f => decide (f.length ≤ 1000)
theorem isRow_ok {r : List (List Nat)} (hl : r.length ≤ 1000000) {o : Bool} : PSpec Tryd.prog 26 [.lst 1 (r.map sV) o] (.bool (rowOkB r)) := by
  intro H
  have hge : ∀ i (h : i < r.length), (r.map sV)[i]? = some (.str (ci r[i])) := fun i h => by rw [List.getElem?_map, List.getElem?_eq_getElem h]; rfl
  have hml : (r.map sV).length = r.length := List.length_map _
  refine spec_of t26 (by simp [p26]) ?_
  simp only [p26]
  generalize r.map sV = es at *
  first | refine pwp_sr ?_ | refine pwp_regionM ?_
  intro K hK
  simp (disch := first | (refine Ok.mk ?_; (try simp only [Lm, La, Lc, Ln, Lt, Ld, Lr, Li, true_or, or_true, true_and, and_true]); omega) | (simp <;> fail) | skip) [runM_nil]
  refine hK _ _ ?_
  clear hK K
  refine pwp_seq (pwp_seq ?_)
  first | refine pwp_sr ?_ | refine pwp_regionM ?_
  intro K hK
  simp (disch := first | (refine Ok.mk ?_; (try simp only [Lm, La, Lc, Ln, Lt, Ld, Lr, Li, true_or, or_true, true_and, and_true]); omega) | (simp <;> fail) | skip) [runM_nil, hml]
  refine hK _ _ ?_
  clear hK K
  refine pwp_block ?_
  refine pwp_loopK [0, 5, 6, 7] (fun q st H' => ∃ i : Nat, i ≤ r.length ∧ (∀ f ∈ r.take i, f.length ≤ 1000) ∧ q = r.length - i ∧ H' = H ∧ st = MS 23 [(0, .lst 1 es o), (5, .lst 1 es false), (6, .int .i64 r.length), (7, .int .i64 i)]) (n := r.length)
    ⟨_, .refl _, 0, Nat.zero_le _, (by simp), rfl, rfl, by simp [keepL_MS, keepA, getS]⟩ ?_
  rintro q st H' ⟨i, hi, hall, rfl, hH, rfl⟩
  subst hH
  by_cases hlt : i < r.length
  · have g1 := hge i hlt
    have g1l : (ci r[i]).length = r[i].length := Li
    first | refine pwp_sr ?_ | refine pwp_regionM ?_
    intro K hK
    simp (disch := first | (refine Ok.mk ?_; (try simp only [Lm, La, Lc, Ln, Lt, Ld, Lr, Li, true_or, or_true, true_and, and_true]); omega) | (simp <;> fail) | skip) [runM_nil]
    refine hK _ _ ?_
    clear hK K
    refine pwp_seq (pwp_cT (by simp) (pwp_skip ?_))
    refine pwp_seq (pwp_block ?_)
    first | refine pwp_sr ?_ | refine pwp_regionM ?_
    intro K hK
    simp (disch := first | (refine Ok.mk ?_; (try simp only [Lm, La, Lc, Ln, Lt, Ld, Lr, Li, true_or, or_true, true_and, and_true]); omega) | (simp <;> fail) | skip) [runM_nil, g1, hml]
    refine hK _ _ ?_
    clear hK K
    by_cases h : 1000 < r[i].length
    · have hf : rowOkB r = false := by
        unfold rowOkB
        rw [show (r.all fun f => decide (f.length ≤ 1000)) = false from ?_]
        · simp
        · rw [List.all_eq_false]
          exact ⟨r[i], List.getElem_mem hlt, by simpa using h⟩
      generalize r[i] = f at *
      first | refine pwp_rif ?_ | refine pwp_rifE ?_
      intro K hK
      simp (disch := first | (refine Ok.mk ?_; (try simp only [Lm, La, Lc, Ln, Lt, Ld, Lr, Li, true_or, or_true, true_and, and_true]); omega) | (simp <;> fail) | skip) [runM_nil, g1l]
      refine hK _ _ ?_
      clear hK K
      refine ifT (by simp (disch := first | (refine Ok.mk ?_; (try simp only [Lm, La, Lc, Ln, Lt, Ld, Lr, Li, true_or, or_true, true_and, and_true]); omega) | (simp <;> fail) | skip) [runM_nil]) ?_
      first | refine pwp_sr ?_ | refine pwp_regionM ?_
      intro K hK
      simp (disch := first | (refine Ok.mk ?_; (try simp only [Lm, La, Lc, Ln, Lt, Ld, Lr, Li, true_or, or_true, true_and, and_true]); omega) | (simp <;> fail) | skip) [runM_nil]
      refine hK _ _ ?_
      clear hK K
      refine pwp_ret (And.intro (.inr rfl) ⟨_, _, (by simp (disch := first | (refine Ok.mk ?_; (try simp only [Lm, La, Lc, Ln, Lt, Ld, Lr, Li, true_or, or_true, true_and, and_true]); omega) | (simp <;> fail) | skip) [runM_nil, resL, hf]; rfl), .refl _, by simp (disch := first | (refine Ok.mk ?_; (try simp only [Lm, La, Lc, Ln, Lt, Ld, Lr, Li, true_or, or_true, true_and, and_true]); omega) | (simp <;> fail) | skip) [resV, hf], rfl⟩)
    · have hall2 : ∀ f ∈ r.take (i + 1), f.length ≤ 1000 := fun f hf => by
        rw [List.take_succ_eq_append_getElem hlt] at hf
        rcases List.mem_append.1 hf with hf | hf
        · exact hall f hf
        · rw [List.mem_singleton] at hf
          rw [hf]
          omega
      generalize r[i] = f at *
      first | refine pwp_rif ?_ | refine pwp_rifE ?_
      intro K hK
      simp (disch := first | (refine Ok.mk ?_; (try simp only [Lm, La, Lc, Ln, Lt, Ld, Lr, Li, true_or, or_true, true_and, and_true]); omega) | (simp <;> fail) | skip) [runM_nil, g1l]
      refine hK _ _ ?_
      clear hK K
      refine ifF (by simp [runM_nil, g1l]) (pwp_skip ?_)
      first | refine pwp_sr ?_ | refine pwp_regionM ?_
      intro K hK
      simp (disch := first | (refine Ok.mk ?_; (try simp only [Lm, La, Lc, Ln, Lt, Ld, Lr, Li, true_or, or_true, true_and, and_true]); omega) | (simp <;> fail) | skip) [runM_nil]
      refine hK _ _ ?_
      clear hK K
      exact ⟨r.length - (i + 1), by omega, _, .refl _, i + 1, by omega, hall2, rfl, rfl, by simp [keepL_MS, keepA, getS]⟩
  · obtain rfl : i = r.length := by omega
    rw [List.take_length] at hall
    have hok : (r.all fun f => decide (f.length ≤ 1000)) = true := List.all_eq_true.2 fun f hf => by simpa using hall f hf
    first | refine pwp_sr ?_ | refine pwp_regionM ?_
    intro K hK
    simp (disch := first | (refine Ok.mk ?_; (try simp only [Lm, La, Lc, Ln, Lt, Ld, Lr, Li, true_or, or_true, true_and, and_true]); omega) | (simp <;> fail) | skip) [runM_nil]
    refine hK _ _ ?_
    clear hK K
    refine pwp_seq (pwp_cF (by simp) (pwp_exit ?_))
    by_cases h0 : 0 < r.length
    · by_cases h5 : r.length ≤ 50
      · first | refine pwp_sr ?_ | refine pwp_regionM ?_
        intro K hK
        simp (disch := first | (refine Ok.mk ?_; (try simp only [Lm, La, Lc, Ln, Lt, Ld, Lr, Li, true_or, or_true, true_and, and_true]); omega) | (simp <;> fail) | skip) [runM_nil, hml]
        refine hK _ _ ?_
        clear hK K
        refine pwp_ret ⟨.inr rfl, _, _, (by simp [runM_nil, resL]; rfl), .refl _, by simp [resV, rowOkB, hok, h0, h5], rfl⟩
      · first | refine pwp_sr ?_ | refine pwp_regionM ?_
        intro K hK
        simp (disch := first | (refine Ok.mk ?_; (try simp only [Lm, La, Lc, Ln, Lt, Ld, Lr, Li, true_or, or_true, true_and, and_true]); omega) | (simp <;> fail) | skip) [runM_nil, hml]
        refine hK _ _ ?_
        clear hK K
        refine pwp_ret ⟨.inr rfl, _, _, (by simp [runM_nil, resL]; rfl), .refl _, by simp [resV, rowOkB, hok, h0, h5], rfl⟩
    · first | refine pwp_sr ?_ | refine pwp_regionM ?_
      intro K hK
      simp (disch := first | (refine Ok.mk ?_; (try simp only [Lm, La, Lc, Ln, Lt, Ld, Lr, Li, true_or, or_true, true_and, and_true]); omega) | (simp <;> fail) | skip) [runM_nil, hml]
      refine hK _ _ ?_
      clear hK K
      refine pwp_ret ⟨.inr rfl, _, _, (by simp [runM_nil, resL]; rfl), .refl _, by simp [resV, rowOkB, hok, h0], rfl⟩
theorem needsB_take {s : List Nat} {i : Nat} (h : i < s.length) : needsB (s.take (i + 1)) = (needsB (s.take i) || [44, 34, 10, 13].contains s[i]) := by
  unfold needsB
  rw [List.take_succ_eq_append_getElem h, List.any_append]
  simp
theorem dblB_take {s : List Nat} {i : Nat} (h : i < s.length) : dblB (s.take (i + 1)) = dblB (s.take i) ++ if s[i] = 34 then [34, 34] else [s[i]] := by
  unfold dblB repB
  rw [List.take_succ_eq_append_getElem h, List.flatMap_append]
  simp
theorem dblB_len (s : List Nat) : (dblB s).length ≤ s.length * 3 := repB_len 34 [34, 34] s
end Go.Proofs.YtdphjapaoaokmaaDoor.E
/- The document's field as it is written. -/
namespace Go.Proofs.YtdphjapaoaokmaaDoor.E
open Go Go.RowKit Go.Proofs
set_option linter.unusedVariables false
set_option linter.unusedSimpArgs false
theorem rquote_ok {s : List Nat} (hs : s.length ≤ 1000000) (hw : ∀ x ∈ s, x < 256) : PSpec Tryd.prog 14 [.str (ci s)] (.str (ci (quoteB s))) := by
  intro H
  have hcl : (ci s).length = s.length := Li
  have hge : ∀ i (h : i < s.length), (ci s)[i]? = some (s[i] : Int) := fun i h => by unfold ci; rw [List.getElem?_map, List.getElem?_eq_getElem h]; rfl
  refine spec_of t14 (by simp [p14]) ?_
  simp only [p14]
  first | refine pwp_sr ?_ | refine pwp_regionM ?_
  intro K hK
  simp (disch := first | (refine Ok.mk ?_; (try simp only [Lm, La, Lc, Ln, Lt, Ld, Lr, Li, true_or, or_true, true_and, and_true]); omega) | (simp <;> fail) | skip) [runM_nil]
  refine hK _ _ ?_
  clear hK K
  first | refine pwp_sr ?_ | refine pwp_regionM ?_
  intro K hK
  simp (disch := first | (refine Ok.mk ?_; (try simp only [Lm, La, Lc, Ln, Lt, Ld, Lr, Li, true_or, or_true, true_and, and_true]); omega) | (simp <;> fail) | skip) [runM_nil]
  refine hK _ _ ?_
  clear hK K
  first | refine pwp_sr ?_ | refine pwp_regionM ?_
  intro K hK
  simp (disch := first | (refine Ok.mk ?_; (try simp only [Lm, La, Lc, Ln, Lt, Ld, Lr, Li, true_or, or_true, true_and, and_true]); omega) | (simp <;> fail) | skip) [runM_nil]
  refine hK _ _ ?_
  clear hK K
  refine pwp_seq (pwp_seq ?_)
  first | refine pwp_sr ?_ | refine pwp_regionM ?_
  intro K hK
  simp (disch := first | (refine Ok.mk ?_; (try simp only [Lm, La, Lc, Ln, Lt, Ld, Lr, Li, true_or, or_true, true_and, and_true]); omega) | (simp <;> fail) | skip) [runM_nil]
  refine hK _ _ ?_
  clear hK K
  refine pwp_block ?_
  refine pwp_loopK [0, 3, 4, 5] (fun q st H' => ∃ i : Nat, i ≤ s.length ∧ q = s.length - i ∧ H' = H ∧ st = MS 54 [(0, .str (ci s)), (3, .bool (needsB (s.take i))), (4, .str (ci (34 :: dblB (s.take i)))), (5, .int .i64 i)]) (n := s.length)
    ⟨_, .refl _, 0, Nat.zero_le _, rfl, rfl, by simp [keepL_MS, keepA, getS, needsB, dblB, repB, ci]⟩ ?_
  rintro q st H' ⟨i, hi, rfl, hH, rfl⟩
  subst hH
  refine pwp_seq ?_
  by_cases hlt : i < s.length
  · have g1 := hge i hlt
    have hn := needsB_take hlt
    have hd := dblB_take hlt
    have hdl := dblB_len (s.take i)
    rw [List.length_take] at hdl
    have hc := hw _ (List.getElem_mem hlt)
    have htk : ((ci s).take (i + 1)).drop i = ci [s[i]] := by
      unfold ci
      rw [← List.map_take, ← List.map_drop, List.take_succ_eq_append_getElem hlt, List.drop_left' (by simp; omega)]
    generalize s[i] = c at *
    generalize needsB (s.take i) = nb at *
    generalize dblB (s.take i) = d at *
    have hdl2 : (ci d).length = d.length := Li
    first | refine pwp_sr ?_ | refine pwp_regionM ?_
    intro K hK
    simp (disch := first | (refine Ok.mk ?_; (try simp only [Lm, La, Lc, Ln, Lt, Ld, Lr, Li, true_or, or_true, true_and, and_true]); omega) | (simp <;> fail) | skip) [runM_nil, hcl]
    refine hK _ _ ?_
    clear hK K
    refine pwp_cT (by simp) (pwp_skip ?_)
    refine pwp_seq (pwp_block ?_)
    refine pwp_cut [0, 3, 4, 5] (fun st' H'' => H'' = H' ∧ st' = MS 54 [(0, .str (ci s)), (3, .bool (nb || [44, 34, 10, 13].contains c)), (4, .str (ci (34 :: d))), (5, .int .i64 i)]) ?_ ?_
    · cases nb with
      | true =>
        refine pwp_regionM ?_
        intro K hK
        simp (disch := first | (refine Ok.mk ?_; (try simp only [Lm, La, Lc, Ln, Lt, Ld, Lr, Li, true_or, or_true, true_and, and_true]); omega) | (simp <;> fail) | skip) [runM_nil, g1]
        refine hK _ _ ?_
        clear hK K
        exact cut_to (by simp [keepA, getS]) (.refl _) ⟨rfl, rfl⟩
      | false =>
        rcases (show c = 44 ∨ c = 34 ∨ c = 10 ∨ c = 13 ∨ ¬ c = 44 ∧ ¬ c = 34 ∧ ¬ c = 10 ∧ ¬ c = 13 by omega) with rfl | rfl | rfl | rfl | ⟨h1, h2, h3, h4⟩
        · refine pwp_regionM ?_
          intro K hK
          simp (disch := first | (refine Ok.mk ?_; (try simp only [Lm, La, Lc, Ln, Lt, Ld, Lr, Li, true_or, or_true, true_and, and_true]); omega) | (simp <;> fail) | skip) [runM_nil, g1]
          refine hK _ _ ?_
          clear hK K
          exact cut_to (by simp [keepA, getS]) (.refl _) ⟨rfl, rfl⟩
        · refine pwp_regionM ?_
          intro K hK
          simp (disch := first | (refine Ok.mk ?_; (try simp only [Lm, La, Lc, Ln, Lt, Ld, Lr, Li, true_or, or_true, true_and, and_true]); omega) | (simp <;> fail) | skip) [runM_nil, g1]
          refine hK _ _ ?_
          clear hK K
          exact cut_to (by simp [keepA, getS]) (.refl _) ⟨rfl, rfl⟩
        · refine pwp_regionM ?_
          intro K hK
          simp (disch := first | (refine Ok.mk ?_; (try simp only [Lm, La, Lc, Ln, Lt, Ld, Lr, Li, true_or, or_true, true_and, and_true]); omega) | (simp <;> fail) | skip) [runM_nil, g1]
          refine hK _ _ ?_
          clear hK K
          exact cut_to (by simp [keepA, getS]) (.refl _) ⟨rfl, rfl⟩
        · refine pwp_regionM ?_
          intro K hK
          simp (disch := first | (refine Ok.mk ?_; (try simp only [Lm, La, Lc, Ln, Lt, Ld, Lr, Li, true_or, or_true, true_and, and_true]); omega) | (simp <;> fail) | skip) [runM_nil, g1]
          refine hK _ _ ?_
          clear hK K
          exact cut_to (by simp [keepA, getS]) (.refl _) ⟨rfl, rfl⟩
        · have k1 : ¬ (c : Int) = 44 := by omega
          have k2 : ¬ (c : Int) = 34 := by omega
          have k3 : ¬ (c : Int) = 10 := by omega
          have k4 : ¬ (c : Int) = 13 := by omega
          refine pwp_regionM ?_
          intro K hK
          simp (disch := first | (refine Ok.mk ?_; (try simp only [Lm, La, Lc, Ln, Lt, Ld, Lr, Li, true_or, or_true, true_and, and_true]); omega) | (simp <;> fail) | skip) [runM_nil, g1, k1, k2, k3, k4]
          refine hK _ _ ?_
          clear hK K
          exact cut_to (by simp [keepA, getS, h1, h2, h3, h4]) (.refl _) ⟨rfl, rfl⟩
    rintro _ _ ⟨rfl, rfl⟩
    rw [← hn]
    refine pwp_seq ?_
    by_cases h34 : c = 34
    · subst h34
      first | refine pwp_rif ?_ | refine pwp_rifE ?_
      intro K hK
      simp (disch := first | (refine Ok.mk ?_; (try simp only [Lm, La, Lc, Ln, Lt, Ld, Lr, Li, true_or, or_true, true_and, and_true]); omega) | (simp <;> fail) | skip) [runM_nil, g1]
      refine hK _ _ ?_
      clear hK K
      refine ifT (by simp [runM_nil]) ?_
      refine pwp_regionM ?_
      intro K hK
      simp (disch := first | (refine Ok.mk ?_; (try simp only [Lm, La, Lc, Ln, Lt, Ld, Lr, Li, true_or, or_true, true_and, and_true]); omega) | (simp <;> fail) | skip) [runM_nil, strP, hdl2]
      refine hK _ _ ?_
      clear hK K
      first | refine pwp_sr ?_ | refine pwp_regionM ?_
      intro K hK
      simp (disch := first | (refine Ok.mk ?_; (try simp only [Lm, La, Lc, Ln, Lt, Ld, Lr, Li, true_or, or_true, true_and, and_true]); omega) | (simp <;> fail) | skip) [runM_nil, strP, htk, hcl]
      refine hK _ _ ?_
      clear hK K
      first | refine pwp_sr ?_ | refine pwp_regionM ?_
      intro K hK
      simp (disch := first | (refine Ok.mk ?_; (try simp only [Lm, La, Lc, Ln, Lt, Ld, Lr, Li, true_or, or_true, true_and, and_true]); omega) | (simp <;> fail) | skip) [runM_nil]
      refine hK _ _ ?_
      clear hK K
      exact ⟨s.length - (i + 1), by omega, _, .refl _, i + 1, by omega, rfl, rfl, by simp [keepL_MS, keepA, getS, hd, ci]⟩
    · have k : ¬ (c : Int) = 34 := by omega
      first | refine pwp_rif ?_ | refine pwp_rifE ?_
      intro K hK
      simp (disch := first | (refine Ok.mk ?_; (try simp only [Lm, La, Lc, Ln, Lt, Ld, Lr, Li, true_or, or_true, true_and, and_true]); omega) | (simp <;> fail) | skip) [runM_nil, g1, k]
      refine hK _ _ ?_
      clear hK K
      refine ifF (by simp [runM_nil, k]) (pwp_skip ?_)
      first | refine pwp_sr ?_ | refine pwp_regionM ?_
      intro K hK
      simp (disch := first | (refine Ok.mk ?_; (try simp only [Lm, La, Lc, Ln, Lt, Ld, Lr, Li, true_or, or_true, true_and, and_true]); omega) | (simp <;> fail) | skip) [runM_nil, strP, htk, hcl]
      refine hK _ _ ?_
      clear hK K
      first | refine pwp_sr ?_ | refine pwp_regionM ?_
      intro K hK
      simp (disch := first | (refine Ok.mk ?_; (try simp only [Lm, La, Lc, Ln, Lt, Ld, Lr, Li, true_or, or_true, true_and, and_true]); omega) | (simp <;> fail) | skip) [runM_nil]
      refine hK _ _ ?_
      clear hK K
      exact ⟨s.length - (i + 1), by omega, _, .refl _, i + 1, by omega, rfl, rfl, by simp [keepL_MS, keepA, getS, hd, h34, ci]⟩
  · obtain rfl : i = s.length := by omega
    rw [List.take_length]
    have hdl := dblB_len s
    have hdl2 : (ci (dblB s)).length = (dblB s).length := Li
    first | refine pwp_sr ?_ | refine pwp_regionM ?_
    intro K hK
    simp (disch := first | (refine Ok.mk ?_; (try simp only [Lm, La, Lc, Ln, Lt, Ld, Lr, Li, true_or, or_true, true_and, and_true]); omega) | (simp <;> fail) | skip) [runM_nil, hcl]
    refine hK _ _ ?_
    clear hK K
    refine pwp_cF (by simp) (pwp_exit ?_)
    cases hn : needsB s with
    | true =>
      have hq : quoteB s = 34 :: (dblB s ++ [34]) := by unfold quoteB; rw [hn]; rfl
      generalize dblB s = d at *
      first | refine pwp_rif ?_ | refine pwp_rifE ?_
      intro K hK
      simp (disch := first | (refine Ok.mk ?_; (try simp only [Lm, La, Lc, Ln, Lt, Ld, Lr, Li, true_or, or_true, true_and, and_true]); omega) | (simp <;> fail) | skip) [runM_nil]
      refine hK _ _ ?_
      clear hK K
      refine ifT (by simp (disch := first | (refine Ok.mk ?_; (try simp only [Lm, La, Lc, Ln, Lt, Ld, Lr, Li, true_or, or_true, true_and, and_true]); omega) | (simp <;> fail) | skip) [runM_nil]) ?_
      first | refine pwp_sr ?_ | refine pwp_regionM ?_
      intro K hK
      simp (disch := first | (refine Ok.mk ?_; (try simp only [Lm, La, Lc, Ln, Lt, Ld, Lr, Li, true_or, or_true, true_and, and_true]); omega) | (simp <;> fail) | skip) [runM_nil, strP, hdl2]
      refine hK _ _ ?_
      clear hK K
      refine pwp_retT ⟨.inr rfl, _, _, (by simp [runM_nil, resL]; rfl), .refl _, by simp [resV, hq, ci], rfl⟩
    | false =>
      have hq : quoteB s = s := by unfold quoteB; rw [hn]; rfl
      first | refine pwp_rif ?_ | refine pwp_rifE ?_
      intro K hK
      simp (disch := first | (refine Ok.mk ?_; (try simp only [Lm, La, Lc, Ln, Lt, Ld, Lr, Li, true_or, or_true, true_and, and_true]); omega) | (simp <;> fail) | skip) [runM_nil]
      refine hK _ _ ?_
      clear hK K
      refine ifF (by simp [runM_nil]) (pwp_skip ?_)
      first | refine pwp_sr ?_ | refine pwp_regionM ?_
      intro K hK
      simp (disch := first | (refine Ok.mk ?_; (try simp only [Lm, La, Lc, Ln, Lt, Ld, Lr, Li, true_or, or_true, true_and, and_true]); omega) | (simp <;> fail) | skip) [runM_nil]
      refine hK _ _ ?_
      clear hK K
      refine pwp_ret ⟨.inr rfl, _, _, (by simp (disch := first | (refine Ok.mk ?_; (try simp only [Lm, La, Lc, Ln, Lt, Ld, Lr, Li, true_or, or_true, true_and, and_true]); omega) | (simp <;> fail) | skip) [runM_nil, resL, hq]; rfl), .refl _, by simp (disch := first | (refine Ok.mk ?_; (try simp only [Lm, La, Lc, Ln, Lt, Ld, Lr, Li, true_or, or_true, true_and, and_true]); omega) | (simp <;> fail) | skip) [resV, hq], rfl⟩
end Go.Proofs.YtdphjapaoaokmaaDoor.E
/- Records as a file, by both. -/
namespace Go.Proofs.YtdphjapaoaokmaaDoor.E
open Go Go.RowKit Go.Proofs
set_option linter.unusedVariables false
set_option linter.unusedSimpArgs false
/-- Fields between commas; the first one is the i-th of its row. -/
def sepB : Nat → List (List Nat) → List Nat
  | _, [] => []
  | i, f :: r => (if 0 < i then [44] else []) ++ quoteB f ++ sepB (i + 1) r
def lineB (r : List (List Nat)) : List Nat := sepB 0 r ++ [10]
def fileB (l : List (List (List Nat))) : List Nat := l.flatMap lineB
theorem sepB_append : ∀ (a b : List (List Nat)) (i : Nat), sepB i (a ++ b) = sepB i a ++ sepB (i + a.length) b
  | [], b, i => by simp [sepB]
  | f :: a, b, i => by
    rw [List.cons_append, sepB, sepB_append a b (i + 1), sepB]
    simp [Nat.add_assoc, Nat.add_comm 1]
theorem sepB_take {r : List (List Nat)} {j : Nat} (h : j < r.length) : sepB 0 (r.take (j + 1)) = sepB 0 (r.take j) ++ ((if 0 < j then [44] else []) ++ quoteB r[j]) := by
  rw [List.take_succ_eq_append_getElem h, sepB_append, List.length_take, Nat.min_eq_left (Nat.le_of_lt h), sepB, sepB]
  simp
theorem fileB_take {l : List (List (List Nat))} {i : Nat} (h : i < l.length) : fileB (l.take (i + 1)) = fileB (l.take i) ++ lineB l[i] := by
  unfold fileB
  rw [List.take_succ_eq_append_getElem h, List.flatMap_append]
  simp
theorem fileB_le (l : List (List (List Nat))) (i : Nat) : (fileB (l.take i)).length ≤ (fileB l).length := by
  have e : fileB l = fileB (l.take i) ++ fileB (l.drop i) := by unfold fileB; rw [← List.flatMap_append, List.take_append_drop]
  rw [e, List.length_append]
  omega
theorem sepB_le (r : List (List Nat)) (j : Nat) : (sepB 0 (r.take j)).length ≤ (sepB 0 r).length := by
  have e : sepB 0 r = sepB 0 (r.take j) ++ sepB (0 + (r.take j).length) (r.drop j) := by rw [← sepB_append, List.take_append_drop]
  rw [e, List.length_append]
  omega
def okB (l : List (List (List Nat))) : Bool := l.all rowOkB
def wrB (l : List (List (List Nat))) : List Nat := if okB l = true then fileB l else []
def wrE (l : List (List (List Nat))) : Nat := if okB l = true then 0 else 10
def wrV (l : List (List (List Nat))) : PV := .tup [.lst 1 ((wrB l).map u8) true, .int .i64 (wrE l : Nat)]
theorem wrV_bad {l : List (List (List Nat))} (h : okB l = false) : wrV l = .tup [.lst 1 [] true, .int .i64 10] := by unfold wrV wrB wrE; rw [h]; rfl
theorem wrV_ok {l : List (List (List Nat))} (h : okB l = true) : wrV l = .tup [.lst 1 ((fileB l).map u8) true, .int .i64 0] := by unfold wrV wrB wrE; rw [h]; rfl
theorem rowOkB_iff {r : List (List Nat)} : rowOkB r = true ↔ 0 < r.length ∧ r.length ≤ 50 ∧ ∀ f ∈ r, f.length ≤ 1000 := by
  unfold rowOkB
  simp [and_assoc]
theorem okB_bad {l : List (List (List Nat))} {i : Nat} (h : i < l.length) (hb : rowOkB l[i] = false) : okB l = false := by
  unfold okB
  rw [List.all_eq_false]
  exact ⟨l[i], List.getElem_mem h, by simp [hb]⟩
theorem dblB_ge (s : List Nat) : s.length ≤ (dblB s).length := by
  unfold dblB repB
  induction s with
  | nil => simp
  | cons x s ih =>
    rw [List.flatMap_cons, List.length_append, List.length_cons]
    by_cases h : x = 34
    · rw [if_pos h]; simp only [List.length_cons, List.length_nil]; omega
    · rw [if_neg h]; simp only [List.length_cons, List.length_nil]; omega
theorem quoteB_len (s : List Nat) : s.length ≤ (quoteB s).length := by
  unfold quoteB
  split
  · have := dblB_ge s
    simp
    omega
  · exact Nat.le_refl _
theorem write_ok {l : List (List (List Nat))} (hl : l.length ≤ 1000000) (hr : ∀ r ∈ l, r.length ≤ 1000000) (hN : (fileB l).length ≤ 1000000000) {o : Bool} : PSpec Tryd.prog 12 [.lst 1 (rowsC l) o] (wrV l) := by
  intro H
  have hge : ∀ i (h : i < l.length), (rowsC l)[i]? = some (.lst 1 (l[i].map sV) false) := fun i h => by unfold rowsC; rw [List.getElem?_map, List.getElem?_eq_getElem h]; rfl
  have hml : (rowsC l).length = l.length := List.length_map _
  refine spec_ofU t12 (by simp [p12]) ?_
  simp only [p12]
  generalize rowsC l = es at *
  first | refine pwp_sr ?_ | refine pwp_regionM ?_
  intro K hK
  simp (disch := first | (refine Ok.mk ?_; (try simp only [Lm, La, Lc, Ln, Lt, Ld, Lr, Li, true_or, or_true, true_and, and_true]); omega) | (simp <;> fail) | skip) [runM_nil]
  refine hK _ _ ?_
  clear hK K
  first | refine pwp_sr ?_ | refine pwp_regionM ?_
  intro K hK
  simp (disch := first | (refine Ok.mk ?_; (try simp only [Lm, La, Lc, Ln, Lt, Ld, Lr, Li, true_or, or_true, true_and, and_true]); omega) | (simp <;> fail) | skip) [runM_nil]
  refine hK _ _ ?_
  clear hK K
  refine pwp_seq (pwp_seq ?_)
  first | refine pwp_sr ?_ | refine pwp_regionM ?_
  intro K hK
  simp (disch := first | (refine Ok.mk ?_; (try simp only [Lm, La, Lc, Ln, Lt, Ld, Lr, Li, true_or, or_true, true_and, and_true]); omega) | (simp <;> fail) | skip) [runM_nil, hml]
  refine hK _ _ ?_
  clear hK K
  refine pwp_block ?_
  refine pwp_loopU [4, 9, 10, 11] (fun q st H' => ∃ i : Nat, i ≤ l.length ∧ okB (l.take i) = true ∧ q = l.length - i ∧ H' = H ∧ st = MS 40 [(4, .lst 1 ((fileB (l.take i)).map u8) true), (9, .lst 1 es false), (10, .int .i64 l.length), (11, .int .i64 i)]) (n := l.length)
    ⟨_, _, keep_up (l' := [(4, .lst 1 [] true), (9, .lst 1 es false), (10, .int .i64 l.length), (11, .int .i64 0)]) (by simp), .refl _, 0, Nat.zero_le _, rfl, rfl, rfl, by simp [fileB]⟩ ?_
  rintro q st H' ⟨i, hi, hok, rfl, hH, rfl⟩
  subst hH
  by_cases hlt : i < l.length
  · have g1 := hge i hlt
    have hrl := hr _ (List.getElem_mem hlt)
    have c1 := isRow_ok (r := l[i]) hrl (o := false)
    have hft := fileB_take hlt
    have hfl := fileB_le l (i + 1)
    rw [hft, List.length_append] at hfl
    first | refine pwp_sr ?_ | refine pwp_regionM ?_
    intro K hK
    simp (disch := first | (refine Ok.mk ?_; (try simp only [Lm, La, Lc, Ln, Lt, Ld, Lr, Li, true_or, or_true, true_and, and_true]); omega) | (simp <;> fail) | skip) [runM_nil]
    refine hK _ _ ?_
    clear hK K
    refine pwp_seq (pwp_cT (by simp) (pwp_skip ?_))
    refine pwp_seq (pwp_block ?_)
    first | refine pwp_sr ?_ | refine pwp_regionM ?_
    intro K hK
    simp (disch := first | (refine Ok.mk ?_; (try simp only [Lm, La, Lc, Ln, Lt, Ld, Lr, Li, true_or, or_true, true_and, and_true]); omega) | (simp <;> fail) | skip) [runM_nil, g1, hml]
    refine hK _ _ ?_
    clear hK K
    refine pwp_seq ?_
    cases hro : rowOkB l[i] with
    | false =>
      have hbad := wrV_bad (okB_bad hlt hro)
      rw [hro] at c1
      first | refine pwp_rif ?_ | refine pwp_rifE ?_
      intro K hK
      simp (disch := first | (refine Ok.mk ?_; (try simp only [Lm, La, Lc, Ln, Lt, Ld, Lr, Li, true_or, or_true, true_and, and_true]); omega) | (simp <;> fail) | skip) [runM_nil]
      refine useP (c1) ?_
      simp (disch := first | (refine Ok.mk ?_; (try simp only [Lm, La, Lc, Ln, Lt, Ld, Lr, Li, true_or, or_true, true_and, and_true]); omega) | (simp <;> fail) | skip) [runM_nil]
      refine hK _ _ ?_
      clear hK K
      refine ifT (by simp (disch := first | (refine Ok.mk ?_; (try simp only [Lm, La, Lc, Ln, Lt, Ld, Lr, Li, true_or, or_true, true_and, and_true]); omega) | (simp <;> fail) | skip) [runM_nil]) ?_
      first | refine pwp_sr ?_ | refine pwp_regionM ?_
      intro K hK
      simp (disch := first | (refine Ok.mk ?_; (try simp only [Lm, La, Lc, Ln, Lt, Ld, Lr, Li, true_or, or_true, true_and, and_true]); omega) | (simp <;> fail) | skip) [runM_nil]
      refine hK _ _ ?_
      clear hK K
      refine pwp_ret (And.intro (.inr rfl) ⟨_, _, _, (by simp (disch := first | (refine Ok.mk ?_; (try simp only [Lm, La, Lc, Ln, Lt, Ld, Lr, Li, true_or, or_true, true_and, and_true]); omega) | (simp <;> fail) | skip) [runM_nil, resL, hbad]; rfl), .refl _, (by simp (disch := first | (refine Ok.mk ?_; (try simp only [Lm, La, Lc, Ln, Lt, Ld, Lr, Li, true_or, or_true, true_and, and_true]); omega) | (simp <;> fail) | skip) [resV, hbad]), rfl, rfl⟩)
    | true =>
      have hok2 : okB (l.take (i + 1)) = true := by
        unfold okB at *
        rw [List.take_succ_eq_append_getElem hlt, List.all_append, hok]
        simp [hro]
      obtain ⟨b1, b2, b3⟩ := rowOkB_iff.1 hro
      rw [hro] at c1
      generalize fileB (l.take i) = F at *
      generalize l[i] = r at *
      have hge2 : ∀ j (h : j < r.length), (r.map sV)[j]? = some (.str (ci r[j])) := fun j h => by rw [List.getElem?_map, List.getElem?_eq_getElem h]; rfl
      have hml2 : (r.map sV).length = r.length := List.length_map _
      generalize r.map sV = rs at *
      have hlb : (lineB r).length = (sepB 0 r).length + 1 := by unfold lineB; rw [List.length_append]; rfl
      first | refine pwp_rif ?_ | refine pwp_rifE ?_
      intro K hK
      simp (disch := first | (refine Ok.mk ?_; (try simp only [Lm, La, Lc, Ln, Lt, Ld, Lr, Li, true_or, or_true, true_and, and_true]); omega) | (simp <;> fail) | skip) [runM_nil]
      refine useP (c1) ?_
      simp (disch := first | (refine Ok.mk ?_; (try simp only [Lm, La, Lc, Ln, Lt, Ld, Lr, Li, true_or, or_true, true_and, and_true]); omega) | (simp <;> fail) | skip) [runM_nil]
      refine hK _ _ ?_
      clear hK K
      refine ifF (by simp [runM_nil]) (pwp_skip ?_)
      refine pwp_seq (pwp_seq ?_)
      first | refine pwp_sr ?_ | refine pwp_regionM ?_
      intro K hK
      simp (disch := first | (refine Ok.mk ?_; (try simp only [Lm, La, Lc, Ln, Lt, Ld, Lr, Li, true_or, or_true, true_and, and_true]); omega) | (simp <;> fail) | skip) [runM_nil, hml2]
      refine hK _ _ ?_
      clear hK K
      refine pwp_block ?_
      refine pwp_loopK [4, 9, 10, 11, 18, 19, 20] (fun q st H'' => ∃ j : Nat, j ≤ r.length ∧ q = r.length - j ∧ H'' = H' ∧ st = MS 40 [(4, .lst 1 ((F ++ sepB 0 (r.take j)).map u8) true), (9, .lst 1 es false), (10, .int .i64 l.length), (11, .int .i64 i), (18, .lst 1 rs false), (19, .int .i64 r.length), (20, .int .i64 j)]) (n := r.length)
        ⟨_, .refl _, 0, Nat.zero_le _, rfl, rfl, by simp [keepL_MS, keepA, getS, sepB]⟩ ?_
      rintro q st H'' ⟨j, hj, rfl, hH, rfl⟩
      subst hH
      by_cases hjl : j < r.length
      · have g2 := hge2 j hjl
        have hfs := b3 _ (List.getElem_mem hjl)
        have c2 := quote_ok (s := r[j]) (by omega)
        have hst := sepB_take hjl
        have hsl := sepB_le r (j + 1)
        rw [hst, List.length_append, List.length_append] at hsl
        generalize sepB 0 (r.take j) = S at *
        generalize r[j] = f at *
        have hql : (ci (quoteB f)).length = (quoteB f).length := Li
        first | refine pwp_sr ?_ | refine pwp_regionM ?_
        intro K hK
        simp (disch := first | (refine Ok.mk ?_; (try simp only [Lm, La, Lc, Ln, Lt, Ld, Lr, Li, true_or, or_true, true_and, and_true]); omega) | (simp <;> fail) | skip) [runM_nil]
        refine hK _ _ ?_
        clear hK K
        refine pwp_seq (pwp_cT (by simp) (pwp_skip ?_))
        refine pwp_seq (pwp_block ?_)
        first | refine pwp_sr ?_ | refine pwp_regionM ?_
        intro K hK
        simp (disch := first | (refine Ok.mk ?_; (try simp only [Lm, La, Lc, Ln, Lt, Ld, Lr, Li, true_or, or_true, true_and, and_true]); omega) | (simp <;> fail) | skip) [runM_nil, g2, hml2]
        refine hK _ _ ?_
        clear hK K
        refine pwp_seq ?_
        have hFS : (((F ++ S).map u8)).length = F.length + S.length := by rw [List.length_map, List.length_append]
        by_cases h0 : 0 < j
        · rw [if_pos h0] at hst hsl
          simp only [List.length_singleton] at hsl
          first | refine pwp_rif ?_ | refine pwp_rifE ?_
          intro K hK
          simp (disch := first | (refine Ok.mk ?_; (try simp only [Lm, La, Lc, Ln, Lt, Ld, Lr, Li, true_or, or_true, true_and, and_true]); omega) | (simp <;> fail) | skip) [runM_nil, h0]
          refine hK _ _ ?_
          clear hK K
          refine ifT (by simp [runM_nil, h0]) ?_
          refine pwp_regionM ?_
          intro K hK
          simp (disch := first | (refine Ok.mk ?_; (try simp only [Lm, La, Lc, Ln, Lt, Ld, Lr, Li, true_or, or_true, true_and, and_true]); omega) | (simp <;> fail) | skip) [runM_nil, hFS]
          refine hK _ _ ?_
          clear hK K
          first | refine pwp_sr ?_ | refine pwp_regionM ?_
          intro K hK
          simp (disch := first | (refine Ok.mk ?_; (try simp only [Lm, La, Lc, Ln, Lt, Ld, Lr, Li, true_or, or_true, true_and, and_true]); omega) | (simp <;> fail) | skip) [runM_nil, hFS, hql]
          refine useP (c2) ?_
          simp (disch := first | (refine Ok.mk ?_; (try simp only [Lm, La, Lc, Ln, Lt, Ld, Lr, Li, true_or, or_true, true_and, and_true]); omega) | (simp <;> fail) | skip) [runM_nil, hFS, hql]
          refine hK _ _ ?_
          clear hK K
          first | refine pwp_sr ?_ | refine pwp_regionM ?_
          intro K hK
          simp (disch := first | (refine Ok.mk ?_; (try simp only [Lm, La, Lc, Ln, Lt, Ld, Lr, Li, true_or, or_true, true_and, and_true]); omega) | (simp <;> fail) | skip) [runM_nil]
          refine hK _ _ ?_
          clear hK K
          exact ⟨r.length - (j + 1), by omega, _, .refl _, j + 1, by omega, rfl, rfl, by simp [keepL_MS, keepA, getS, hst, u8]⟩
        · obtain rfl : j = 0 := by omega
          rw [if_neg h0] at hst hsl
          simp only [List.length_nil] at hsl
          first | refine pwp_rif ?_ | refine pwp_rifE ?_
          intro K hK
          simp (disch := first | (refine Ok.mk ?_; (try simp only [Lm, La, Lc, Ln, Lt, Ld, Lr, Li, true_or, or_true, true_and, and_true]); omega) | (simp <;> fail) | skip) [runM_nil, h0]
          refine hK _ _ ?_
          clear hK K
          refine ifF (by simp [runM_nil, h0]) (pwp_skip ?_)
          first | refine pwp_sr ?_ | refine pwp_regionM ?_
          intro K hK
          simp (disch := first | (refine Ok.mk ?_; (try simp only [Lm, La, Lc, Ln, Lt, Ld, Lr, Li, true_or, or_true, true_and, and_true]); omega) | (simp <;> fail) | skip) [runM_nil, hFS, hql]
          refine useP (c2) ?_
          simp (disch := first | (refine Ok.mk ?_; (try simp only [Lm, La, Lc, Ln, Lt, Ld, Lr, Li, true_or, or_true, true_and, and_true]); omega) | (simp <;> fail) | skip) [runM_nil, hFS, hql]
          refine hK _ _ ?_
          clear hK K
          first | refine pwp_sr ?_ | refine pwp_regionM ?_
          intro K hK
          simp (disch := first | (refine Ok.mk ?_; (try simp only [Lm, La, Lc, Ln, Lt, Ld, Lr, Li, true_or, or_true, true_and, and_true]); omega) | (simp <;> fail) | skip) [runM_nil]
          refine hK _ _ ?_
          clear hK K
          exact ⟨r.length - (0 + 1), by omega, _, .refl _, 0 + 1, by omega, rfl, rfl, by simp [keepL_MS, keepA, getS, hst]⟩
      · obtain rfl : j = r.length := by omega
        rw [List.take_length]
        first | refine pwp_sr ?_ | refine pwp_regionM ?_
        intro K hK
        simp (disch := first | (refine Ok.mk ?_; (try simp only [Lm, La, Lc, Ln, Lt, Ld, Lr, Li, true_or, or_true, true_and, and_true]); omega) | (simp <;> fail) | skip) [runM_nil]
        refine hK _ _ ?_
        clear hK K
        refine pwp_seq (pwp_cF (by simp) (pwp_exit ?_))
        have hFS : (((F ++ sepB 0 r).map u8)).length = F.length + (sepB 0 r).length := by rw [List.length_map, List.length_append]
        first | refine pwp_sr ?_ | refine pwp_regionM ?_
        intro K hK
        simp (disch := first | (refine Ok.mk ?_; (try simp only [Lm, La, Lc, Ln, Lt, Ld, Lr, Li, true_or, or_true, true_and, and_true]); omega) | (simp <;> fail) | skip) [runM_nil, hFS]
        refine hK _ _ ?_
        clear hK K
        first | refine pwp_sr ?_ | refine pwp_regionM ?_
        intro K hK
        simp (disch := first | (refine Ok.mk ?_; (try simp only [Lm, La, Lc, Ln, Lt, Ld, Lr, Li, true_or, or_true, true_and, and_true]); omega) | (simp <;> fail) | skip) [runM_nil]
        refine hK _ _ ?_
        clear hK K
        exact ⟨l.length - (i + 1), by omega, _, _, keep_up (l' := [(4, .lst 1 ((F ++ lineB r).map u8) true), (9, .lst 1 es false), (10, .int .i64 l.length), (11, .int .i64 (i + 1 : Nat))]) (by simp [lineB, u8]), .refl _, i + 1, by omega, hok2, rfl, rfl, by rw [hft]⟩
  · obtain rfl : i = l.length := by omega
    rw [List.take_length] at hok ⊢
    have hv := wrV_ok hok
    first | refine pwp_sr ?_ | refine pwp_regionM ?_
    intro K hK
    simp (disch := first | (refine Ok.mk ?_; (try simp only [Lm, La, Lc, Ln, Lt, Ld, Lr, Li, true_or, or_true, true_and, and_true]); omega) | (simp <;> fail) | skip) [runM_nil]
    refine hK _ _ ?_
    clear hK K
    refine pwp_seq (pwp_cF (by simp) (pwp_exit ?_))
    first | refine pwp_sr ?_ | refine pwp_regionM ?_
    intro K hK
    simp (disch := first | (refine Ok.mk ?_; (try simp only [Lm, La, Lc, Ln, Lt, Ld, Lr, Li, true_or, or_true, true_and, and_true]); omega) | (simp <;> fail) | skip) [runM_nil]
    refine hK _ _ ?_
    clear hK K
    refine pwp_ret ⟨.inr rfl, _, _, _, (by simp (disch := first | (refine Ok.mk ?_; (try simp only [Lm, La, Lc, Ln, Lt, Ld, Lr, Li, true_or, or_true, true_and, and_true]); omega) | (simp <;> fail) | skip) [runM_nil, resL, hv]; rfl), .refl _, (by simp (disch := first | (refine Ok.mk ?_; (try simp only [Lm, La, Lc, Ln, Lt, Ld, Lr, Li, true_or, or_true, true_and, and_true]); omega) | (simp <;> fail) | skip) [resV, hv]), rfl, rfl⟩
end Go.Proofs.YtdphjapaoaokmaaDoor.E
/- Records as a file, by the document. -/
namespace Go.Proofs.YtdphjapaoaokmaaDoor.E
open Go Go.RowKit Go.Proofs
set_option linter.unusedVariables false
set_option linter.unusedSimpArgs false
theorem rwrite_ok {l : List (List (List Nat))} (hl : l.length ≤ 1000000) (hr : ∀ r ∈ l, r.length ≤ 1000000) (hw : ∀ r ∈ l, ∀ f ∈ r, ∀ x ∈ f, x < 256) (hN : (fileB l).length ≤ 1000000000) {o : Bool} : PSpec Tryd.prog 13 [.lst 1 (rowsC l) o] (wrV l) := by
  intro H
  have hge : ∀ i (h : i < l.length), (rowsC l)[i]? = some (.lst 1 (l[i].map sV) false) := fun i h => by unfold rowsC; rw [List.getElem?_map, List.getElem?_eq_getElem h]; rfl
  have hml : (rowsC l).length = l.length := List.length_map _
  refine spec_ofU t13 (by simp [p13]) ?_
  simp only [p13]
  generalize rowsC l = es at *
  first | refine pwp_sr ?_ | refine pwp_regionM ?_
  intro K hK
  simp (disch := first | (refine Ok.mk ?_; (try simp only [Lm, La, Lc, Ln, Lt, Ld, Lr, Li, true_or, or_true, true_and, and_true]); omega) | (simp <;> fail) | skip) [runM_nil]
  refine hK _ _ ?_
  clear hK K
  first | refine pwp_sr ?_ | refine pwp_regionM ?_
  intro K hK
  simp (disch := first | (refine Ok.mk ?_; (try simp only [Lm, La, Lc, Ln, Lt, Ld, Lr, Li, true_or, or_true, true_and, and_true]); omega) | (simp <;> fail) | skip) [runM_nil]
  refine hK _ _ ?_
  clear hK K
  refine pwp_seq (pwp_seq ?_)
  first | refine pwp_sr ?_ | refine pwp_regionM ?_
  intro K hK
  simp (disch := first | (refine Ok.mk ?_; (try simp only [Lm, La, Lc, Ln, Lt, Ld, Lr, Li, true_or, or_true, true_and, and_true]); omega) | (simp <;> fail) | skip) [runM_nil, hml]
  refine hK _ _ ?_
  clear hK K
  refine pwp_block ?_
  refine pwp_loopK [0, 4, 5] (fun q st H' => ∃ i : Nat, i ≤ l.length ∧ okB (l.take i) = true ∧ q = l.length - i ∧ H' = H ∧ st = MS 65 [(0, .lst 1 es o), (4, .lst 1 ((fileB (l.take i)).map u8) true), (5, .int .i64 i)]) (n := l.length)
    ⟨_, .refl _, 0, Nat.zero_le _, rfl, rfl, rfl, by simp [keepL_MS, keepA, getS, fileB]⟩ ?_
  rintro q st H' ⟨i, hi, hok, rfl, hH, rfl⟩
  subst hH
  refine pwp_seq ?_
  by_cases hlt : i < l.length
  · have g1 := hge i hlt
    have hrl := hr _ (List.getElem_mem hlt)
    have hrw := hw _ (List.getElem_mem hlt)
    have hft := fileB_take hlt
    have hfl := fileB_le l (i + 1)
    rw [hft, List.length_append] at hfl
    have hbad : rowOkB l[i] = false → wrV l = .tup [.lst 1 [] true, .int .i64 10] := fun h => wrV_bad (okB_bad hlt h)
    have hok2 : rowOkB l[i] = true → okB (l.take (i + 1)) = true := fun h => by
      unfold okB at *
      rw [List.take_succ_eq_append_getElem hlt, List.all_append, hok]
      simp [h]
    generalize fileB (l.take i) = F at *
    generalize l[i] = r at *
    have hge2 : ∀ j (h : j < r.length), (r.map sV)[j]? = some (.str (ci r[j])) := fun j h => by rw [List.getElem?_map, List.getElem?_eq_getElem h]; rfl
    have hml2 : (r.map sV).length = r.length := List.length_map _
    generalize r.map sV = rs at *
    have hlb : (lineB r).length = (sepB 0 r).length + 1 := by unfold lineB; rw [List.length_append]; rfl
    first | refine pwp_sr ?_ | refine pwp_regionM ?_
    intro K hK
    simp (disch := first | (refine Ok.mk ?_; (try simp only [Lm, La, Lc, Ln, Lt, Ld, Lr, Li, true_or, or_true, true_and, and_true]); omega) | (simp <;> fail) | skip) [runM_nil, hml]
    refine hK _ _ ?_
    clear hK K
    refine pwp_cT (by simp) (pwp_skip ?_)
    refine pwp_seq (pwp_block ?_)
    refine pwp_seq ?_
    rcases (show r.length < 1 ∨ ¬ r.length < 1 ∧ 50 < r.length ∨ ¬ r.length < 1 ∧ ¬ 50 < r.length by omega) with h1 | ⟨h1, h2⟩ | ⟨h1, h2⟩
    · have hb := hbad (by rw [Bool.eq_false_iff]; intro h; have := rowOkB_iff.1 h; omega)
      first | refine pwp_rif ?_ | refine pwp_rifE ?_
      intro K hK
      simp (disch := first | (refine Ok.mk ?_; (try simp only [Lm, La, Lc, Ln, Lt, Ld, Lr, Li, true_or, or_true, true_and, and_true]); omega) | (simp <;> fail) | skip) [runM_nil, g1, hml, hml2]
      refine hK _ _ ?_
      clear hK K
      refine ifT (by simp (disch := first | (refine Ok.mk ?_; (try simp only [Lm, La, Lc, Ln, Lt, Ld, Lr, Li, true_or, or_true, true_and, and_true]); omega) | (simp <;> fail) | skip) [runM_nil]) ?_
      first | refine pwp_sr ?_ | refine pwp_regionM ?_
      intro K hK
      simp (disch := first | (refine Ok.mk ?_; (try simp only [Lm, La, Lc, Ln, Lt, Ld, Lr, Li, true_or, or_true, true_and, and_true]); omega) | (simp <;> fail) | skip) [runM_nil]
      refine hK _ _ ?_
      clear hK K
      refine pwp_ret (And.intro (.inr rfl) ⟨_, _, _, (by simp (disch := first | (refine Ok.mk ?_; (try simp only [Lm, La, Lc, Ln, Lt, Ld, Lr, Li, true_or, or_true, true_and, and_true]); omega) | (simp <;> fail) | skip) [runM_nil, resL, hb]; rfl), .refl _, (by simp (disch := first | (refine Ok.mk ?_; (try simp only [Lm, La, Lc, Ln, Lt, Ld, Lr, Li, true_or, or_true, true_and, and_true]); omega) | (simp <;> fail) | skip) [resV, hb]), rfl, rfl⟩)
    · have hb := hbad (by rw [Bool.eq_false_iff]; intro h; have := rowOkB_iff.1 h; omega)
      first | refine pwp_rif ?_ | refine pwp_rifE ?_
      intro K hK
      simp (disch := first | (refine Ok.mk ?_; (try simp only [Lm, La, Lc, Ln, Lt, Ld, Lr, Li, true_or, or_true, true_and, and_true]); omega) | (simp <;> fail) | skip) [runM_nil, g1, hml, hml2]
      refine hK _ _ ?_
      clear hK K
      refine ifT (by simp (disch := first | (refine Ok.mk ?_; (try simp only [Lm, La, Lc, Ln, Lt, Ld, Lr, Li, true_or, or_true, true_and, and_true]); omega) | (simp <;> fail) | skip) [runM_nil]) ?_
      first | refine pwp_sr ?_ | refine pwp_regionM ?_
      intro K hK
      simp (disch := first | (refine Ok.mk ?_; (try simp only [Lm, La, Lc, Ln, Lt, Ld, Lr, Li, true_or, or_true, true_and, and_true]); omega) | (simp <;> fail) | skip) [runM_nil]
      refine hK _ _ ?_
      clear hK K
      refine pwp_ret (And.intro (.inr rfl) ⟨_, _, _, (by simp (disch := first | (refine Ok.mk ?_; (try simp only [Lm, La, Lc, Ln, Lt, Ld, Lr, Li, true_or, or_true, true_and, and_true]); omega) | (simp <;> fail) | skip) [runM_nil, resL, hb]; rfl), .refl _, (by simp (disch := first | (refine Ok.mk ?_; (try simp only [Lm, La, Lc, Ln, Lt, Ld, Lr, Li, true_or, or_true, true_and, and_true]); omega) | (simp <;> fail) | skip) [resV, hb]), rfl, rfl⟩)
    · first | refine pwp_rif ?_ | refine pwp_rifE ?_
      intro K hK
      simp (disch := first | (refine Ok.mk ?_; (try simp only [Lm, La, Lc, Ln, Lt, Ld, Lr, Li, true_or, or_true, true_and, and_true]); omega) | (simp <;> fail) | skip) [runM_nil, g1, hml, hml2]
      refine hK _ _ ?_
      clear hK K
      refine ifF (by simp [runM_nil]) (pwp_skip ?_)
      refine pwp_seq (pwp_seq ?_)
      first | refine pwp_sr ?_ | refine pwp_regionM ?_
      intro K hK
      simp (disch := first | (refine Ok.mk ?_; (try simp only [Lm, La, Lc, Ln, Lt, Ld, Lr, Li, true_or, or_true, true_and, and_true]); omega) | (simp <;> fail) | skip) [runM_nil]
      refine hK _ _ ?_
      clear hK K
      refine pwp_block ?_
      refine pwp_loopK [0, 4, 5, 6] (fun q st H'' => ∃ j : Nat, j ≤ r.length ∧ (∀ f ∈ r.take j, f.length ≤ 1000) ∧ q = r.length - j ∧ H'' = H' ∧ st = MS 65 [(0, .lst 1 es o), (4, .lst 1 ((F ++ sepB 0 (r.take j)).map u8) true), (5, .int .i64 i), (6, .int .i64 j)]) (n := r.length)
        ⟨_, .refl _, 0, Nat.zero_le _, (by simp), rfl, rfl, by simp [keepL_MS, keepA, getS, sepB]⟩ ?_
      rintro q st H'' ⟨j, hj, hall, rfl, hH, rfl⟩
      subst hH
      refine pwp_seq ?_
      by_cases hjl : j < r.length
      · have g2 := hge2 j hjl
        have g2l : (ci r[j]).length = r[j].length := Li
        have hfw := hrw _ (List.getElem_mem hjl)
        have hst := sepB_take hjl
        have hsl := sepB_le r (j + 1)
        rw [hst, List.length_append, List.length_append] at hsl
        have hb : 1000 < r[j].length → wrV l = .tup [.lst 1 [] true, .int .i64 10] := fun h => hbad (by
          rw [Bool.eq_false_iff]
          intro h3
          have := (rowOkB_iff.1 h3).2.2 _ (List.getElem_mem hjl)
          omega)
        have hall2 : ¬ 1000 < r[j].length → ∀ f ∈ r.take (j + 1), f.length ≤ 1000 := fun h f hf => by
          rw [List.take_succ_eq_append_getElem hjl] at hf
          rcases List.mem_append.1 hf with hf | hf
          · exact hall f hf
          · rw [List.mem_singleton] at hf
            rw [hf]
            omega
        generalize sepB 0 (r.take j) = S at *
        generalize r[j] = f at *
        have hql : (ci (quoteB f)).length = (quoteB f).length := Li
        have hFS : (((F ++ S).map u8)).length = F.length + S.length := by rw [List.length_map, List.length_append]
        first | refine pwp_sr ?_ | refine pwp_regionM ?_
        intro K hK
        simp (disch := first | (refine Ok.mk ?_; (try simp only [Lm, La, Lc, Ln, Lt, Ld, Lr, Li, true_or, or_true, true_and, and_true]); omega) | (simp <;> fail) | skip) [runM_nil, g1, hml, hml2]
        refine hK _ _ ?_
        clear hK K
        refine pwp_cT (by simp) (pwp_skip ?_)
        refine pwp_seq (pwp_block ?_)
        refine pwp_seq ?_
        by_cases hf : 1000 < f.length
        · have hb2 := hb hf
          first | refine pwp_rif ?_ | refine pwp_rifE ?_
          intro K hK
          simp (disch := first | (refine Ok.mk ?_; (try simp only [Lm, La, Lc, Ln, Lt, Ld, Lr, Li, true_or, or_true, true_and, and_true]); omega) | (simp <;> fail) | skip) [runM_nil, g1, hml, g2, hml2, g2l]
          refine hK _ _ ?_
          clear hK K
          refine ifT (by simp (disch := first | (refine Ok.mk ?_; (try simp only [Lm, La, Lc, Ln, Lt, Ld, Lr, Li, true_or, or_true, true_and, and_true]); omega) | (simp <;> fail) | skip) [runM_nil]) ?_
          first | refine pwp_sr ?_ | refine pwp_regionM ?_
          intro K hK
          simp (disch := first | (refine Ok.mk ?_; (try simp only [Lm, La, Lc, Ln, Lt, Ld, Lr, Li, true_or, or_true, true_and, and_true]); omega) | (simp <;> fail) | skip) [runM_nil]
          refine hK _ _ ?_
          clear hK K
          refine pwp_ret (And.intro (.inr rfl) ⟨_, _, _, (by simp (disch := first | (refine Ok.mk ?_; (try simp only [Lm, La, Lc, Ln, Lt, Ld, Lr, Li, true_or, or_true, true_and, and_true]); omega) | (simp <;> fail) | skip) [runM_nil, resL, hb2]; rfl), .refl _, (by simp (disch := first | (refine Ok.mk ?_; (try simp only [Lm, La, Lc, Ln, Lt, Ld, Lr, Li, true_or, or_true, true_and, and_true]); omega) | (simp <;> fail) | skip) [resV, hb2]), rfl, rfl⟩)
        · have hall3 := hall2 hf
          have c2 := rquote_ok (s := f) (by omega) hfw
          first | refine pwp_rif ?_ | refine pwp_rifE ?_
          intro K hK
          simp (disch := first | (refine Ok.mk ?_; (try simp only [Lm, La, Lc, Ln, Lt, Ld, Lr, Li, true_or, or_true, true_and, and_true]); omega) | (simp <;> fail) | skip) [runM_nil, g1, hml, g2, hml2, g2l]
          refine hK _ _ ?_
          clear hK K
          refine ifF (by simp [runM_nil, g2l]) (pwp_skip ?_)
          refine pwp_seq ?_
          by_cases h0 : 0 < j
          · rw [if_pos h0] at hst hsl
            simp only [List.length_singleton] at hsl
            first | refine pwp_rif ?_ | refine pwp_rifE ?_
            intro K hK
            simp (disch := first | (refine Ok.mk ?_; (try simp only [Lm, La, Lc, Ln, Lt, Ld, Lr, Li, true_or, or_true, true_and, and_true]); omega) | (simp <;> fail) | skip) [runM_nil, h0]
            refine hK _ _ ?_
            clear hK K
            refine ifT (by simp [runM_nil, h0]) ?_
            refine pwp_regionM ?_
            intro K hK
            simp (disch := first | (refine Ok.mk ?_; (try simp only [Lm, La, Lc, Ln, Lt, Ld, Lr, Li, true_or, or_true, true_and, and_true]); omega) | (simp <;> fail) | skip) [runM_nil, hFS]
            refine hK _ _ ?_
            clear hK K
            first | refine pwp_sr ?_ | refine pwp_regionM ?_
            intro K hK
            simp (disch := first | (refine Ok.mk ?_; (try simp only [Lm, La, Lc, Ln, Lt, Ld, Lr, Li, true_or, or_true, true_and, and_true]); omega) | (simp <;> fail) | skip) [runM_nil, hFS, hql, g1, hml, g2, hml2]
            refine useP (c2) ?_
            simp (disch := first | (refine Ok.mk ?_; (try simp only [Lm, La, Lc, Ln, Lt, Ld, Lr, Li, true_or, or_true, true_and, and_true]); omega) | (simp <;> fail) | skip) [runM_nil, hFS, hql, g1, hml, g2, hml2]
            refine hK _ _ ?_
            clear hK K
            first | refine pwp_sr ?_ | refine pwp_regionM ?_
            intro K hK
            simp (disch := first | (refine Ok.mk ?_; (try simp only [Lm, La, Lc, Ln, Lt, Ld, Lr, Li, true_or, or_true, true_and, and_true]); omega) | (simp <;> fail) | skip) [runM_nil]
            refine hK _ _ ?_
            clear hK K
            exact ⟨r.length - (j + 1), by omega, _, .refl _, j + 1, by omega, hall3, rfl, rfl, by simp [keepL_MS, keepA, getS, hst, u8]⟩
          · obtain rfl : j = 0 := by omega
            rw [if_neg h0] at hst hsl
            simp only [List.length_nil] at hsl
            first | refine pwp_rif ?_ | refine pwp_rifE ?_
            intro K hK
            simp (disch := first | (refine Ok.mk ?_; (try simp only [Lm, La, Lc, Ln, Lt, Ld, Lr, Li, true_or, or_true, true_and, and_true]); omega) | (simp <;> fail) | skip) [runM_nil, h0]
            refine hK _ _ ?_
            clear hK K
            refine ifF (by simp [runM_nil, h0]) (pwp_skip ?_)
            first | refine pwp_sr ?_ | refine pwp_regionM ?_
            intro K hK
            simp (disch := first | (refine Ok.mk ?_; (try simp only [Lm, La, Lc, Ln, Lt, Ld, Lr, Li, true_or, or_true, true_and, and_true]); omega) | (simp <;> fail) | skip) [runM_nil, hFS, hql, g1, hml, g2, hml2]
            refine useP (c2) ?_
            simp (disch := first | (refine Ok.mk ?_; (try simp only [Lm, La, Lc, Ln, Lt, Ld, Lr, Li, true_or, or_true, true_and, and_true]); omega) | (simp <;> fail) | skip) [runM_nil, hFS, hql, g1, hml, g2, hml2]
            refine hK _ _ ?_
            clear hK K
            first | refine pwp_sr ?_ | refine pwp_regionM ?_
            intro K hK
            simp (disch := first | (refine Ok.mk ?_; (try simp only [Lm, La, Lc, Ln, Lt, Ld, Lr, Li, true_or, or_true, true_and, and_true]); omega) | (simp <;> fail) | skip) [runM_nil]
            refine hK _ _ ?_
            clear hK K
            exact ⟨r.length - (0 + 1), by omega, _, .refl _, 0 + 1, by omega, hall3, rfl, rfl, by simp [keepL_MS, keepA, getS, hst]⟩
      · obtain rfl : j = r.length := by omega
        rw [List.take_length] at hall ⊢
        have hok3 := hok2 (rowOkB_iff.2 ⟨by omega, by omega, hall⟩)
        first | refine pwp_sr ?_ | refine pwp_regionM ?_
        intro K hK
        simp (disch := first | (refine Ok.mk ?_; (try simp only [Lm, La, Lc, Ln, Lt, Ld, Lr, Li, true_or, or_true, true_and, and_true]); omega) | (simp <;> fail) | skip) [runM_nil, g1, hml, hml2]
        refine hK _ _ ?_
        clear hK K
        refine pwp_cF (by simp) (pwp_exit ?_)
        have hFS : (((F ++ sepB 0 r).map u8)).length = F.length + (sepB 0 r).length := by rw [List.length_map, List.length_append]
        first | refine pwp_sr ?_ | refine pwp_regionM ?_
        intro K hK
        simp (disch := first | (refine Ok.mk ?_; (try simp only [Lm, La, Lc, Ln, Lt, Ld, Lr, Li, true_or, or_true, true_and, and_true]); omega) | (simp <;> fail) | skip) [runM_nil, hFS]
        refine hK _ _ ?_
        clear hK K
        first | refine pwp_sr ?_ | refine pwp_regionM ?_
        intro K hK
        simp (disch := first | (refine Ok.mk ?_; (try simp only [Lm, La, Lc, Ln, Lt, Ld, Lr, Li, true_or, or_true, true_and, and_true]); omega) | (simp <;> fail) | skip) [runM_nil]
        refine hK _ _ ?_
        clear hK K
        exact ⟨l.length - (i + 1), by omega, _, .refl _, i + 1, by omega, hok3, rfl, rfl, by simp [keepL_MS, keepA, getS, hft, lineB, u8]⟩
  · obtain rfl : i = l.length := by omega
    rw [List.take_length] at hok ⊢
    have hv := wrV_ok hok
    first | refine pwp_sr ?_ | refine pwp_regionM ?_
    intro K hK
    simp (disch := first | (refine Ok.mk ?_; (try simp only [Lm, La, Lc, Ln, Lt, Ld, Lr, Li, true_or, or_true, true_and, and_true]); omega) | (simp <;> fail) | skip) [runM_nil, hml]
    refine hK _ _ ?_
    clear hK K
    refine pwp_cF (by simp) (pwp_exit ?_)
    first | refine pwp_sr ?_ | refine pwp_regionM ?_
    intro K hK
    simp (disch := first | (refine Ok.mk ?_; (try simp only [Lm, La, Lc, Ln, Lt, Ld, Lr, Li, true_or, or_true, true_and, and_true]); omega) | (simp <;> fail) | skip) [runM_nil]
    refine hK _ _ ?_
    clear hK K
    refine pwp_ret ⟨.inr rfl, _, _, _, (by simp (disch := first | (refine Ok.mk ?_; (try simp only [Lm, La, Lc, Ln, Lt, Ld, Lr, Li, true_or, or_true, true_and, and_true]); omega) | (simp <;> fail) | skip) [runM_nil, resL, hv]; rfl), .refl _, (by simp (disch := first | (refine Ok.mk ?_; (try simp only [Lm, La, Lc, Ln, Lt, Ld, Lr, Li, true_or, or_true, true_and, and_true]); omega) | (simp <;> fail) | skip) [resV, hv]), rfl, rfl⟩
end Go.Proofs.YtdphjapaoaokmaaDoor.E
/- What was written is read: in plain terms. -/
namespace Go.Proofs.YtdphjapaoaokmaaDoor.E
open Go Go.RowKit Go.Proofs
set_option linter.unusedVariables false
set_option linter.unusedSimpArgs false
/-! ## what a record that is read is -/
def totB (r : List (List Nat)) : Nat := (r.map fun f => f.length + 1).sum
theorem totB_append (a b : List (List Nat)) : totB (a ++ b) = totB a + totB b := by unfold totB; rw [List.map_append, List.sum_append]
theorem totB_one (f : List Nat) : totB [f] = f.length + 1 := by simp [totB]
structure RowG (r : List (List Nat)) (t : Nat) : Prop where
  pos : 0 < r.length
  le : r.length ≤ 50
  fld : ∀ f ∈ r, f.length ≤ 1000 ∧ ∀ x ∈ f, x < 256
  tot : totB r ≤ t
theorem stpM_out {m : Md} {out : List (List Nat)} {cur : List Nat} {c : Nat} (hm : m ≠ .wrong ∧ m ≠ .none) (he : (stpM m out cur c).e = 0) :
    ((stpM m out cur c).out = out ∧ ((stpM m out cur c).cur = cur ∨ (stpM m out cur c).cur = cur ++ [c])) ∨ ((stpM m out cur c).out = out ++ [cur] ∧ (stpM m out cur c).cur = []) := by
  have hb : (behindM out cur c).e = 0 → ((behindM out cur c).out = out ∧ ((behindM out cur c).cur = cur ∨ (behindM out cur c).cur = cur ++ [c])) ∨ ((behindM out cur c).out = out ++ [cur] ∧ (behindM out cur c).cur = []) := by
    unfold behindM
    intro h
    split
    · exact .inr ⟨rfl, rfl⟩
    · split
      · exact .inr ⟨rfl, rfl⟩
      · split <;> exact .inl ⟨rfl, .inl rfl⟩
  have ha : ∀ m', ((addM m' out cur c).out = out ∧ ((addM m' out cur c).cur = cur ∨ (addM m' out cur c).cur = cur ++ [c])) ∨ ((addM m' out cur c).out = out ++ [cur] ∧ (addM m' out cur c).cur = []) := fun m' => .inl ⟨rfl, .inr rfl⟩
  have hp : (plainM out cur c).e = 0 → ((plainM out cur c).out = out ∧ ((plainM out cur c).cur = cur ∨ (plainM out cur c).cur = cur ++ [c])) ∨ ((plainM out cur c).out = out ++ [cur] ∧ (plainM out cur c).cur = []) := by
    unfold plainM
    split
    · exact hb
    · split
      · intro h; exact .inl ⟨rfl, .inl rfl⟩
      · intro h; exact ha _
  cases m with
  | begin =>
    simp only [stpM] at he ⊢
    split
    · exact .inl ⟨rfl, .inl rfl⟩
    · rename_i h; rw [if_neg h] at he; exact hp he
  | plain => exact hp he
  | quoted =>
    simp only [stpM] at he ⊢
    split
    · exact .inl ⟨rfl, .inl rfl⟩
    · exact ha _
  | closed =>
    simp only [stpM] at he ⊢
    split
    · exact ha _
    · rename_i h; rw [if_neg h] at he; exact hb he
  | ended =>
    simp only [stpM] at he ⊢
    split
    · rename_i h; rw [if_pos h] at he; exact hb he
    · exact .inl ⟨rfl, .inl rfl⟩
  | wrong => exact absurd rfl hm.1
  | none => exact absurd rfl hm.2
theorem goM_row {b : List Nat} (hw : ∀ x ∈ b, x < 256) : ∀ (n k : Nat) (m : Md) (out : List (List Nat)) (cur : List Nat) (r : List (List Nat)) (k' : Nat), b.length - k ≤ n → k ≤ b.length → GoodM m out cur → (∀ f ∈ out, f.length ≤ 1000 ∧ ∀ x ∈ f, x < 256) →
    goM m out cur (b.drop k) k = (r, k', 0) → RowG r (totB out + cur.length + (k' - k) + 1)
  | 0, k, m, out, cur, r, k', hn, hk, hG, ho, hg => by
    obtain rfl : k = b.length := by omega
    rw [List.drop_length, goM] at hg
    split at hg
    · cases hg
    · simp only [Prod.mk.injEq, and_true] at hg
      obtain ⟨rfl, rfl⟩ := hg
      refine ⟨by simp, by have := hG.ol; simp; omega, fun f hf => ?_, by rw [totB_append, totB_one]; omega⟩
      rcases List.mem_append.1 hf with hf | hf
      · exact ho f hf
      · rw [List.mem_singleton.1 hf]; exact ⟨hG.cl, hG.cw⟩
  | n + 1, k, m, out, cur, r, k', hn, hk, hG, ho, hg => by
    by_cases hlt : k < b.length
    · have hcb := hw _ (List.getElem_mem hlt)
      rw [List.drop_eq_getElem_cons hlt, goM] at hg
      generalize b[k] = c at *
      have ho2 : ∀ f ∈ out ++ [cur], f.length ≤ 1000 ∧ ∀ x ∈ f, x < 256 := fun f hf => by
        rcases List.mem_append.1 hf with hf | hf
        · exact ho f hf
        · rw [List.mem_singleton.1 hf]; exact ⟨hG.cl, hG.cw⟩
      split at hg
      · rename_i he
        simp only [Prod.mk.injEq] at hg
        exact absurd hg.2.2 he
      · rename_i he
        have he := Decidable.not_not.1 he
        split at hg
        · rename_i hd
          obtain ⟨rfl, hmq⟩ := stpM_done hG.md hd
          rw [stpM_ten hG.md hmq] at hg
          simp only [Prod.mk.injEq, and_true] at hg
          obtain ⟨rfl, rfl⟩ := hg
          exact ⟨by simp, by have := hG.ol; simp; omega, ho2, by rw [totB_append, totB_one]; omega⟩
        · rename_i hd
          obtain ⟨g1, _, _⟩ := stpM_good hG hcb he (by simpa using hd)
          have hk' := (goM_prog hw n (k + 1) _ _ _ r k' (by omega) (by omega) g1 hg).le
          rcases stpM_out (c := c) hG.md he with ⟨e1, e2⟩ | ⟨e1, e2⟩
          · have ih := goM_row hw n (k + 1) _ _ _ r k' (by omega) (by omega) g1 (by rw [e1]; exact ho) hg
            rw [e1] at ih
            refine ⟨ih.pos, ih.le, ih.fld, ?_⟩
            have := ih.tot
            rcases e2 with e2 | e2
            · rw [e2] at this; omega
            · rw [e2, List.length_append, List.length_singleton] at this; omega
          · have ih := goM_row hw n (k + 1) _ _ _ r k' (by omega) (by omega) g1 (by rw [e1]; exact ho2) hg
            rw [e1, e2, totB_append, totB_one] at ih
            refine ⟨ih.pos, ih.le, ih.fld, ?_⟩
            have := ih.tot
            simp only [List.length_nil] at this
            omega
    · obtain rfl : k = b.length := by omega
      exact goM_row hw 0 b.length m out cur r k' (by omega) hk hG ho hg
theorem recM_row {b : List Nat} (hw : ∀ x ∈ b, x < 256) {k : Nat} (hk : k ≤ b.length) (he : (recM b k).2.2 = 0) : RowG (recM b k).1 ((recM b k).2.1 - k + 1) := by
  have := goM_row hw _ k .begin [] [] _ _ (Nat.le_refl _) hk ⟨by simp, by simp, by simp, by simp⟩ (by simp) (show recM b k = ((recM b k).1, (recM b k).2.1, 0) by rw [← he])
  simpa [totB] using this
theorem quoteB_le (s : List Nat) : (quoteB s).length ≤ 3 * s.length + 2 := by
  unfold quoteB
  split
  · have := dblB_len s
    simp
    omega
  · omega
theorem sepB_tot : ∀ (r : List (List Nat)) (i : Nat), (sepB i r).length ≤ 3 * totB r
  | [], i => by simp [sepB]
  | f :: r, i => by
    have ih := sepB_tot r (i + 1)
    have h1 := quoteB_le f
    rw [sepB, show f :: r = [f] ++ r from rfl, totB_append, totB_one, List.length_append, List.length_append]
    have : (if 0 < i then [44] else ([] : List Nat)).length ≤ 1 := by split <;> simp
    omega
theorem lineB_tot (r : List (List Nat)) : (lineB r).length ≤ 3 * totB r + 1 := by
  unfold lineB
  rw [List.length_append]
  have := sepB_tot r 0
  simp
  omega
/-- The records of the right part. -/
def rowsB (b : List Nat) : List (List (List Nat)) := (scanB b 0).1.map (·.2)
theorem scan_rows {b : List Nat} (hw : ∀ x ∈ b, x < 256) : ∀ (n k : Nat), b.length - k ≤ n → Bd b k → (∀ p ∈ (scanB b k).1, rowOkB p.2 = true ∧ ∀ f ∈ p.2, ∀ x ∈ f, x < 256) ∧ (fileB ((scanB b k).1.map (·.2))).length ≤ 7 * (b.length - k)
  | 0, k, hn, h => by
    obtain rfl : k = b.length := by have := h.le; omega
    rw [scanB_end]
    exact ⟨(fun p hp => by cases hp), (by simp [fileB])⟩
  | n + 1, k, hn, h => by
    by_cases hk : k < b.length
    · by_cases he : (recM b k).2.2 = 0
      · obtain ⟨h2, hE⟩ := h.next hw he
        have := hE.lt hk
        obtain ⟨i1, i2⟩ := scan_rows hw n (recM b k).2.1 (by omega) h2
        have hR := recM_row hw h.le he
        rw [scanB_step hw hk h.par he]
        dsimp only
        refine ⟨fun p hp => ?_, ?_⟩
        · rcases List.mem_cons.1 hp with rfl | hp
          · exact ⟨rowOkB_iff.2 ⟨hR.pos, hR.le, fun f hf => (hR.fld f hf).1⟩, fun f hf => (hR.fld f hf).2⟩
          · exact i1 p hp
        · have h3 := lineB_tot (recM b k).1
          have h4 := hR.tot
          have h5 := h2.le
          rw [List.map_cons, fileB, List.flatMap_cons, List.length_append]
          dsimp only
          have h6 : (fileB ((scanB b (recM b k).2.1).1.map (·.2))).length = (((scanB b (recM b k).2.1).1.map (·.2)).flatMap lineB).length := rfl
          omega
      · rw [scanB_bad hk he]
        exact ⟨(fun p hp => by cases hp), (by simp [fileB])⟩
    · obtain rfl : k = b.length := by have := h.le; omega
      rw [scanB_end]
      exact ⟨(fun p hp => by cases hp), (by simp [fileB])⟩
theorem rowsB_ok {b : List Nat} (hw : ∀ x ∈ b, x < 256) : okB (rowsB b) = true ∧ (∀ r ∈ rowsB b, ∀ f ∈ r, ∀ x ∈ f, x < 256) ∧ (fileB (rowsB b)).length ≤ 7 * b.length := by
  obtain ⟨h1, h2⟩ := scan_rows hw b.length 0 (by omega) (Bd.zero b)
  refine ⟨?_, ?_, by unfold rowsB; simpa using h2⟩
  · unfold okB rowsB
    rw [List.all_map]
    exact List.all_eq_true.2 fun p hp => (h1 p hp).1
  · intro r hr
    obtain ⟨p, hp, rfl⟩ := List.mem_map.1 hr
    exact (h1 p hp).2
/-! ## there and back -/
theorem goM_quoted : ∀ (f rest : List Nat) (out : List (List Nat)) (cur : List Nat) (k : Nat), (cur ++ f).length ≤ 1000 → goM .quoted out cur (dblB f ++ 34 :: rest) k = goM .closed out (cur ++ f) rest (k + (dblB f).length + 1)
  | [], rest, out, cur, k, hl => by
    show goM .quoted out cur (34 :: rest) k = _
    rw [goM]
    simp [stpM, dblB, repB]
  | c :: f, rest, out, cur, k, hl => by
    have hl1 : ¬ 1000 < cur.length + 1 := by simp at hl; omega
    have ih := goM_quoted f rest out (cur ++ [c])
    rw [List.append_assoc] at ih
    by_cases h : c = 34
    · subst h
      have e : dblB (34 :: f) = 34 :: 34 :: dblB f := by simp [dblB, repB]
      rw [e, List.cons_append, List.cons_append, goM, goM]
      have s1 : stpM .quoted out cur 34 = ⟨.closed, out, cur, false, 0⟩ := by simp [stpM]
      have s2 : stpM .closed out cur 34 = ⟨.quoted, out, cur ++ [34], false, 0⟩ := by simp [stpM, addM, hl1]
      simp only [s1, s2]
      simp only [ne_eq, not_true, if_false, Bool.false_eq_true]
      rw [ih _ hl]
      simp only [List.length_cons, List.cons_append, List.nil_append]
      congr 1
      omega
    · have e : dblB (c :: f) = c :: dblB f := by simp [dblB, repB, h]
      rw [e, List.cons_append, goM]
      have s1 : stpM .quoted out cur c = ⟨.quoted, out, cur ++ [c], false, 0⟩ := by simp [stpM, addM, hl1, h]
      simp only [s1]
      simp only [ne_eq, not_true, if_false, Bool.false_eq_true]
      rw [ih _ hl]
      simp only [List.length_cons, List.cons_append, List.nil_append]
      congr 1
      omega
theorem goM_plain : ∀ (f rest : List Nat) (out : List (List Nat)) (cur : List Nat) (k : Nat) (m : Md), m = .begin ∨ m = .plain → (∀ x ∈ f, x ≠ 44 ∧ x ≠ 34 ∧ x ≠ 10 ∧ x ≠ 13) → (cur ++ f).length ≤ 1000 →
    ∃ m', (m' = .begin ∨ m' = .plain) ∧ goM m out cur (f ++ rest) k = goM m' out (cur ++ f) rest (k + f.length)
  | [], rest, out, cur, k, m, hm, hf, hl => ⟨m, hm, by simp⟩
  | c :: f, rest, out, cur, k, m, hm, hf, hl => by
    have hl1 : ¬ 1000 < cur.length + 1 := by simp at hl; omega
    obtain ⟨h1, h2, h3, h4⟩ := hf c (List.mem_cons_self ..)
    obtain ⟨m', hm', ih⟩ := goM_plain f rest out (cur ++ [c]) (k + 1) .plain (.inr rfl) (fun x hx => hf x (List.mem_cons_of_mem _ hx)) (by simpa using hl)
    refine ⟨m', hm', ?_⟩
    have s1 : stpM m out cur c = ⟨.plain, out, cur ++ [c], false, 0⟩ := by
      rcases hm with rfl | rfl <;> simp [stpM, plainM, addM, hl1, h1, h2, h3, h4]
    rw [List.cons_append, goM]
    simp only [s1]
    simp only [ne_eq, not_true, if_false, Bool.false_eq_true]
    rw [ih, List.append_assoc]
    simp only [List.length_cons, List.cons_append, List.nil_append]
    congr 1
    omega
/-- A field, as it is written. -/
theorem goM_field (f rest : List Nat) (out : List (List Nat)) (k : Nat) (hl : f.length ≤ 1000) : ∃ m', (m' = .begin ∨ m' = .plain ∨ m' = .closed) ∧ goM .begin out [] (quoteB f ++ rest) k = goM m' out f rest (k + (quoteB f).length) := by
  by_cases hn : needsB f = true
  · refine ⟨.closed, .inr (.inr rfl), ?_⟩
    have e : quoteB f = 34 :: (dblB f ++ [34]) := by unfold quoteB; rw [if_pos hn]
    rw [e, List.cons_append, goM]
    have s1 : stpM .begin out [] 34 = ⟨.quoted, out, [], false, 0⟩ := by simp [stpM]
    simp only [s1]
    simp only [ne_eq, not_true, if_false, Bool.false_eq_true]
    rw [List.append_assoc]
    show goM .quoted out [] (dblB f ++ 34 :: rest) (k + 1) = _
    rw [goM_quoted f rest out [] (k + 1) (by simpa using hl)]
    simp only [List.nil_append, List.length_cons, List.length_append, List.length_nil]
    congr 1
    omega
  · have e : quoteB f = f := by unfold quoteB; rw [if_neg hn]
    obtain ⟨m', hm', h⟩ := goM_plain f rest out [] k .begin (.inl rfl) (fun x hx => by
      have h1 : ¬ [44, 34, 10, 13].contains x = true := fun hc => hn (List.any_eq_true.2 ⟨x, hx, hc⟩)
      simp at h1
      exact h1) (by simpa using hl)
    refine ⟨m', by rcases hm' with h | h <;> simp [h], ?_⟩
    rw [e, h, List.nil_append]
theorem goM_ten {m' : Md} (hm : m' = .begin ∨ m' = .plain ∨ m' = .closed) (out : List (List Nat)) (f rest : List Nat) (k : Nat) : goM m' out f (10 :: rest) k = (out ++ [f], k + 1, 0) := by
  have s1 : stpM m' out f 10 = ⟨.none, out ++ [f], [], true, 0⟩ := stpM_ten (by rcases hm with rfl | rfl | rfl <;> simp) (by rcases hm with rfl | rfl | rfl <;> simp)
  rw [goM]
  simp only [s1]
  simp
theorem goM_comma {m' : Md} (hm : m' = .begin ∨ m' = .plain ∨ m' = .closed) (out : List (List Nat)) (f rest : List Nat) (k : Nat) (ho : out.length + 1 < 50) : goM m' out f (44 :: rest) k = goM .begin (out ++ [f]) [] rest (k + 1) := by
  have h5 : ¬ out.length = 49 := by omega
  have s1 : stpM m' out f 44 = ⟨.begin, out ++ [f], [], false, 0⟩ := by
    rcases hm with rfl | rfl | rfl <;> simp [stpM, plainM, behindM, h5]
  rw [goM]
  simp only [s1]
  simp
theorem sepB_pos : ∀ (r : List (List Nat)) (i : Nat), 0 < i → sepB i r = sepB 1 r
  | [], i, h => rfl
  | f :: r, i, h => by
    rw [sepB, sepB, if_pos h, if_pos (by omega), sepB_pos r (i + 1) (by omega), sepB_pos r (1 + 1) (by omega)]
theorem goM_fields : ∀ (rs : List (List Nat)) (f post : List Nat) (out : List (List Nat)) (k : Nat), out.length + 1 + rs.length ≤ 50 → (∀ g ∈ f :: rs, g.length ≤ 1000) →
    goM .begin out [] (quoteB f ++ (sepB 1 rs ++ 10 :: post)) k = (out ++ f :: rs, k + (quoteB f).length + (sepB 1 rs).length + 1, 0)
  | [], f, post, out, k, ho, hf => by
    obtain ⟨m', hm', h⟩ := goM_field f (sepB 1 [] ++ 10 :: post) out k (hf f (List.mem_cons_self ..))
    rw [h]
    show goM m' out f (10 :: post) _ = _
    rw [goM_ten hm']
    simp [sepB]
  | g :: rs, f, post, out, k, ho, hf => by
    simp only [List.length_cons] at ho
    obtain ⟨m', hm', h⟩ := goM_field f (sepB 1 (g :: rs) ++ 10 :: post) out k (hf f (List.mem_cons_self ..))
    have e : sepB 1 (g :: rs) = 44 :: (quoteB g ++ sepB 1 rs) := by
      rw [sepB, if_pos (by omega), sepB_pos rs (1 + 1) (by omega)]
      simp
    rw [h, e, List.cons_append, goM_comma hm' _ _ _ _ (by omega), List.append_assoc,
      goM_fields rs g post (out ++ [f]) _ (by simp; omega) (fun x hx => hf x (List.mem_cons_of_mem _ hx))]
    simp only [List.append_assoc, List.cons_append, List.nil_append, List.length_cons, List.length_append, Prod.mk.injEq, true_and, and_true]
    omega
theorem recM_line {pre post : List Nat} {r : List (List Nat)} (hr : rowOkB r = true) : recM (pre ++ (lineB r ++ post)) pre.length = (r, pre.length + (lineB r).length, 0) := by
  obtain ⟨h1, h2, h3⟩ := rowOkB_iff.1 hr
  unfold recM
  rw [List.drop_left]
  cases r with
  | nil => simp at h1
  | cons f rs =>
    have e : lineB (f :: rs) = quoteB f ++ (sepB 1 rs ++ [10]) := by
      unfold lineB
      rw [sepB, if_neg (by omega)]
      simp
    rw [e]
    have := goM_fields rs f post [] pre.length (by simp at h2 ⊢; omega) h3
    simp only [List.append_assoc, List.cons_append, List.nil_append] at this ⊢
    rw [this]
    simp only [List.length_append, List.length_cons, List.length_nil, Prod.mk.injEq, true_and, and_true]
    omega
theorem scan_file {l : List (List (List Nat))} (hb : ∀ x ∈ fileB l, x < 256) : ∀ (l1 l2 : List (List (List Nat))), l = l1 ++ l2 → okB l2 = true → Bd (fileB l) (fileB l1).length →
    ∃ ps, scanB (fileB l) (fileB l1).length = (ps, (fileB l).length, 0) ∧ ps.map (·.2) = l2
  | l1, [], e, hok, hB => by
    rw [List.append_nil] at e
    subst e
    exact ⟨[], scanB_end, rfl⟩
  | l1, r :: l2, e, hok, hB => by
    have hr : rowOkB r = true := (List.all_eq_true.1 hok) r (List.mem_cons_self ..)
    have hok2 : okB l2 = true := List.all_eq_true.2 fun x hx => (List.all_eq_true.1 hok) x (List.mem_cons_of_mem _ hx)
    have ef : fileB l = fileB l1 ++ (lineB r ++ fileB l2) := by rw [e]; simp [fileB]
    have hrec := recM_line (pre := fileB l1) (post := fileB l2) hr
    rw [← ef] at hrec
    have e1 : (fileB (l1 ++ [r])).length = (fileB l1).length + (lineB r).length := by simp [fileB]
    have hpos : 0 < (lineB r).length := by unfold lineB; simp
    have he : (recM (fileB l) (fileB l1).length).2.2 = 0 := by rw [hrec]
    obtain ⟨h2, hE⟩ := hB.next hb he
    rw [hrec] at h2
    obtain ⟨ps, h3, h4⟩ := scan_file hb (l1 ++ [r]) l2 (by rw [e]; simp) hok2 (by rw [e1]; exact h2)
    have hlt : (fileB l1).length < (fileB l).length := by rw [ef, List.length_append, List.length_append]; omega
    rw [scanB_step hb hlt hB.par he, hrec]
    dsimp only
    rw [← e1, h3]
    exact ⟨_, rfl, by simp [h4]⟩
theorem quoteB_lt {s : List Nat} (h : ∀ x ∈ s, x < 256) : ∀ x ∈ quoteB s, x < 256 := by
  intro x hx
  unfold quoteB at hx
  split at hx
  · simp only [List.mem_cons, List.mem_append, List.not_mem_nil, or_false] at hx
    rcases hx with rfl | hx | rfl
    · omega
    · unfold dblB repB at hx
      obtain ⟨y, hy, hx⟩ := List.mem_flatMap.1 hx
      split at hx
      · simp at hx; omega
      · rw [List.mem_singleton.1 hx]; exact h y hy
    · omega
  · exact h x hx
theorem sepB_lt : ∀ (r : List (List Nat)) (i : Nat), (∀ f ∈ r, ∀ x ∈ f, x < 256) → ∀ x ∈ sepB i r, x < 256
  | [], i, h, x, hx => by cases hx
  | f :: r, i, h, x, hx => by
    rw [sepB] at hx
    rcases List.mem_append.1 hx with hx | hx
    · rcases List.mem_append.1 hx with hx | hx
      · split at hx
        · rw [List.mem_singleton.1 hx]; omega
        · cases hx
      · exact quoteB_lt (h f (List.mem_cons_self ..)) x hx
    · exact sepB_lt r (i + 1) (fun g hg => h g (List.mem_cons_of_mem _ hg)) x hx
theorem fileB_lt {l : List (List (List Nat))} (h : ∀ r ∈ l, ∀ f ∈ r, ∀ x ∈ f, x < 256) : ∀ x ∈ fileB l, x < 256 := by
  intro x hx
  obtain ⟨r, hr, hx⟩ := List.mem_flatMap.1 hx
  unfold lineB at hx
  rcases List.mem_append.1 hx with hx | hx
  · exact sepB_lt r 0 (h r hr) x hx
  · rw [List.mem_singleton.1 hx]; omega
/-- What was written is read. -/
theorem scan_back {l : List (List (List Nat))} (h : ∀ r ∈ l, ∀ f ∈ r, ∀ x ∈ f, x < 256) (hok : okB l = true) : ∃ ps, scanB (fileB l) 0 = (ps, (fileB l).length, 0) ∧ ps.map (·.2) = l :=
  scan_file (fileB_lt h) [] l rfl hok (Bd.zero _)
theorem rowsB_back {l : List (List (List Nat))} (h : ∀ r ∈ l, ∀ f ∈ r, ∀ x ∈ f, x < 256) (hok : okB l = true) : rowsB (fileB l) = l := by
  obtain ⟨ps, h1, h2⟩ := scan_back h hok
  unfold rowsB
  rw [h1]
  exact h2
end Go.Proofs.YtdphjapaoaokmaaDoor.E
/- A split of any file is as the document says. -/
namespace Go.Proofs.YtdphjapaoaokmaaDoor.E
open Go Go.RowKit Go.Proofs
set_option linter.unusedVariables false
set_option linter.unusedSimpArgs false
end Go.Proofs.YtdphjapaoaokmaaDoor.E
/- Functions that the machine answers by itself: how many bytes are that one. -/
namespace Go.Proofs.YtdphjapaoaokmaaDoor.E
open Go Go.RowKit Go.Proofs
set_option linter.unusedVariables false
set_option linter.unusedSimpArgs false
/-- What such a function answers, that looks at memory only. -/
theorem spec_ext {P : Program} {f : Nat} {fn : Func} {e : Array Value → Sem Value} {args : List PV} {r : PV} (hf : P.funcs[f]? = some fn) (hname : (fn.name == "runtime.NumGoroutine") = false) (hb : fn.body.isNone = true) (hn : Extern.findNext fn = none) (he : Extern.find fn = some e)
    (h : ∀ (w : World) (g : Ghost) (vals : Array Value), VRl true w g args vals.toList → ∃ v, (e vals).run P w = .ok v w ∧ VR true w g r v ∧ toks r v = []) : PSpec P f args r := by
  refine fun H => ⟨trivial, fun out w g vals hw hH hV hun => ?_⟩
  obtain ⟨v, h1, h2, h3⟩ := h w g vals hV
  refine .inr ⟨v, w, ?_, v, r, H, g, rfl, ⟨rfl, rfl⟩, hw, hH, h2, fun b => ?_, Evol.refl _ _ _⟩
  · rw [run_callFunc_extern hf hname hb hn he, h1]
    rfl
  · rw [h3]
    have := hun b
    simp only [List.count_nil]
    omega
theorem count_ci {b : List Nat} (hw : ∀ x ∈ b, x < 256) (c : Nat) (hc : c < 256) : Lib.countByte (Lib.bytesOf (ci b)) c.toUInt8 = b.count c := by
  induction b with
  | nil => rfl
  | cons x b ih =>
    have hx := hw x (List.mem_cons_self ..)
    have ih := ih fun y hy => hw y (List.mem_cons_of_mem _ hy)
    have e : Lib.bytesOf (ci (x :: b)) = UInt8.ofNat x :: Lib.bytesOf (ci b) := by simp [Lib.bytesOf, ci]
    rw [e]
    unfold Lib.countByte at *
    rw [List.count_cons, List.count_cons, ih]
    congr 1
    have h1 : (UInt8.ofNat x = c.toUInt8) ↔ x = c := by
      constructor
      · intro h
        have h2 := congrArg UInt8.toNat h
        simp only [Nat.toUInt8, UInt8.toNat_ofNat'] at h2
        omega
      · intro h
        rw [h]
    by_cases h : x = c
    · subst h
      simp
    · have h2 : ¬ UInt8.ofNat x = c.toUInt8 := fun h3 => h (h1.1 h3)
      simp [h, h2]
theorem countE_ok {s : Nat} {xs : List PV} {o : Bool} {b : List Nat} (hx : xs = b.map u8) (hs : s = 1 ∨ b.length = 0) (hw : ∀ x ∈ b, x < 256) (c : Nat) (hc : c < 256) :
    PSpec Tryd.prog 39 [.lst s xs o, .int .u8 c] (.int .i64 (b.count c : Nat)) := by
  subst hx
  refine spec_ext Tryd.func39 (by kernel_rfl) (by kernel_rfl) (by kernel_rfl) (e := Extern.BytealgCount.count) (by kernel_rfl) fun w g vals hV => ?_
  obtain ⟨v0, vs0, e0, h0, v1, vs1, rfl, rfl, rfl⟩ := hV
  obtain ⟨A, cap, rfl, _, _, hR, _⟩ := h0
  have hvals : vals = #[.slice A (b.map u8).length cap, .int .u8 c] := by
    apply Array.toList_inj.1
    simpa using e0
  subst hvals
  refine ⟨.int .i64 (b.count c : Nat), ?_, rfl, by simp [toks]⟩
  rw [← count_ci hw c hc]
  cases A with
  | none =>
    have hb : b = [] := by
      rcases hR with h | ⟨_, _, _, h, _⟩
      · simpa using h
      · cases h
    subst hb
    rfl
  | some a =>
    have hcell : ∀ i, i < b.length → w.cell? (a.add i) = some (.int .u8 ((ci b).getD i 0)) := by
      intro i hi
      rcases hR with h | ⟨blk, off, vs, h, hr, hv⟩
      · rw [List.map_eq_nil_iff.1 h] at hi
        simp at hi
      · obtain rfl : s = 1 := hs.resolve_right (by omega)
        cases h
        have hv2 := VRe_ints (toInts_u8 b) hv
        have e3 : (⟨blk, off, none⟩ : Addr).add i = ⟨blk, off + i, none⟩ := by
          unfold Addr.add
          split
          · rename_i h; simp [h]
          · rfl
        rw [e3]
        refine hr.cell (j := i) ?_
        rw [hv2, List.getElem?_map, List.getD_eq_getElem?_getD]
        have : i < (ci b).length := by simpa using hi
        rw [List.getElem?_eq_getElem this]
        rfl
    have := Lib.run_countAt (P := Tryd.prog) w a b.length cap (ci b) (by simp) hcell c
    simpa using this
end Go.Proofs.YtdphjapaoaokmaaDoor.E
/- Quotes counted; places; all records. -/
namespace Go.Proofs.YtdphjapaoaokmaaDoor.E
open Go Go.RowKit Go.Proofs
set_option linter.unusedVariables false
set_option linter.unusedSimpArgs false
theorem count_ok {s : Nat} {xs : List PV} {o q : Bool} {b : List Nat} (hx : xs = b.map u8) (hs : s = 1 ∨ b.length = 0) (hw : ∀ x ∈ b, x < 256) (c : Nat) (hc : c < 256) :
    PSpec Tryd.prog 29 [.lst s xs o, .lst 1 [.int .u8 c] q] (.int .i64 (b.count c : Nat)) := by
  intro H
  have ce := countE_ok (o := false) hx hs hw c hc
  refine spec_of t29 (by simp [p29]) ?_
  simp only [p29]
  first | refine pwp_sr ?_ | refine pwp_regionM ?_
  intro K hK
  simp (disch := first | (refine Ok.mk ?_; (try simp only [Lm, La, Lc, Ln, Lt, Ld, Lr, Li, true_or, or_true, true_and, and_true]); omega) | (simp <;> fail) | skip) [runM_nil]
  refine hK _ _ ?_
  clear hK K
  first | refine pwp_rif ?_ | refine pwp_rifE ?_
  intro K hK
  simp (disch := first | (refine Ok.mk ?_; (try simp only [Lm, La, Lc, Ln, Lt, Ld, Lr, Li, true_or, or_true, true_and, and_true]); omega) | (simp <;> fail) | skip) [runM_nil]
  refine hK _ _ ?_
  clear hK K
  refine ifF (by simp [runM_nil]) (pwp_skip ?_)
  first | refine pwp_rif ?_ | refine pwp_rifE ?_
  intro K hK
  simp (disch := first | (refine Ok.mk ?_; (try simp only [Lm, La, Lc, Ln, Lt, Ld, Lr, Li, true_or, or_true, true_and, and_true]); omega) | (simp <;> fail) | skip) [runM_nil]
  refine hK _ _ ?_
  clear hK K
  refine ifT (by simp [runM_nil]) ?_
  first | refine pwp_sr ?_ | refine pwp_regionM ?_
  intro K hK
  simp (disch := first | (refine Ok.mk ?_; (try simp only [Lm, La, Lc, Ln, Lt, Ld, Lr, Li, true_or, or_true, true_and, and_true]); omega) | (simp <;> fail) | skip) [runM_nil]
  refine useP (ce) ?_
  simp (disch := first | (refine Ok.mk ?_; (try simp only [Lm, La, Lc, Ln, Lt, Ld, Lr, Li, true_or, or_true, true_and, and_true]); omega) | (simp <;> fail) | skip) [runM_nil]
  refine hK _ _ ?_
  clear hK K
  refine pwp_retT ⟨.inr rfl, _, _, (by simp (disch := first | (refine Ok.mk ?_; (try simp only [Lm, La, Lc, Ln, Lt, Ld, Lr, Li, true_or, or_true, true_and, and_true]); omega) | (simp <;> fail) | skip) [runM_nil, resL]; rfl), .refl _, by simp (disch := first | (refine Ok.mk ?_; (try simp only [Lm, La, Lc, Ln, Lt, Ld, Lr, Li, true_or, or_true, true_and, and_true]); omega) | (simp <;> fail) | skip) [resV], rfl⟩
theorem parM_count : ∀ (l : List Nat) (p : Bool), parM p l = (p != decide (l.count 34 % 2 = 1))
  | [], p => by simp [parM]
  | c :: l, p => by
    rw [parM, parM_count l, List.count_cons]
    by_cases h : c = 34
    · subst h
      have h2 : (l.count 34 + 1) % 2 = 1 ↔ ¬ l.count 34 % 2 = 1 := by omega
      by_cases h3 : l.count 34 % 2 = 1
      · have h4 : ¬ (l.count 34 + 1) % 2 = 1 := by omega
        cases p <;> simp [h3, h4]
      · have h4 : (l.count 34 + 1) % 2 = 1 := by omega
        cases p <;> simp [h3, h4]
    · simp [h]
theorem inside_ok {s : Nat} {xs : List PV} {o : Bool} {b : List Nat} (hx : xs = b.map u8) (hs : s = 1 ∨ b.length = 0) (hw : ∀ x ∈ b, x < 256) (hl : b.length ≤ 1000000) (k : Nat) (hk : k ≤ b.length) :
    PSpec Tryd.prog 20 [.lst s xs o, .int .i64 k] (.bool (par b k)) := by
  intro H
  have hxl : xs.length = b.length := by rw [hx, List.length_map]
  have hs2 : s = 1 ∨ xs.length = 0 := by rw [hxl]; exact hs
  have hkx : k ≤ xs.length := by omega
  have htk : xs.take k = (b.take k).map u8 := by rw [hx, List.map_take]
  have hp : par b k = decide ((b.take k).count 34 % 2 = 1) := by rw [par, parM_count]; simp
  rw [hp]
  have hcl : (b.take k).count 34 ≤ 1000000 := by
    have := List.count_le_length (a := 34) (l := b.take k)
    rw [List.length_take] at this
    omega
  have c := count_ok (o := false) (q := false) (xs := (b.take k).map u8) rfl (hs.imp id fun h => by rw [List.length_take]; omega) (fun x hx => hw x (List.mem_of_mem_take hx)) 34 (by omega)
  have m1 : (if (0 : Int) < k then (k : Int) else 0) = k := by split <;> omega
  have m2 : (if (k : Int) < 0 then (0 : Int) else k) = k := by split <;> omega
  have m3 : (if (b.length : Int) < k then (b.length : Int) else k) = k := by split <;> omega
  generalize (b.take k).count 34 = n at *
  generalize (b.take k).map u8 = T at *
  refine spec_of t20 (by simp [p20]) ?_
  simp only [p20]
  first | refine pwp_sr ?_ | refine pwp_regionM ?_
  intro K hK
  simp (disch := first | (refine Ok.mk ?_; (try simp only [Lm, La, Lc, Ln, Lt, Ld, Lr, Li, true_or, or_true, true_and, and_true]); omega) | (simp <;> fail) | skip) [runM_nil]
  refine hK _ _ ?_
  clear hK K
  first | refine pwp_sr ?_ | refine pwp_regionM ?_
  intro K hK
  simp (disch := first | (refine Ok.mk ?_; (try simp only [Lm, La, Lc, Ln, Lt, Ld, Lr, Li, true_or, or_true, true_and, and_true]); omega) | (simp <;> fail) | skip) [runM_nil, hxl, m1, m2, m3, htk]
  refine useP (c) ?_
  simp (disch := first | (refine Ok.mk ?_; (try simp only [Lm, La, Lc, Ln, Lt, Ld, Lr, Li, true_or, or_true, true_and, and_true]); omega) | (simp <;> fail) | skip) [runM_nil, hxl, m1, m2, m3, htk]
  refine hK _ _ ?_
  clear hK K
  by_cases h1 : n % 2 = 1
  · have i1 : (n : Int) % 2 = 1 := by omega
    refine pwp_ret ⟨.inr rfl, _, _, (by simp (disch := first | (refine Ok.mk ?_; (try simp only [Lm, La, Lc, Ln, Lt, Ld, Lr, Li, true_or, or_true, true_and, and_true]); omega) | (simp <;> fail) | skip) [runM_nil, resL, h1, i1]; rfl), .refl _, by simp (disch := first | (refine Ok.mk ?_; (try simp only [Lm, La, Lc, Ln, Lt, Ld, Lr, Li, true_or, or_true, true_and, and_true]); omega) | (simp <;> fail) | skip) [resV, h1, i1], rfl⟩
  · have i1 : ¬ (n : Int) % 2 = 1 := by omega
    refine pwp_ret ⟨.inr rfl, _, _, (by simp (disch := first | (refine Ok.mk ?_; (try simp only [Lm, La, Lc, Ln, Lt, Ld, Lr, Li, true_or, or_true, true_and, and_true]); omega) | (simp <;> fail) | skip) [runM_nil, resL, h1, i1]; rfl), .refl _, by simp (disch := first | (refine Ok.mk ?_; (try simp only [Lm, La, Lc, Ln, Lt, Ld, Lr, Li, true_or, or_true, true_and, and_true]); omega) | (simp <;> fail) | skip) [resV, h1, i1], rfl⟩
/-- The places by which is split: those of the list that lie between. -/
def cutsTo (l : List Int) (k : Nat) : List Nat := 0 :: (List.range k).filter fun j => decide (0 < j ∧ (j : Int) ∈ l)
def cutsB (n : Nat) (l : List Int) : List Nat := cutsTo l n ++ if 0 < n then [n] else []
theorem cutsTo_one (l : List Int) {k : Nat} (h : k ≤ 1) : cutsTo l k = [0] := by
  unfold cutsTo
  rw [List.cons.injEq]
  refine ⟨rfl, ?_⟩
  rw [List.filter_eq_nil_iff]
  intro j hj
  have := List.mem_range.1 hj
  simp
  omega
theorem cutsTo_succ (l : List Int) {k : Nat} (h : 0 < k) : cutsTo l (k + 1) = cutsTo l k ++ if (k : Int) ∈ l then [k] else [] := by
  unfold cutsTo
  rw [List.range_succ, List.filter_append, List.cons_append]
  congr 2
  by_cases hm : (k : Int) ∈ l
  · simp [hm, h]
  · simp [hm]
theorem cutsTo_len (l : List Int) (k : Nat) : (cutsTo l k).length ≤ k + 1 := by
  unfold cutsTo
  rw [List.length_cons]
  have := List.length_filter_le (fun j : Nat => decide (0 < j ∧ (j : Int) ∈ l)) (List.range k)
  rw [List.length_range] at this
  omega
def nV (n : Nat) : PV := .int .i64 n
def zV (n : Int) : PV := .int .i64 n
theorem all_ok {l : List (Nat × List (List Nat))} (hl : l.length ≤ 1000000) {o : Bool} : PSpec Tryd.prog 16 [.lst 2 (l.map pcV) o] (.lst 1 (rowsC (l.map (·.2))) true) := by
  intro H
  have hpl : (l.map pcV).length = l.length := List.length_map _
  have hge : ∀ i (h : i < l.length), (l.map pcV)[i]? = some (.agg [.int .i64 l[i].1, .lst 1 [.lst 1 (l[i].2.map sV) false] false]) := fun i h => by rw [List.getElem?_map, List.getElem?_eq_getElem h]; rfl
  refine spec_of t16 (by simp [p16]) ?_
  simp only [p16]
  generalize l.map pcV = es at *
  first | refine pwp_sr ?_ | refine pwp_regionM ?_
  intro K hK
  simp (disch := first | (refine Ok.mk ?_; (try simp only [Lm, La, Lc, Ln, Lt, Ld, Lr, Li, true_or, or_true, true_and, and_true]); omega) | (simp <;> fail) | skip) [runM_nil]
  refine hK _ _ ?_
  clear hK K
  first | refine pwp_sr ?_ | refine pwp_regionM ?_
  intro K hK
  simp (disch := first | (refine Ok.mk ?_; (try simp only [Lm, La, Lc, Ln, Lt, Ld, Lr, Li, true_or, or_true, true_and, and_true]); omega) | (simp <;> fail) | skip) [runM_nil]
  refine hK _ _ ?_
  clear hK K
  refine pwp_seq (pwp_seq ?_)
  first | refine pwp_sr ?_ | refine pwp_regionM ?_
  intro K hK
  simp (disch := first | (refine Ok.mk ?_; (try simp only [Lm, La, Lc, Ln, Lt, Ld, Lr, Li, true_or, or_true, true_and, and_true]); omega) | (simp <;> fail) | skip) [runM_nil]
  refine hK _ _ ?_
  clear hK K
  refine pwp_block ?_
  refine pwp_loopK [0, 3, 4] (fun m st H' => ∃ i, i ≤ l.length ∧ m = l.length - i ∧ H' = H ∧ st = MS 20 [(0, .lst 2 es o), (3, .lst 1 (rowsC ((l.take i).map (·.2))) true), (4, .int .i64 i)]) (n := l.length)
    ⟨_, .refl _, 0, Nat.zero_le _, rfl, rfl, by simp [keepL_MS, keepA, getS, rowsC]⟩ ?_
  rintro m st H1 ⟨i, hi, rfl, rfl, rfl⟩
  refine pwp_seq ?_
  by_cases hlt : i < l.length
  · have g1 := hge i hlt
    have hs : (l.take (i + 1)).map (·.2) = (l.take i).map (·.2) ++ [l[i].2] := by rw [List.take_succ_eq_append_getElem hlt, List.map_append]; rfl
    have hrl : (rowsC ((l.take i).map (·.2))).length ≤ i := by simp [rowsC]; omega
    generalize (l.take i).map (·.2) = A at *
    generalize l[i] = e at *
    obtain ⟨k, r⟩ := e
    dsimp only at *
    first | refine pwp_sr ?_ | refine pwp_regionM ?_
    intro K hK
    simp (disch := first | (refine Ok.mk ?_; (try simp only [Lm, La, Lc, Ln, Lt, Ld, Lr, Li, true_or, or_true, true_and, and_true]); omega) | (simp <;> fail) | skip) [runM_nil, hpl]
    refine hK _ _ ?_
    clear hK K
    refine pwp_cT (by simp) (pwp_skip ?_)
    refine pwp_seq (pwp_block ?_)
    first | refine pwp_sr ?_ | refine pwp_regionM ?_
    intro K hK
    simp (disch := first | (refine Ok.mk ?_; (try simp only [Lm, La, Lc, Ln, Lt, Ld, Lr, Li, true_or, or_true, true_and, and_true]); omega) | (simp <;> fail) | skip) [runM_nil, g1, hpl]
    refine hK _ _ ?_
    clear hK K
    first | refine pwp_sr ?_ | refine pwp_regionM ?_
    intro K hK
    simp (disch := first | (refine Ok.mk ?_; (try simp only [Lm, La, Lc, Ln, Lt, Ld, Lr, Li, true_or, or_true, true_and, and_true]); omega) | (simp <;> fail) | skip) [runM_nil]
    refine hK _ _ ?_
    clear hK K
    exact ⟨l.length - (i + 1), by omega, _, .refl _, i + 1, by omega, rfl, rfl, by simp [keepL_MS, keepA, getS, hs, rowsC]⟩
  · obtain rfl : i = l.length := by omega
    rw [List.take_length]
    first | refine pwp_sr ?_ | refine pwp_regionM ?_
    intro K hK
    simp (disch := first | (refine Ok.mk ?_; (try simp only [Lm, La, Lc, Ln, Lt, Ld, Lr, Li, true_or, or_true, true_and, and_true]); omega) | (simp <;> fail) | skip) [runM_nil, hpl]
    refine hK _ _ ?_
    clear hK K
    refine pwp_cF (by simp) (pwp_exit ?_)
    first | refine pwp_sr ?_ | refine pwp_regionM ?_
    intro K hK
    simp (disch := first | (refine Ok.mk ?_; (try simp only [Lm, La, Lc, Ln, Lt, Ld, Lr, Li, true_or, or_true, true_and, and_true]); omega) | (simp <;> fail) | skip) [runM_nil]
    refine hK _ _ ?_
    clear hK K
    refine pwp_ret ⟨.inr rfl, _, _, (by simp (disch := first | (refine Ok.mk ?_; (try simp only [Lm, La, Lc, Ln, Lt, Ld, Lr, Li, true_or, or_true, true_and, and_true]); omega) | (simp <;> fail) | skip) [runM_nil, resL]; rfl), .refl _, by simp (disch := first | (refine Ok.mk ?_; (try simp only [Lm, La, Lc, Ln, Lt, Ld, Lr, Li, true_or, or_true, true_and, and_true]); omega) | (simp <;> fail) | skip) [resV], rfl⟩
end Go.Proofs.YtdphjapaoaokmaaDoor.E
