/- Part 2 of the proof of CsvSplits: what the program's functions come to. -/
import Derived.KernelRfl
import Derived.Laws.Externs
import Derived.Shelf.Bytes.SlCountOne
import Derived.Test.YtdphjapaoaokmaaJCsvSplits1
import Derived.Test.YtdphjapaoaokmaaL2
import Derived.Test.YtdphjapaoaokmaaProg
/- The document's record. -/
namespace Go.Proofs.Ytdphjapaoaokmaa.E
open Go Go.RowKit Go.Proofs
set_option linter.unusedVariables false
set_option linter.unusedSimpArgs false
def rrecV (x : List (List Nat) × Nat × Nat) : PV := .tup [.lst 1 (x.1.map sV) true, .int .i64 (x.2.1 : Nat), .int .i64 (x.2.2 : Nat)]
theorem rrecord_ok {s : Nat} {xs : List PV} {o : Bool} {b : List Nat} (hx : xs = b.map u8) (hs : s = 1 ∨ b.length = 0) (hw : ∀ x ∈ b, x < 256) (hl : b.length ≤ 1000000) (k0 : Nat) (hk0 : k0 ≤ b.length) :
    PSpec Try.prog 15 [.lst s xs o, .int .i64 k0] (rrecV (recM b k0)) := by
  intro H
  have hxl : xs.length = b.length := by rw [hx, List.length_map]
  have hxg : ∀ i (h : i < b.length), xs[i]? = some (.int .u8 (b[i] : Nat)) := fun i h => by rw [hx, List.getElem?_map, List.getElem?_eq_getElem h]; rfl
  refine spec_ofU t15 (by simp [p15]) ?_
  simp only [p15]
  first | refine pwp_sr ?_ | refine pwp_regionM ?_
  intro K hK
  simp (disch := first | (refine Ok.mk ?_; (try simp only [Lm, La, Lc, Ln, Lt, Ld, Lr, Li, true_or, or_true, true_and, and_true]); omega) | (simp <;> fail) | skip) [runM_nil]
  refine hK _ _ ?_
  clear hK K
  first | refine pwp_sr ?_ | refine pwp_regionM ?_
  intro K hK
  simp (disch := first | (refine Ok.mk ?_; (try simp only [Lm, La, Lc, Ln, Lt, Ld, Lr, Li, true_or, or_true, true_and, and_true]); omega) | (simp <;> fail) | skip) [runM_nil]
  refine hK _ _ ?_
  clear hK K
  refine pwp_block ?_
  refine pwp_loopK [0, 1, 7] (fun q st H' => ∃ (k : Nat) (out : List (List Nat)), k ≤ b.length ∧ out.length ≤ 50 ∧ (out.length = 50 ∧ recM b k0 = ([], 0, 5) ∨ out.length < 50 ∧ recM b k0 = goM .begin out [] (b.drop k) k) ∧
      q = b.length - k + (50 - out.length) ∧ H' = H ∧ st = MS 68 [(0, .lst s xs o), (1, .int .i64 k), (7, .lst 1 (out.map sV) true)]) (n := b.length - k0 + 50)
    ⟨_, .refl _, k0, [], hk0, by simp, .inr ⟨by simp, rfl⟩, rfl, rfl, by simp [keepL_MS, keepA, getS]⟩ ?_
  rintro q st H' ⟨k, out, hk, hol, hcase, rfl, hH, rfl⟩
  subst hH
  refine pwp_block ?_
  rcases hcase with ⟨h50, hrec⟩ | ⟨h50, hrec⟩
  · have i50 : (out.length : Int) = 50 := by omega
    first | refine pwp_rif ?_ | refine pwp_rifE ?_
    intro K hK
    simp (disch := first | (refine Ok.mk ?_; (try simp only [Lm, La, Lc, Ln, Lt, Ld, Lr, Li, true_or, or_true, true_and, and_true]); omega) | (simp <;> fail) | skip) [runM_nil, i50]
    refine hK _ _ ?_
    clear hK K
    refine ifT (by simp [runM_nil, i50]) ?_
    first | refine pwp_sr ?_ | refine pwp_regionM ?_
    intro K hK
    simp (disch := first | (refine Ok.mk ?_; (try simp only [Lm, La, Lc, Ln, Lt, Ld, Lr, Li, true_or, or_true, true_and, and_true]); omega) | (simp <;> fail) | skip) [runM_nil]
    refine hK _ _ ?_
    clear hK K
    refine pwp_ret ⟨.inr rfl, _, _, _, (by simp [runM_nil, resL]; rfl), .refl _, ?_, rfl, rfl⟩
    rw [hrec]
    simp [resV, rrecV]
  · have i50 : ¬ (out.length : Int) = 50 := by omega
    first | refine pwp_rif ?_ | refine pwp_rifE ?_
    intro K hK
    simp (disch := first | (refine Ok.mk ?_; (try simp only [Lm, La, Lc, Ln, Lt, Ld, Lr, Li, true_or, or_true, true_and, and_true]); omega) | (simp <;> fail) | skip) [runM_nil, i50]
    refine hK _ _ ?_
    clear hK K
    refine ifF (by simp [runM_nil, i50]) (pwp_skip ?_)
    first | refine pwp_sr ?_ | refine pwp_regionM ?_
    intro K hK
    simp (disch := first | (refine Ok.mk ?_; (try simp only [Lm, La, Lc, Ln, Lt, Ld, Lr, Li, true_or, or_true, true_and, and_true]); omega) | (simp <;> fail) | skip) [runM_nil]
    refine hK _ _ ?_
    clear hK K
    refine pwp_cut [0, 1, 7, 8, 9, 10] (fun st' H2 => ∃ (f : List Nat) (k' e : Nat), (e ≠ 0 → recM b k0 = ([], 0, e)) ∧ (e = 0 → k ≤ k' ∧ k' ≤ b.length ∧ recM b k0 = aftM out f b k') ∧ H2 = H' ∧
      st' = MS 68 [(0, .lst s xs o), (1, .int .i64 k), (7, .lst 1 (out.map sV) true), (8, .str (ci f)), (9, .int .i64 k'), (10, .int .i64 e)]) ?_ ?_
    · by_cases hlt : k < b.length
      · obtain rfl : s = 1 := hs.resolve_right (by omega)
        have h1 := hxg k hlt
        have hge : b[k]? = some b[k] := List.getElem?_eq_getElem hlt
        have hdr : b.drop k = b[k] :: b.drop (k + 1) := List.drop_eq_getElem_cons hlt
        by_cases h34 : b[k] = 34
        · have c := rquoted_ok (H := H') (s := 1) (o := false) hx (.inl rfl) hw hl (k + 1) (by omega)
          rw [Int.natCast_add, Int.natCast_one] at c
          rw [hdr, h34, goM] at hrec
          rw [h34] at h1
          first | refine pwp_rif ?_ | refine pwp_rifE ?_
          intro K hK
          simp (disch := first | (refine Ok.mk ?_; (try simp only [Lm, La, Lc, Ln, Lt, Ld, Lr, Li, true_or, or_true, true_and, and_true]); omega) | (simp <;> fail) | skip) [runM_nil, hxl, h1]
          refine hK _ _ ?_
          clear hK K
          refine ifT (by simp (disch := first | (refine Ok.mk ?_; (try simp only [Lm, La, Lc, Ln, Lt, Ld, Lr, Li, true_or, or_true, true_and, and_true]); omega) | (simp <;> fail) | skip) [runM_nil]) ?_
          first | refine pwp_sr ?_ | refine pwp_regionM ?_
          intro K hK
          simp (disch := first | (refine Ok.mk ?_; (try simp only [Lm, La, Lc, Ln, Lt, Ld, Lr, Li, true_or, or_true, true_and, and_true]); omega) | (simp <;> fail) | skip) [runM_nil]
          refine useH c ?_
          try simp (disch := first | (refine Ok.mk ?_; (try simp only [Lm, La, Lc, Ln, Lt, Ld, Lr, Li, true_or, or_true, true_and, and_true]); omega) | (simp <;> fail) | skip) [runM_nil]
          rintro v H2 ⟨hH, f, k', e, rfl, q1, q2⟩
          try simp (disch := first | (refine Ok.mk ?_; (try simp only [Lm, La, Lc, Ln, Lt, Ld, Lr, Li, true_or, or_true, true_and, and_true]); omega) | (simp <;> fail) | skip) [runM_nil]
          subst hH
          try simp (disch := first | (refine Ok.mk ?_; (try simp only [Lm, La, Lc, Ln, Lt, Ld, Lr, Li, true_or, or_true, true_and, and_true]); omega) | (simp <;> fail) | skip) [runM_nil]
          refine hK _ _ ?_
          clear hK K
          refine cut_to (by simp [keepA, getS]) (.refl _) ⟨f, k', e, fun he => ?_, fun he => ?_, rfl, rfl⟩
          · rw [hrec, ← q1 he out]
            simp [stpM]
          · obtain ⟨k1, k2, _, k4⟩ := q2 he
            refine ⟨by omega, k2, ?_⟩
            rw [hrec, ← k4 out]
            simp [stpM]
        · have g34 : ¬ (b[k] : Int) = 34 := by omega
          have c := rplain_ok (H := H') (s := 1) (o := false) hx (.inl rfl) hw hl k hk (by rw [hge]; simpa using h34)
          first | refine pwp_rif ?_ | refine pwp_rifE ?_
          intro K hK
          simp (disch := first | (refine Ok.mk ?_; (try simp only [Lm, La, Lc, Ln, Lt, Ld, Lr, Li, true_or, or_true, true_and, and_true]); omega) | (simp <;> fail) | skip) [runM_nil, hxl, h1, g34]
          refine hK _ _ ?_
          clear hK K
          refine ifF (by simp [runM_nil, g34]) ?_
          first | refine pwp_sr ?_ | refine pwp_regionM ?_
          intro K hK
          simp (disch := first | (refine Ok.mk ?_; (try simp only [Lm, La, Lc, Ln, Lt, Ld, Lr, Li, true_or, or_true, true_and, and_true]); omega) | (simp <;> fail) | skip) [runM_nil]
          refine useH c ?_
          try simp (disch := first | (refine Ok.mk ?_; (try simp only [Lm, La, Lc, Ln, Lt, Ld, Lr, Li, true_or, or_true, true_and, and_true]); omega) | (simp <;> fail) | skip) [runM_nil]
          rintro v H2 ⟨hH, f, k', e, rfl, q1, q2⟩
          try simp (disch := first | (refine Ok.mk ?_; (try simp only [Lm, La, Lc, Ln, Lt, Ld, Lr, Li, true_or, or_true, true_and, and_true]); omega) | (simp <;> fail) | skip) [runM_nil]
          subst hH
          try simp (disch := first | (refine Ok.mk ?_; (try simp only [Lm, La, Lc, Ln, Lt, Ld, Lr, Li, true_or, or_true, true_and, and_true]); omega) | (simp <;> fail) | skip) [runM_nil]
          refine hK _ _ ?_
          clear hK K
          refine cut_to (by simp [keepA, getS]) (.refl _) ⟨f, k', e, fun he => by rw [hrec, q1 he out], fun he => ?_, rfl, rfl⟩
          obtain ⟨k1, k2, _, k4⟩ := q2 he
          exact ⟨k1, k2, by rw [hrec, k4 out]⟩
      · have c := rplain_ok (H := H') (o := false) hx hs hw hl k hk (by rw [List.getElem?_eq_none (by omega)]; simp)
        have hlt2 : ¬ (k : Int) < b.length := by omega
        first | refine pwp_rif ?_ | refine pwp_rifE ?_
        intro K hK
        simp (disch := first | (refine Ok.mk ?_; (try simp only [Lm, La, Lc, Ln, Lt, Ld, Lr, Li, true_or, or_true, true_and, and_true]); omega) | (simp <;> fail) | skip) [runM_nil, hxl, hlt2]
        refine hK _ _ ?_
        clear hK K
        refine ifF (by simp [runM_nil, hlt2]) ?_
        first | refine pwp_sr ?_ | refine pwp_regionM ?_
        intro K hK
        simp (disch := first | (refine Ok.mk ?_; (try simp only [Lm, La, Lc, Ln, Lt, Ld, Lr, Li, true_or, or_true, true_and, and_true]); omega) | (simp <;> fail) | skip) [runM_nil]
        refine useH c ?_
        try simp (disch := first | (refine Ok.mk ?_; (try simp only [Lm, La, Lc, Ln, Lt, Ld, Lr, Li, true_or, or_true, true_and, and_true]); omega) | (simp <;> fail) | skip) [runM_nil]
        rintro v H2 ⟨hH, f, k', e, rfl, q1, q2⟩
        try simp (disch := first | (refine Ok.mk ?_; (try simp only [Lm, La, Lc, Ln, Lt, Ld, Lr, Li, true_or, or_true, true_and, and_true]); omega) | (simp <;> fail) | skip) [runM_nil]
        subst hH
        try simp (disch := first | (refine Ok.mk ?_; (try simp only [Lm, La, Lc, Ln, Lt, Ld, Lr, Li, true_or, or_true, true_and, and_true]); omega) | (simp <;> fail) | skip) [runM_nil]
        refine hK _ _ ?_
        clear hK K
        refine cut_to (by simp [keepA, getS]) (.refl _) ⟨f, k', e, fun he => by rw [hrec, q1 he out], fun he => ?_, rfl, rfl⟩
        obtain ⟨k1, k2, _, k4⟩ := q2 he
        exact ⟨k1, k2, by rw [hrec, k4 out]⟩
    · rintro _ _ ⟨f, k', e, q1, q2, rfl, rfl⟩
      clear hrec
      by_cases he : e = 0
      · subst he
        obtain ⟨k1, k2, hrec⟩ := q2 rfl
        unfold aftM at hrec
        have cE := ends_ok (o := false) hx hs hl k' (by omega)
        have hE2 : endsB b k' ≤ 2 := by
          unfold endsB
          split
          · omega
          · split <;> omega
        first | refine pwp_rif ?_ | refine pwp_rifE ?_
        intro K hK
        simp (disch := first | (refine Ok.mk ?_; (try simp only [Lm, La, Lc, Ln, Lt, Ld, Lr, Li, true_or, or_true, true_and, and_true]); omega) | (simp <;> fail) | skip) [runM_nil]
        refine hK _ _ ?_
        clear hK K
        refine ifF (by simp [runM_nil]) (pwp_skip ?_)
        first | refine pwp_sr ?_ | refine pwp_regionM ?_
        intro K hK
        simp (disch := first | (refine Ok.mk ?_; (try simp only [Lm, La, Lc, Ln, Lt, Ld, Lr, Li, true_or, or_true, true_and, and_true]); omega) | (simp <;> fail) | skip) [runM_nil]
        refine hK _ _ ?_
        clear hK K
        first | refine pwp_sr ?_ | refine pwp_regionM ?_
        intro K hK
        simp (disch := first | (refine Ok.mk ?_; (try simp only [Lm, La, Lc, Ln, Lt, Ld, Lr, Li, true_or, or_true, true_and, and_true]); omega) | (simp <;> fail) | skip) [runM_nil]
        refine hK _ _ ?_
        clear hK K
        by_cases hlt : k' < b.length
        · obtain rfl : s = 1 := hs.resolve_right (by omega)
          have h1 := hxg k' hlt
          have hge : b[k']? = some b[k'] := List.getElem?_eq_getElem hlt
          rw [hge] at hrec
          by_cases h44 : b[k'] = 44
          · rw [h44] at hrec h1
            rw [if_pos rfl] at hrec
            first | refine pwp_rif ?_ | refine pwp_rifE ?_
            intro K hK
            simp (disch := first | (refine Ok.mk ?_; (try simp only [Lm, La, Lc, Ln, Lt, Ld, Lr, Li, true_or, or_true, true_and, and_true]); omega) | (simp <;> fail) | skip) [runM_nil, hxl, h1]
            refine hK _ _ ?_
            clear hK K
            refine ifT (by simp (disch := first | (refine Ok.mk ?_; (try simp only [Lm, La, Lc, Ln, Lt, Ld, Lr, Li, true_or, or_true, true_and, and_true]); omega) | (simp <;> fail) | skip) [runM_nil]) ?_
            first | refine pwp_sr ?_ | refine pwp_regionM ?_
            intro K hK
            simp (disch := first | (refine Ok.mk ?_; (try simp only [Lm, La, Lc, Ln, Lt, Ld, Lr, Li, true_or, or_true, true_and, and_true]); omega) | (simp <;> fail) | skip) [runM_nil]
            refine hK _ _ ?_
            clear hK K
            refine pwp_exit ?_
            refine ⟨_, ?_, _, .refl _, k' + 1, out ++ [f], by omega, by rw [List.length_append]; simp; omega, ?_, rfl, rfl, by simp [keepL_MS, keepA, getS, sV]⟩
            · rw [List.length_append, List.length_singleton]
              omega
            · rw [List.length_append, List.length_singleton]
              by_cases h49 : out.length + 1 = 50
              · rw [if_pos h49] at hrec
                exact .inl ⟨h49, hrec⟩
              · rw [if_neg h49] at hrec
                exact .inr ⟨by omega, hrec⟩
          · have g44 : ¬ (b[k'] : Int) = 44 := by omega
            rw [if_neg (by simpa using h44)] at hrec
            first | refine pwp_rif ?_ | refine pwp_rifE ?_
            intro K hK
            simp (disch := first | (refine Ok.mk ?_; (try simp only [Lm, La, Lc, Ln, Lt, Ld, Lr, Li, true_or, or_true, true_and, and_true]); omega) | (simp <;> fail) | skip) [runM_nil, hxl, h1, g44]
            refine hK _ _ ?_
            clear hK K
            refine ifF (by simp [runM_nil, g44]) (pwp_skip ?_)
            first | refine pwp_sr ?_ | refine pwp_regionM ?_
            intro K hK
            simp (disch := first | (refine Ok.mk ?_; (try simp only [Lm, La, Lc, Ln, Lt, Ld, Lr, Li, true_or, or_true, true_and, and_true]); omega) | (simp <;> fail) | skip) [runM_nil]
            refine useP (cE) ?_
            simp (disch := first | (refine Ok.mk ?_; (try simp only [Lm, La, Lc, Ln, Lt, Ld, Lr, Li, true_or, or_true, true_and, and_true]); omega) | (simp <;> fail) | skip) [runM_nil]
            refine hK _ _ ?_
            clear hK K
            refine pwp_ret ⟨.inr rfl, _, _, _, (by simp [runM_nil, resL]; rfl), .refl _, ?_, rfl, rfl⟩
            rw [hrec]
            simp [resV, rrecV, sV]
        · have hlt2 : ¬ (k' : Int) < b.length := by omega
          rw [List.getElem?_eq_none (by omega), if_neg (by simp)] at hrec
          first | refine pwp_rif ?_ | refine pwp_rifE ?_
          intro K hK
          simp (disch := first | (refine Ok.mk ?_; (try simp only [Lm, La, Lc, Ln, Lt, Ld, Lr, Li, true_or, or_true, true_and, and_true]); omega) | (simp <;> fail) | skip) [runM_nil, hxl, hlt2]
          refine hK _ _ ?_
          clear hK K
          refine ifF (by simp [runM_nil, hlt2]) (pwp_skip ?_)
          first | refine pwp_sr ?_ | refine pwp_regionM ?_
          intro K hK
          simp (disch := first | (refine Ok.mk ?_; (try simp only [Lm, La, Lc, Ln, Lt, Ld, Lr, Li, true_or, or_true, true_and, and_true]); omega) | (simp <;> fail) | skip) [runM_nil]
          refine useP (cE) ?_
          simp (disch := first | (refine Ok.mk ?_; (try simp only [Lm, La, Lc, Ln, Lt, Ld, Lr, Li, true_or, or_true, true_and, and_true]); omega) | (simp <;> fail) | skip) [runM_nil]
          refine hK _ _ ?_
          clear hK K
          refine pwp_ret ⟨.inr rfl, _, _, _, (by simp [runM_nil, resL]; rfl), .refl _, ?_, rfl, rfl⟩
          rw [hrec]
          simp [resV, rrecV, sV]
      · have hrec := q1 he
        have ge : ¬ (e : Int) = 0 := by omega
        first | refine pwp_rif ?_ | refine pwp_rifE ?_
        intro K hK
        simp (disch := first | (refine Ok.mk ?_; (try simp only [Lm, La, Lc, Ln, Lt, Ld, Lr, Li, true_or, or_true, true_and, and_true]); omega) | (simp <;> fail) | skip) [runM_nil, ge, he]
        refine hK _ _ ?_
        clear hK K
        refine ifT (by simp [runM_nil, ge, he]) ?_
        first | refine pwp_sr ?_ | refine pwp_regionM ?_
        intro K hK
        simp (disch := first | (refine Ok.mk ?_; (try simp only [Lm, La, Lc, Ln, Lt, Ld, Lr, Li, true_or, or_true, true_and, and_true]); omega) | (simp <;> fail) | skip) [runM_nil]
        refine hK _ _ ?_
        clear hK K
        refine pwp_ret ⟨.inr rfl, _, _, _, (by simp [runM_nil, resL]; rfl), .refl _, ?_, rfl, rfl⟩
        rw [hrec]
        simp [resV, rrecV]
end Go.Proofs.Ytdphjapaoaokmaa.E
/- Records one behind the other, and where they begin, in plain terms. -/
namespace Go.Proofs.Ytdphjapaoaokmaa.E
open Go Go.RowKit Go.Proofs
set_option linter.unusedVariables false
set_option linter.unusedSimpArgs false
/-- Is the number of quotes ahead of a place odd? -/
def parM : Bool → List Nat → Bool
  | p, [] => p
  | p, c :: s => parM (if c = 34 then !p else p) s
def par (b : List Nat) (k : Nat) : Bool := parM false (b.take k)
theorem parM_append : ∀ (a s : List Nat) (p : Bool), parM p (a ++ s) = parM (parM p a) s
  | [], s, p => rfl
  | c :: a, s, p => parM_append a s _
theorem par_succ {b : List Nat} {k : Nat} (h : k < b.length) : par b (k + 1) = if b[k] = 34 then !par b k else par b k := by
  unfold par
  rw [List.take_succ_eq_append_getElem h, parM_append]
  rfl
theorem par_zero (b : List Nat) : par b 0 = false := rfl
/-- The end of the line that is open. -/
def scanF : List Nat → Nat → Bool → Nat
  | [], k, _ => k
  | c :: s, k, p => if c = 34 then scanF s (k + 1) (!p) else if c = 10 ∧ p = false then k + 1 else scanF s (k + 1) p
theorem scanF_ge : ∀ (s : List Nat) (k : Nat) (p : Bool), k ≤ scanF s k p
  | [], k, p => Nat.le_refl _
  | c :: s, k, p => by
    unfold scanF
    have h1 := scanF_ge s (k + 1) (!p)
    have h2 := scanF_ge s (k + 1) p
    split
    · omega
    · split <;> omega
def firstB (b : List Nat) (k : Nat) (p : Bool) : Nat := if k = 0 ∨ (b[k - 1]? = some 10 ∧ p = false) then k else scanF (b.drop k) k p
theorem firstB_ge (b : List Nat) (k : Nat) (p : Bool) : k ≤ firstB b k p := by
  unfold firstB
  split
  · exact Nat.le_refl _
  · exact scanF_ge _ _ _
/-- What a record that is right says of its bytes. -/
structure EndR (b : List Nat) (k k' : Nat) : Prop where
  le : k ≤ k'
  le2 : k' ≤ b.length
  lt : k < b.length → k < k'
  par : par b k' = false
  nl : k' = b.length ∨ (0 < k' ∧ b[k' - 1]? = some 10)
  mid : ∀ j, k ≤ j → j < k' → (j = k ∨ ¬ (b[j - 1]? = some 10 ∧ E.par b j = false)) ∧ scanF (b.drop j) j (E.par b j) = k'
theorem stpM_ten {m : Md} {out : List (List Nat)} {cur : List Nat} (hm : m ≠ .wrong ∧ m ≠ .none) (hq : m ≠ .quoted) : stpM m out cur 10 = ⟨.none, out ++ [cur], [], true, 0⟩ := by
  cases m <;> first | (exact absurd rfl hm.1) | (exact absurd rfl hm.2) | (exact absurd rfl hq) | simp [stpM, plainM, behindM]
theorem stpM_done {m : Md} {out : List (List Nat)} {cur : List Nat} {c : Nat} (hm : m ≠ .wrong ∧ m ≠ .none) (hd : (stpM m out cur c).done = true) : c = 10 ∧ m ≠ .quoted := by
  have hb : (behindM out cur c).done = true → c = 10 := fun h => by
    unfold behindM at h
    split at h
    · cases h
    · split at h
      · assumption
      · split at h <;> cases h
  cases m with
  | begin =>
    simp only [stpM, plainM] at hd
    split at hd
    · cases hd
    · split at hd
      · exact ⟨hb hd, by simp⟩
      · first | cases hd | (split at hd <;> cases hd)
  | plain =>
    simp only [stpM, plainM] at hd
    split at hd
    · exact ⟨hb hd, by simp⟩
    · split at hd <;> cases hd
  | quoted =>
    simp only [stpM] at hd
    split at hd <;> cases hd
  | closed =>
    simp only [stpM] at hd
    split at hd
    · cases hd
    · exact ⟨hb hd, by simp⟩
  | ended =>
    simp only [stpM] at hd
    split at hd
    · exact ⟨hb hd, by simp⟩
    · cases hd
  | wrong => exact absurd rfl hm.1
  | none => exact absurd rfl hm.2
theorem goM_end2 {b : List Nat} (hw : ∀ x ∈ b, x < 256) : ∀ (n k : Nat) (m : Md) (out : List (List Nat)) (cur : List Nat) (r : List (List Nat)) (k' : Nat), b.length - k ≤ n → k ≤ b.length → GoodM m out cur → (m = .quoted ↔ par b k = true) →
    goM m out cur (b.drop k) k = (r, k', 0) → EndR b k k'
  | 0, k, m, out, cur, r, k', hn, hk, hG, hq, hg => by
    obtain rfl : k = b.length := by omega
    rw [List.drop_length, goM] at hg
    split at hg
    · cases hg
    · rename_i h
      simp only [Prod.mk.injEq, and_true] at hg
      obtain ⟨_, rfl⟩ := hg
      have hp : par b b.length = false := by
        cases hp : par b b.length with
        | false => rfl
        | true => exact absurd (.inl (hq.2 hp)) h
      exact ⟨Nat.le_refl _, Nat.le_refl _, fun h => by omega, hp, .inl rfl, fun j h1 h2 => by omega⟩
  | n + 1, k, m, out, cur, r, k', hn, hk, hG, hq, hg => by
    by_cases hlt : k < b.length
    · have hps := par_succ hlt
      have hcb := hw _ (List.getElem_mem hlt)
      have hge : b[k]? = some b[k] := List.getElem?_eq_getElem hlt
      have hdr : b.drop k = b[k] :: b.drop (k + 1) := List.drop_eq_getElem_cons hlt
      rw [hdr, goM] at hg
      generalize b[k] = c at *
      split at hg
      · rename_i he
        simp only [Prod.mk.injEq] at hg
        exact absurd hg.2.2 he
      · rename_i he
        have he := Decidable.not_not.1 he
        split at hg
        · rename_i hd
          obtain ⟨rfl, hmq⟩ := stpM_done hG.md hd
          simp only [Prod.mk.injEq, and_true] at hg
          obtain ⟨_, rfl⟩ := hg
          have hp : par b k = false := by
            cases hp : par b k with
            | false => rfl
            | true => exact absurd (hq.2 hp) hmq
          refine ⟨by omega, by omega, fun _ => by omega, by rw [hps, hp]; simp, .inr ⟨by omega, by simpa using hge⟩, fun j h1 h2 => ?_⟩
          obtain rfl : j = k := by omega
          refine ⟨.inl rfl, ?_⟩
          rw [hdr, scanF, hp]
          simp
        · rename_i hd
          have hd : (stpM m out cur c).done = false := by simpa using hd
          obtain ⟨g1, g2, g3⟩ := stpM_good hG hcb he hd
          have hq2 : (stpM m out cur c).m = .quoted ↔ par b (k + 1) = true := by
            rw [g2, hps, hq]
            by_cases h34 : c = 34 <;> cases par b k <;> simp [h34]
          have ih := goM_end2 hw n (k + 1) _ _ _ r k' (by omega) (by omega) g1 hq2 hg
          have h10 : ¬ (c = 10 ∧ par b k = false) := fun ⟨h1, h2⟩ => by
            have hmq : m ≠ .quoted := fun h => by
              have := hq.1 h
              rw [h2] at this
              cases this
            rw [h1, stpM_ten hG.md hmq] at hd
            cases hd
          have hk1 : k + 1 ≤ k' := ih.le
          have hsc : scanF (b.drop k) k (par b k) = scanF (b.drop (k + 1)) (k + 1) (par b (k + 1)) := by
            rw [hdr, scanF, hps]
            by_cases h34 : c = 34
            · rw [if_pos h34, if_pos h34]
            · rw [if_neg h34, if_neg h34, if_neg h10]
          refine ⟨by omega, ih.le2, fun _ => by omega, ih.par, ih.nl, fun j h1 h2 => ?_⟩
          by_cases hj : j = k
          · subst hj
            refine ⟨.inl rfl, ?_⟩
            rw [hsc]
            by_cases hk2 : j + 1 < k'
            · exact (ih.mid (j + 1) (Nat.le_refl _) hk2).2
            · obtain rfl : k' = j + 1 := by omega
              have hl : b.length = j + 1 := by
                have := ih.lt
                omega
              rw [List.drop_eq_nil_of_le (by omega), scanF]
          · obtain ⟨q1, q2⟩ := ih.mid j (by omega) h2
            refine ⟨.inr ?_, q2⟩
            rcases q1 with rfl | q1
            · rw [Nat.add_sub_cancel, hge]
              rintro ⟨e1, e2⟩
              obtain rfl := Option.some.inj e1
              rw [hps, if_neg (by simp)] at e2
              exact h10 ⟨rfl, e2⟩
            · exact q1
    · obtain rfl : k = b.length := by omega
      exact goM_end2 hw 0 b.length m out cur r k' (by omega) hk hG hq hg
theorem recM_end {b : List Nat} (hw : ∀ x ∈ b, x < 256) {k : Nat} (hk : k ≤ b.length) (hp : par b k = false) {r : List (List Nat)} {k' : Nat} (h : recM b k = (r, k', 0)) : EndR b k k' :=
  goM_end2 hw _ k .begin [] [] r k' (Nat.le_refl _) hk ⟨by simp, by simp, by simp, by simp⟩ (by simp [hp]) h
/-- The pieces from a place on. -/
def scanM (b : List Nat) : Nat → Nat → List (Nat × List (List Nat)) × Nat × Nat
  | 0, k => ([], k, 0)
  | n + 1, k => if b.length ≤ k then ([], k, 0) else if (recM b k).2.2 ≠ 0 then ([], k, (recM b k).2.2) else
    ((k, (recM b k).1) :: (scanM b n (recM b k).2.1).1, (scanM b n (recM b k).2.1).2.1, (scanM b n (recM b k).2.1).2.2)
def scanB (b : List Nat) (k : Nat) : List (Nat × List (List Nat)) × Nat × Nat := scanM b (b.length - k) k
theorem scanM_fuel {b : List Nat} (hw : ∀ x ∈ b, x < 256) : ∀ (n n' k : Nat), k ≤ b.length → par b k = false → b.length - k ≤ n → b.length - k ≤ n' → scanM b n k = scanM b n' k
  | 0, 0, k, hk, hp, h1, h2 => rfl
  | 0, n' + 1, k, hk, hp, h1, h2 => by rw [scanM, scanM, if_pos (by omega)]
  | n + 1, 0, k, hk, hp, h1, h2 => by rw [scanM, scanM, if_pos (by omega)]
  | n + 1, n' + 1, k, hk, hp, h1, h2 => by
    rw [scanM, scanM]
    by_cases hl : b.length ≤ k
    · rw [if_pos hl, if_pos hl]
    · rw [if_neg hl, if_neg hl]
      by_cases he : (recM b k).2.2 ≠ 0
      · rw [if_pos he, if_pos he]
      · rw [if_neg he, if_neg he]
        have he := Decidable.not_not.1 he
        have hE := recM_end hw hk hp (r := (recM b k).1) (k' := (recM b k).2.1) (by rw [← he])
        have := hE.lt (by omega)
        rw [scanM_fuel hw n n' _ hE.le2 hE.par (by omega) (by omega)]
theorem scanB_end {b : List Nat} : scanB b b.length = ([], b.length, 0) := by
  unfold scanB
  rw [Nat.sub_self]
  rfl
theorem scanB_bad {b : List Nat} {k : Nat} (hk : k < b.length) (he : (recM b k).2.2 ≠ 0) : scanB b k = ([], k, (recM b k).2.2) := by
  unfold scanB
  obtain ⟨n, hn⟩ : ∃ n, b.length - k = n + 1 := ⟨b.length - k - 1, by omega⟩
  rw [hn, scanM, if_neg (by omega), if_pos he]
theorem scanB_step {b : List Nat} (hw : ∀ x ∈ b, x < 256) {k : Nat} (hk : k < b.length) (hp : par b k = false) (he : (recM b k).2.2 = 0) :
    scanB b k = ((k, (recM b k).1) :: (scanB b (recM b k).2.1).1, (scanB b (recM b k).2.1).2.1, (scanB b (recM b k).2.1).2.2) := by
  have hE := recM_end hw (by omega) hp (r := (recM b k).1) (k' := (recM b k).2.1) (by rw [← he])
  have := hE.lt hk
  have hsc : scanB b k = scanM b (b.length - k) k := rfl
  obtain ⟨n, hn⟩ : ∃ n, b.length - k = n + 1 := ⟨b.length - k - 1, by omega⟩
  rw [hsc, hn, scanM, if_neg (by omega), if_neg (by simp [he])]
  have e : scanM b n (recM b k).2.1 = scanB b (recM b k).2.1 := scanM_fuel hw n _ _ hE.le2 hE.par (by omega) (Nat.le_refl _)
  rw [e]
/-- Where a record may begin. -/
structure Bd (b : List Nat) (k : Nat) : Prop where
  le : k ≤ b.length
  par : par b k = false
  nl : k = 0 ∨ k = b.length ∨ (0 < k ∧ b[k - 1]? = some 10)
theorem Bd.zero (b : List Nat) : Bd b 0 := ⟨Nat.zero_le _, par_zero b, .inl rfl⟩
theorem Bd.next {b : List Nat} (hw : ∀ x ∈ b, x < 256) {k : Nat} (h : Bd b k) (he : (recM b k).2.2 = 0) : Bd b (recM b k).2.1 ∧ EndR b k (recM b k).2.1 := by
  have hE := recM_end hw h.le h.par (r := (recM b k).1) (k' := (recM b k).2.1) (by rw [← he])
  exact ⟨⟨hE.le2, hE.par, .inr hE.nl⟩, hE⟩
theorem Bd.first {b : List Nat} {k : Nat} (h : Bd b k) : firstB b k (E.par b k) = k := by
  unfold firstB
  rw [h.par]
  rcases h.nl with h1 | h1 | ⟨h1, h2⟩
  · rw [if_pos (.inl h1)]
  · split
    · rfl
    · rw [h1, List.drop_length, scanF]
  · rw [if_pos (.inr ⟨h2, rfl⟩)]
theorem first_mid {b : List Nat} {k k' j : Nat} (hE : EndR b k k') (h1 : k < j) (h2 : j < k') : firstB b j (par b j) = k' := by
  obtain ⟨q1, q2⟩ := hE.mid j (by omega) h2
  unfold firstB
  rw [if_neg, q2]
  rintro (h | h)
  · omega
  · rcases q1 with q1 | q1
    · omega
    · exact q1 h
theorem scanB_facts {b : List Nat} (hw : ∀ x ∈ b, x < 256) : ∀ (n k : Nat), b.length - k ≤ n → Bd b k → k ≤ (scanB b k).2.1 ∧ (scanB b k).2.1 ≤ b.length ∧ (∀ p ∈ (scanB b k).1, k ≤ p.1 ∧ p.1 < (scanB b k).2.1)
  | 0, k, hn, h => by
    obtain rfl : k = b.length := by have := h.le; omega
    rw [scanB_end]
    exact ⟨Nat.le_refl _, Nat.le_refl _, fun p hp => by cases hp⟩
  | n + 1, k, hn, h => by
    by_cases hk : k < b.length
    · by_cases he : (recM b k).2.2 = 0
      · obtain ⟨h2, hE⟩ := h.next hw he
        have := hE.lt hk
        obtain ⟨i1, i2, i3⟩ := scanB_facts hw n (recM b k).2.1 (by omega) h2
        rw [scanB_step hw hk h.par he]
        dsimp only
        refine ⟨by omega, i2, fun p hp => ?_⟩
        rcases List.mem_cons.1 hp with rfl | hp
        · exact ⟨Nat.le_refl _, by show k < _; omega⟩
        · obtain ⟨j1, j2⟩ := i3 p hp
          exact ⟨by omega, j2⟩
      · rw [scanB_bad hk he]
        exact ⟨Nat.le_refl _, by show k ≤ _; omega, fun p hp => by cases hp⟩
    · obtain rfl : k = b.length := by have := h.le; omega
      rw [scanB_end]
      exact ⟨Nat.le_refl _, Nat.le_refl _, fun p hp => by cases hp⟩
/-- The records that are read from a place on. -/
def rdM (b : List Nat) (to good : Nat) : Nat → Nat → List (List (List Nat))
  | 0, _ => []
  | n + 1, k => if k < to ∧ k < good then (if (recM b k).2.2 ≠ 0 then [] else (recM b k).1 :: rdM b to good n (recM b k).2.1) else []
def ofB (l : List (Nat × List (List Nat))) (f t : Nat) : List (List (List Nat)) := (l.filter fun p => decide (f ≤ p.1 ∧ p.1 < t)).map (·.2)
theorem rd_scan {b : List Nat} (hw : ∀ x ∈ b, x < 256) (to f : Nat) : ∀ (n k : Nat), b.length - k ≤ n → Bd b k → f ≤ k → rdM b to (scanB b k).2.1 n k = ofB (scanB b k).1 f to
  | 0, k, hn, h, hf => by
    obtain rfl : k = b.length := by have := h.le; omega
    rw [scanB_end]
    rfl
  | n + 1, k, hn, h, hf => by
    by_cases hk : k < b.length
    · by_cases he : (recM b k).2.2 = 0
      · obtain ⟨h2, hE⟩ := h.next hw he
        have := hE.lt hk
        have ih := rd_scan hw to f n (recM b k).2.1 (by omega) h2 (by omega)
        obtain ⟨i1, i2, i3⟩ := scanB_facts hw n (recM b k).2.1 (by omega) h2
        rw [scanB_step hw hk h.par he, rdM]
        dsimp only
        by_cases ht : k < to
        · rw [if_pos ⟨ht, by omega⟩, if_neg (by simp [he]), ih]
          simp [ofB, hf, ht]
        · rw [if_neg (by omega)]
          unfold ofB
          symm
          rw [List.map_eq_nil_iff, List.filter_eq_nil_iff]
          intro p hp
          rcases List.mem_cons.1 hp with rfl | hp
          · simp; omega
          · have := (i3 p hp).1
            simp
            omega
      · rw [scanB_bad hk he, rdM, if_neg (by simp)]
        rfl
    · obtain rfl : k = b.length := by have := h.le; omega
      rw [scanB_end, rdM, if_neg (by simp)]
      rfl
theorem rdM_stop {b : List Nat} {to good : Nat} {k : Nat} (h : good ≤ k) : ∀ n, rdM b to good n k = []
  | 0 => rfl
  | n + 1 => by rw [rdM, if_neg (by omega)]
/-- A split reads the records that begin in it. -/
theorem rd_split {b : List Nat} (hw : ∀ x ∈ b, x < 256) (to f : Nat) (hf2 : f ≤ b.length) : ∀ (n k : Nat), b.length - k ≤ n → Bd b k → k ≤ f → ∀ N, b.length ≤ N + firstB b f (par b f) → rdM b to (scanB b k).2.1 N (firstB b f (par b f)) = ofB (scanB b k).1 f to
  | 0, k, hn, h, hf, N, hN => by
    obtain rfl : k = b.length := by have := h.le; omega
    have := firstB_ge b f (par b f)
    rw [scanB_end, rdM_stop (by dsimp only; omega)]
    rfl
  | n + 1, k, hn, h, hf, N, hN => by
    have hge := firstB_ge b f (par b f)
    by_cases hfk : f = k
    · subst hfk
      rw [h.first] at hN ⊢
      exact rd_scan hw to f N f (by omega) h (Nat.le_refl _)
    · by_cases hk : k < b.length
      · by_cases he : (recM b k).2.2 = 0
        · obtain ⟨h2, hE⟩ := h.next hw he
          have := hE.lt hk
          rw [scanB_step hw hk h.par he]
          dsimp only
          have hof : ofB ((k, (recM b k).1) :: (scanB b (recM b k).2.1).1) f to = ofB (scanB b (recM b k).2.1).1 f to := by
            unfold ofB
            rw [List.filter_cons_of_neg (by simp; omega)]
          rw [hof]
          by_cases hfn : f < (recM b k).2.1
          · rw [first_mid hE (by omega) hfn] at hN ⊢
            exact rd_scan hw to f N _ (by omega) h2 (by omega)
          · exact rd_split hw to f hf2 n _ (by omega) h2 (by omega) N hN
        · rw [scanB_bad hk he, rdM_stop (by dsimp only; omega)]
          rfl
      · obtain rfl : k = b.length := by have := h.le; omega
        omega
end Go.Proofs.Ytdphjapaoaokmaa.E
/- The pieces of a file, by both; quotes; the first record behind a place. -/
namespace Go.Proofs.Ytdphjapaoaokmaa.E
open Go Go.RowKit Go.Proofs
set_option linter.unusedVariables false
set_option linter.unusedSimpArgs false
def rowsC (l : List (List (List Nat))) : List PV := l.map fun r => .lst 1 (r.map sV) false
def pcV (p : Nat × List (List Nat)) : PV := .agg [.int .i64 p.1, .lst 1 [.lst 1 (p.2.map sV) false] false]
def scV (x : List (Nat × List (List Nat)) × Nat × Nat) : PV := .tup [.lst 2 (x.1.map pcV) true, .int .i64 (x.2.1 : Nat), .int .i64 (x.2.2 : Nat)]
theorem scan_ok {s : Nat} {xs : List PV} {o : Bool} {b : List Nat} (hx : xs = b.map u8) (hs : s = 1 ∨ b.length = 0) (hw : ∀ x ∈ b, x < 256) (hl : b.length ≤ 1000000) :
    PSpec Try.prog 11 [.lst s xs o] (scV (scanB b 0)) := by
  intro H
  have hxl : xs.length = b.length := by rw [hx, List.length_map]
  refine spec_ofU t11 (by simp [p11]) ?_
  simp only [p11]
  first | refine pwp_sr ?_ | refine pwp_regionM ?_
  intro K hK
  simp (disch := first | (refine Ok.mk ?_; (try simp only [Lm, La, Lc, Ln, Lt, Ld, Lr, Li, true_or, or_true, true_and, and_true]); omega) | (simp <;> fail) | skip) [runM_nil]
  refine hK _ _ ?_
  clear hK K
  first | refine pwp_sr ?_ | refine pwp_regionM ?_
  intro K hK
  simp (disch := first | (refine Ok.mk ?_; (try simp only [Lm, La, Lc, Ln, Lt, Ld, Lr, Li, true_or, or_true, true_and, and_true]); omega) | (simp <;> fail) | skip) [runM_nil]
  refine hK _ _ ?_
  clear hK K
  first | refine pwp_sr ?_ | refine pwp_regionM ?_
  intro K hK
  simp (disch := first | (refine Ok.mk ?_; (try simp only [Lm, La, Lc, Ln, Lt, Ld, Lr, Li, true_or, or_true, true_and, and_true]); omega) | (simp <;> fail) | skip) [runM_nil]
  refine hK _ _ ?_
  clear hK K
  refine pwp_seq (pwp_block ?_)
  refine pwp_loopU [0, 5, 6] (fun q st H' => ∃ (k : Nat) (acc : List (Nat × List (List Nat))), Bd b k ∧ acc.length ≤ k ∧ scanB b 0 = (acc ++ (scanB b k).1, (scanB b k).2) ∧ q = b.length - k ∧ H' = H ∧
      st = MS 36 [(0, .lst s xs o), (5, .lst 2 (acc.map pcV) true), (6, .int .i64 k)]) (n := b.length)
    ⟨_, _, keep_up (l' := [(0, .lst s xs o), (5, .lst 2 [] true), (6, .int .i64 0)]) (by simp), List.Sublist.refl _, 0, [], Bd.zero b, by simp, rfl, rfl, rfl, by simp⟩ ?_
  rintro q st H' ⟨k, acc, hB, hal, hsc, rfl, hH, rfl⟩
  subst hH
  have hk := hB.le
  by_cases hlt : k < b.length
  · have c := next_ok (o := false) hx hs hw hl k hk
    refine pwp_seq ?_
    first | refine pwp_sr ?_ | refine pwp_regionM ?_
    intro K hK
    simp (disch := first | (refine Ok.mk ?_; (try simp only [Lm, La, Lc, Ln, Lt, Ld, Lr, Li, true_or, or_true, true_and, and_true]); omega) | (simp <;> fail) | skip) [runM_nil, hxl]
    refine hK _ _ ?_
    clear hK K
    refine pwp_cT (by simp) (pwp_skip ?_)
    refine pwp_block ?_
    by_cases he : (recM b k).2.2 = 0
    · obtain ⟨h2, hE⟩ := hB.next hw he
      have hlt2 := hE.lt hlt
      have hle2 := hE.le2
      rw [scanB_step hw hlt hB.par he] at hsc
      generalize recM b k = x at *
      obtain ⟨x1, x2, x3⟩ := x
      simp only at he
      subst he
      dsimp only at *
      simp only [recV, ne_eq, not_true, decide_false] at c
      first | refine pwp_sr ?_ | refine pwp_regionM ?_
      intro K hK
      simp (disch := first | (refine Ok.mk ?_; (try simp only [Lm, La, Lc, Ln, Lt, Ld, Lr, Li, true_or, or_true, true_and, and_true]); omega) | (simp <;> fail) | skip) [runM_nil]
      refine useP (c) ?_
      simp (disch := first | (refine Ok.mk ?_; (try simp only [Lm, La, Lc, Ln, Lt, Ld, Lr, Li, true_or, or_true, true_and, and_true]); omega) | (simp <;> fail) | skip) [runM_nil]
      refine hK _ _ ?_
      clear hK K
      first | refine pwp_rif ?_ | refine pwp_rifE ?_
      intro K hK
      simp (disch := first | (refine Ok.mk ?_; (try simp only [Lm, La, Lc, Ln, Lt, Ld, Lr, Li, true_or, or_true, true_and, and_true]); omega) | (simp <;> fail) | skip) [runM_nil]
      refine hK _ _ ?_
      clear hK K
      refine ifF (by simp [runM_nil]) (pwp_skip ?_)
      first | refine pwp_sr ?_ | refine pwp_regionM ?_
      intro K hK
      simp (disch := first | (refine Ok.mk ?_; (try simp only [Lm, La, Lc, Ln, Lt, Ld, Lr, Li, true_or, or_true, true_and, and_true]); omega) | (simp <;> fail) | skip) [runM_nil]
      refine hK _ _ ?_
      clear hK K
      refine ⟨b.length - x2, by omega, _, _, keep_up (l' := [(0, .lst s xs o), (5, .lst 2 ((acc ++ [(k, x1)]).map pcV) true), (6, .int .i64 x2)]) (by simp [pcV]), List.Sublist.refl _, x2, acc ++ [(k, x1)], h2, by simp; omega, by rw [hsc, List.append_assoc]; rfl, rfl, rfl, by simp⟩
    · rw [scanB_bad hlt he] at hsc
      generalize recM b k = x at *
      obtain ⟨x1, x2, x3⟩ := x
      dsimp only at *
      have ge : ¬ (x3 : Int) = 0 := by omega
      simp only [recV] at c
      first | refine pwp_sr ?_ | refine pwp_regionM ?_
      intro K hK
      simp (disch := first | (refine Ok.mk ?_; (try simp only [Lm, La, Lc, Ln, Lt, Ld, Lr, Li, true_or, or_true, true_and, and_true]); omega) | (simp <;> fail) | skip) [runM_nil]
      refine useP (c) ?_
      simp (disch := first | (refine Ok.mk ?_; (try simp only [Lm, La, Lc, Ln, Lt, Ld, Lr, Li, true_or, or_true, true_and, and_true]); omega) | (simp <;> fail) | skip) [runM_nil]
      refine hK _ _ ?_
      clear hK K
      first | refine pwp_rif ?_ | refine pwp_rifE ?_
      intro K hK
      simp (disch := first | (refine Ok.mk ?_; (try simp only [Lm, La, Lc, Ln, Lt, Ld, Lr, Li, true_or, or_true, true_and, and_true]); omega) | (simp <;> fail) | skip) [runM_nil, ge, he]
      refine hK _ _ ?_
      clear hK K
      refine ifT (by simp [runM_nil, ge, he]) ?_
      first | refine pwp_sr ?_ | refine pwp_regionM ?_
      intro K hK
      simp (disch := first | (refine Ok.mk ?_; (try simp only [Lm, La, Lc, Ln, Lt, Ld, Lr, Li, true_or, or_true, true_and, and_true]); omega) | (simp <;> fail) | skip) [runM_nil]
      refine hK _ _ ?_
      clear hK K
      refine pwp_ret ⟨.inr rfl, _, _, _, (by simp [runM_nil, resL]; rfl), .refl _, ?_, rfl, rfl⟩
      rw [hsc]
      simp [resV, scV]
  · obtain rfl : k = b.length := by omega
    rw [scanB_end] at hsc
    refine pwp_seq ?_
    first | refine pwp_sr ?_ | refine pwp_regionM ?_
    intro K hK
    simp (disch := first | (refine Ok.mk ?_; (try simp only [Lm, La, Lc, Ln, Lt, Ld, Lr, Li, true_or, or_true, true_and, and_true]); omega) | (simp <;> fail) | skip) [runM_nil, hxl]
    refine hK _ _ ?_
    clear hK K
    refine pwp_cF (by simp) (pwp_exit ?_)
    first | refine pwp_sr ?_ | refine pwp_regionM ?_
    intro K hK
    simp (disch := first | (refine Ok.mk ?_; (try simp only [Lm, La, Lc, Ln, Lt, Ld, Lr, Li, true_or, or_true, true_and, and_true]); omega) | (simp <;> fail) | skip) [runM_nil]
    refine hK _ _ ?_
    clear hK K
    refine pwp_ret ⟨.inr rfl, _, _, _, (by simp [runM_nil, resL]; rfl), .refl _, ?_, rfl, rfl⟩
    rw [hsc]
    simp [resV, scV]
theorem rscan_ok {s : Nat} {xs : List PV} {o : Bool} {b : List Nat} (hx : xs = b.map u8) (hs : s = 1 ∨ b.length = 0) (hw : ∀ x ∈ b, x < 256) (hl : b.length ≤ 1000000) :
    PSpec Try.prog 6 [.lst s xs o] (scV (scanB b 0)) := by
  intro H
  have hxl : xs.length = b.length := by rw [hx, List.length_map]
  refine spec_ofU t6 (by simp [p6]) ?_
  simp only [p6]
  first | refine pwp_sr ?_ | refine pwp_regionM ?_
  intro K hK
  simp (disch := first | (refine Ok.mk ?_; (try simp only [Lm, La, Lc, Ln, Lt, Ld, Lr, Li, true_or, or_true, true_and, and_true]); omega) | (simp <;> fail) | skip) [runM_nil]
  refine hK _ _ ?_
  clear hK K
  first | refine pwp_sr ?_ | refine pwp_regionM ?_
  intro K hK
  simp (disch := first | (refine Ok.mk ?_; (try simp only [Lm, La, Lc, Ln, Lt, Ld, Lr, Li, true_or, or_true, true_and, and_true]); omega) | (simp <;> fail) | skip) [runM_nil]
  refine hK _ _ ?_
  clear hK K
  first | refine pwp_sr ?_ | refine pwp_regionM ?_
  intro K hK
  simp (disch := first | (refine Ok.mk ?_; (try simp only [Lm, La, Lc, Ln, Lt, Ld, Lr, Li, true_or, or_true, true_and, and_true]); omega) | (simp <;> fail) | skip) [runM_nil]
  refine hK _ _ ?_
  clear hK K
  refine pwp_seq (pwp_block ?_)
  refine pwp_loopU [0, 5, 6] (fun q st H' => ∃ (k : Nat) (acc : List (Nat × List (List Nat))), Bd b k ∧ acc.length ≤ k ∧ scanB b 0 = (acc ++ (scanB b k).1, (scanB b k).2) ∧ q = b.length - k ∧ H' = H ∧
      st = MS 37 [(0, .lst s xs o), (5, .lst 2 (acc.map pcV) true), (6, .int .i64 k)]) (n := b.length)
    ⟨_, _, keep_up (l' := [(0, .lst s xs o), (5, .lst 2 [] true), (6, .int .i64 0)]) (by simp), List.Sublist.refl _, 0, [], Bd.zero b, by simp, rfl, rfl, rfl, by simp⟩ ?_
  rintro q st H' ⟨k, acc, hB, hal, hsc, rfl, hH, rfl⟩
  subst hH
  have hk := hB.le
  by_cases hlt : k < b.length
  · have c := rrecord_ok (o := false) hx hs hw hl k hk
    refine pwp_seq ?_
    first | refine pwp_sr ?_ | refine pwp_regionM ?_
    intro K hK
    simp (disch := first | (refine Ok.mk ?_; (try simp only [Lm, La, Lc, Ln, Lt, Ld, Lr, Li, true_or, or_true, true_and, and_true]); omega) | (simp <;> fail) | skip) [runM_nil, hxl]
    refine hK _ _ ?_
    clear hK K
    refine pwp_cT (by simp) (pwp_skip ?_)
    refine pwp_block ?_
    by_cases he : (recM b k).2.2 = 0
    · obtain ⟨h2, hE⟩ := hB.next hw he
      have hlt2 := hE.lt hlt
      have hle2 := hE.le2
      rw [scanB_step hw hlt hB.par he] at hsc
      generalize recM b k = x at *
      obtain ⟨x1, x2, x3⟩ := x
      simp only at he
      subst he
      dsimp only at *
      simp only [rrecV] at c
      first | refine pwp_sr ?_ | refine pwp_regionM ?_
      intro K hK
      simp (disch := first | (refine Ok.mk ?_; (try simp only [Lm, La, Lc, Ln, Lt, Ld, Lr, Li, true_or, or_true, true_and, and_true]); omega) | (simp <;> fail) | skip) [runM_nil]
      refine useP (c) ?_
      simp (disch := first | (refine Ok.mk ?_; (try simp only [Lm, La, Lc, Ln, Lt, Ld, Lr, Li, true_or, or_true, true_and, and_true]); omega) | (simp <;> fail) | skip) [runM_nil]
      refine hK _ _ ?_
      clear hK K
      first | refine pwp_rif ?_ | refine pwp_rifE ?_
      intro K hK
      simp (disch := first | (refine Ok.mk ?_; (try simp only [Lm, La, Lc, Ln, Lt, Ld, Lr, Li, true_or, or_true, true_and, and_true]); omega) | (simp <;> fail) | skip) [runM_nil]
      refine hK _ _ ?_
      clear hK K
      refine ifF (by simp [runM_nil]) (pwp_skip ?_)
      first | refine pwp_sr ?_ | refine pwp_regionM ?_
      intro K hK
      simp (disch := first | (refine Ok.mk ?_; (try simp only [Lm, La, Lc, Ln, Lt, Ld, Lr, Li, true_or, or_true, true_and, and_true]); omega) | (simp <;> fail) | skip) [runM_nil]
      refine hK _ _ ?_
      clear hK K
      first | refine pwp_sr ?_ | refine pwp_regionM ?_
      intro K hK
      simp (disch := first | (refine Ok.mk ?_; (try simp only [Lm, La, Lc, Ln, Lt, Ld, Lr, Li, true_or, or_true, true_and, and_true]); omega) | (simp <;> fail) | skip) [runM_nil]
      refine hK _ _ ?_
      clear hK K
      refine ⟨b.length - x2, by omega, _, _, keep_up (l' := [(0, .lst s xs o), (5, .lst 2 ((acc ++ [(k, x1)]).map pcV) true), (6, .int .i64 x2)]) (by simp [pcV]), List.Sublist.refl _, x2, acc ++ [(k, x1)], h2, by simp; omega, by rw [hsc, List.append_assoc]; rfl, rfl, rfl, by simp⟩
    · rw [scanB_bad hlt he] at hsc
      generalize recM b k = x at *
      obtain ⟨x1, x2, x3⟩ := x
      dsimp only at *
      have ge : ¬ (x3 : Int) = 0 := by omega
      simp only [rrecV] at c
      first | refine pwp_sr ?_ | refine pwp_regionM ?_
      intro K hK
      simp (disch := first | (refine Ok.mk ?_; (try simp only [Lm, La, Lc, Ln, Lt, Ld, Lr, Li, true_or, or_true, true_and, and_true]); omega) | (simp <;> fail) | skip) [runM_nil]
      refine useP (c) ?_
      simp (disch := first | (refine Ok.mk ?_; (try simp only [Lm, La, Lc, Ln, Lt, Ld, Lr, Li, true_or, or_true, true_and, and_true]); omega) | (simp <;> fail) | skip) [runM_nil]
      refine hK _ _ ?_
      clear hK K
      first | refine pwp_rif ?_ | refine pwp_rifE ?_
      intro K hK
      simp (disch := first | (refine Ok.mk ?_; (try simp only [Lm, La, Lc, Ln, Lt, Ld, Lr, Li, true_or, or_true, true_and, and_true]); omega) | (simp <;> fail) | skip) [runM_nil, ge, he]
      refine hK _ _ ?_
      clear hK K
      refine ifT (by simp [runM_nil, ge, he]) ?_
      first | refine pwp_sr ?_ | refine pwp_regionM ?_
      intro K hK
      simp (disch := first | (refine Ok.mk ?_; (try simp only [Lm, La, Lc, Ln, Lt, Ld, Lr, Li, true_or, or_true, true_and, and_true]); omega) | (simp <;> fail) | skip) [runM_nil]
      refine hK _ _ ?_
      clear hK K
      refine pwp_ret ⟨.inr rfl, _, _, _, (by simp [runM_nil, resL]; rfl), .refl _, ?_, rfl, rfl⟩
      rw [hsc]
      simp [resV, scV]
  · obtain rfl : k = b.length := by omega
    rw [scanB_end] at hsc
    refine pwp_seq ?_
    first | refine pwp_sr ?_ | refine pwp_regionM ?_
    intro K hK
    simp (disch := first | (refine Ok.mk ?_; (try simp only [Lm, La, Lc, Ln, Lt, Ld, Lr, Li, true_or, or_true, true_and, and_true]); omega) | (simp <;> fail) | skip) [runM_nil, hxl]
    refine hK _ _ ?_
    clear hK K
    refine pwp_cF (by simp) (pwp_exit ?_)
    first | refine pwp_sr ?_ | refine pwp_regionM ?_
    intro K hK
    simp (disch := first | (refine Ok.mk ?_; (try simp only [Lm, La, Lc, Ln, Lt, Ld, Lr, Li, true_or, or_true, true_and, and_true]); omega) | (simp <;> fail) | skip) [runM_nil]
    refine hK _ _ ?_
    clear hK K
    refine pwp_ret ⟨.inr rfl, _, _, _, (by simp [runM_nil, resL]; rfl), .refl _, ?_, rfl, rfl⟩
    rw [hsc]
    simp [resV, scV]
theorem rinside_ok {s : Nat} {xs : List PV} {o : Bool} {b : List Nat} (hx : xs = b.map u8) (hs : s = 1 ∨ b.length = 0) (hw : ∀ x ∈ b, x < 256) (hl : b.length ≤ 1000000) (n : Int) :
    PSpec Try.prog 8 [.lst s xs o, .int .i64 n] (.bool (par b n.toNat)) := by
  intro H
  have hxl : xs.length = b.length := by rw [hx, List.length_map]
  have hxg : ∀ i (h : i < b.length), xs[i]? = some (.int .u8 (b[i] : Nat)) := fun i h => by rw [hx, List.getElem?_map, List.getElem?_eq_getElem h]; rfl
  have hpar : ∀ k, b.length ≤ k → par b k = par b b.length := fun k hk => by unfold par; rw [List.take_of_length_le hk, List.take_length]
  refine spec_of t8 (by simp [p8]) ?_
  simp only [p8]
  first | refine pwp_sr ?_ | refine pwp_regionM ?_
  intro K hK
  simp (disch := first | (refine Ok.mk ?_; (try simp only [Lm, La, Lc, Ln, Lt, Ld, Lr, Li, true_or, or_true, true_and, and_true]); omega) | (simp <;> fail) | skip) [runM_nil]
  refine hK _ _ ?_
  clear hK K
  first | refine pwp_sr ?_ | refine pwp_regionM ?_
  intro K hK
  simp (disch := first | (refine Ok.mk ?_; (try simp only [Lm, La, Lc, Ln, Lt, Ld, Lr, Li, true_or, or_true, true_and, and_true]); omega) | (simp <;> fail) | skip) [runM_nil]
  refine hK _ _ ?_
  clear hK K
  refine pwp_seq (pwp_seq ?_)
  first | refine pwp_sr ?_ | refine pwp_regionM ?_
  intro K hK
  simp (disch := first | (refine Ok.mk ?_; (try simp only [Lm, La, Lc, Ln, Lt, Ld, Lr, Li, true_or, or_true, true_and, and_true]); omega) | (simp <;> fail) | skip) [runM_nil]
  refine hK _ _ ?_
  clear hK K
  refine pwp_block ?_
  refine pwp_loopK [0, 1, 5, 6] (fun q st H' => ∃ k : Nat, k ≤ b.length ∧ k ≤ n.toNat ∧ q = b.length - k ∧ H' = H ∧ st = MS 26 [(0, .lst s xs o), (1, .int .i64 n), (5, .bool (par b k)), (6, .int .i64 k)]) (n := b.length)
    ⟨_, .refl _, 0, Nat.zero_le _, Nat.zero_le _, rfl, rfl, by simp [keepL_MS, keepA, getS, par_zero]⟩ ?_
  rintro q st H' ⟨k, hk, hkn, rfl, rfl, rfl⟩
  refine pwp_seq ?_
  by_cases hlt : k < b.length
  · obtain rfl : s = 1 := hs.resolve_right (by omega)
    have h1 := hxg k hlt
    have hps := par_succ hlt
    by_cases hn : (k : Int) < n
    · first | refine pwp_sr ?_ | refine pwp_regionM ?_
      intro K hK
      simp (disch := first | (refine Ok.mk ?_; (try simp only [Lm, La, Lc, Ln, Lt, Ld, Lr, Li, true_or, or_true, true_and, and_true]); omega) | (simp <;> fail) | skip) [runM_nil, hxl, hn]
      refine hK _ _ ?_
      clear hK K
      refine pwp_cT (by simp) (pwp_skip ?_)
      refine pwp_seq (pwp_block ?_)
      by_cases h34 : b[k] = 34
      · rw [h34] at h1
        rw [if_pos h34] at hps
        first | refine pwp_rif ?_ | refine pwp_rifE ?_
        intro K hK
        simp (disch := first | (refine Ok.mk ?_; (try simp only [Lm, La, Lc, Ln, Lt, Ld, Lr, Li, true_or, or_true, true_and, and_true]); omega) | (simp <;> fail) | skip) [runM_nil, hxl, h1]
        refine hK _ _ ?_
        clear hK K
        refine ifT (by simp (disch := first | (refine Ok.mk ?_; (try simp only [Lm, La, Lc, Ln, Lt, Ld, Lr, Li, true_or, or_true, true_and, and_true]); omega) | (simp <;> fail) | skip) [runM_nil]) ?_
        first | refine pwp_sr ?_ | refine pwp_regionM ?_
        intro K hK
        simp (disch := first | (refine Ok.mk ?_; (try simp only [Lm, La, Lc, Ln, Lt, Ld, Lr, Li, true_or, or_true, true_and, and_true]); omega) | (simp <;> fail) | skip) [runM_nil]
        refine hK _ _ ?_
        clear hK K
        first | refine pwp_sr ?_ | refine pwp_regionM ?_
        intro K hK
        simp (disch := first | (refine Ok.mk ?_; (try simp only [Lm, La, Lc, Ln, Lt, Ld, Lr, Li, true_or, or_true, true_and, and_true]); omega) | (simp <;> fail) | skip) [runM_nil]
        refine hK _ _ ?_
        clear hK K
        exact ⟨_, by omega, _, .refl _, k + 1, by omega, by omega, rfl, rfl, by simp [keepL_MS, keepA, getS, hps]⟩
      · rw [if_neg h34] at hps
        have g34 : ¬ (b[k] : Int) = 34 := by omega
        first | refine pwp_rif ?_ | refine pwp_rifE ?_
        intro K hK
        simp (disch := first | (refine Ok.mk ?_; (try simp only [Lm, La, Lc, Ln, Lt, Ld, Lr, Li, true_or, or_true, true_and, and_true]); omega) | (simp <;> fail) | skip) [runM_nil, hxl, h1, g34]
        refine hK _ _ ?_
        clear hK K
        refine ifF (by simp [runM_nil, g34]) (pwp_skip ?_)
        first | refine pwp_sr ?_ | refine pwp_regionM ?_
        intro K hK
        simp (disch := first | (refine Ok.mk ?_; (try simp only [Lm, La, Lc, Ln, Lt, Ld, Lr, Li, true_or, or_true, true_and, and_true]); omega) | (simp <;> fail) | skip) [runM_nil]
        refine hK _ _ ?_
        clear hK K
        exact ⟨_, by omega, _, .refl _, k + 1, by omega, by omega, rfl, rfl, by simp [keepL_MS, keepA, getS, hps]⟩
    · have hkk : n.toNat = k := by omega
      first | refine pwp_sr ?_ | refine pwp_regionM ?_
      intro K hK
      simp (disch := first | (refine Ok.mk ?_; (try simp only [Lm, La, Lc, Ln, Lt, Ld, Lr, Li, true_or, or_true, true_and, and_true]); omega) | (simp <;> fail) | skip) [runM_nil, hxl, hn]
      refine hK _ _ ?_
      clear hK K
      refine pwp_cF (by simp) (pwp_exit ?_)
      first | refine pwp_sr ?_ | refine pwp_regionM ?_
      intro K hK
      simp (disch := first | (refine Ok.mk ?_; (try simp only [Lm, La, Lc, Ln, Lt, Ld, Lr, Li, true_or, or_true, true_and, and_true]); omega) | (simp <;> fail) | skip) [runM_nil]
      refine hK _ _ ?_
      clear hK K
      refine pwp_ret ⟨.inr rfl, _, _, (by simp (disch := first | (refine Ok.mk ?_; (try simp only [Lm, La, Lc, Ln, Lt, Ld, Lr, Li, true_or, or_true, true_and, and_true]); omega) | (simp <;> fail) | skip) [runM_nil, resL, hkk]; rfl), .refl _, by simp (disch := first | (refine Ok.mk ?_; (try simp only [Lm, La, Lc, Ln, Lt, Ld, Lr, Li, true_or, or_true, true_and, and_true]); omega) | (simp <;> fail) | skip) [resV, hkk], rfl⟩
  · obtain rfl : k = b.length := by omega
    have hpn := hpar n.toNat hkn
    first | refine pwp_sr ?_ | refine pwp_regionM ?_
    intro K hK
    simp (disch := first | (refine Ok.mk ?_; (try simp only [Lm, La, Lc, Ln, Lt, Ld, Lr, Li, true_or, or_true, true_and, and_true]); omega) | (simp <;> fail) | skip) [runM_nil, hxl]
    refine hK _ _ ?_
    clear hK K
    refine pwp_cF (by simp) (pwp_exit ?_)
    first | refine pwp_sr ?_ | refine pwp_regionM ?_
    intro K hK
    simp (disch := first | (refine Ok.mk ?_; (try simp only [Lm, La, Lc, Ln, Lt, Ld, Lr, Li, true_or, or_true, true_and, and_true]); omega) | (simp <;> fail) | skip) [runM_nil]
    refine hK _ _ ?_
    clear hK K
    refine pwp_ret ⟨.inr rfl, _, _, (by simp (disch := first | (refine Ok.mk ?_; (try simp only [Lm, La, Lc, Ln, Lt, Ld, Lr, Li, true_or, or_true, true_and, and_true]); omega) | (simp <;> fail) | skip) [runM_nil, resL, hpn]; rfl), .refl _, by simp (disch := first | (refine Ok.mk ?_; (try simp only [Lm, La, Lc, Ln, Lt, Ld, Lr, Li, true_or, or_true, true_and, and_true]); omega) | (simp <;> fail) | skip) [resV, hpn], rfl⟩
theorem first_ok {s : Nat} {xs : List PV} {o : Bool} {b : List Nat} (hx : xs = b.map u8) (hs : s = 1 ∨ b.length = 0) (hw : ∀ x ∈ b, x < 256) (hl : b.length ≤ 1000000) (k0 : Nat) (hk0 : k0 ≤ b.length) (p0 : Bool) :
    PSpec Try.prog 16 [.lst s xs o, .int .i64 k0, .bool p0] (.int .i64 (firstB b k0 p0 : Nat)) := by
  intro H
  have hxl : xs.length = b.length := by rw [hx, List.length_map]
  have hxg : ∀ i (h : i < b.length), xs[i]? = some (.int .u8 (b[i] : Nat)) := fun i h => by rw [hx, List.getElem?_map, List.getElem?_eq_getElem h]; rfl
  refine spec_of t16 (by simp [p16]) ?_
  simp only [p16]
  first | refine pwp_sr ?_ | refine pwp_regionM ?_
  intro K hK
  simp (disch := first | (refine Ok.mk ?_; (try simp only [Lm, La, Lc, Ln, Lt, Ld, Lr, Li, true_or, or_true, true_and, and_true]); omega) | (simp <;> fail) | skip) [runM_nil]
  refine hK _ _ ?_
  clear hK K
  refine pwp_cut [0, 1, 2] (fun st' H2 => firstB b k0 p0 = scanF (b.drop k0) k0 p0 ∧ H2 = H ∧ st' = MS 55 [(0, .lst s xs o), (1, .int .i64 k0), (2, .bool p0)]) ?_ ?_
  · rcases Nat.eq_zero_or_pos k0 with h0 | h0
    · subst h0
      first | refine pwp_rif ?_ | refine pwp_rifE ?_
      intro K hK
      simp (disch := first | (refine Ok.mk ?_; (try simp only [Lm, La, Lc, Ln, Lt, Ld, Lr, Li, true_or, or_true, true_and, and_true]); omega) | (simp <;> fail) | skip) [runM_nil]
      refine hK _ _ ?_
      clear hK K
      refine ifT (by simp (disch := first | (refine Ok.mk ?_; (try simp only [Lm, La, Lc, Ln, Lt, Ld, Lr, Li, true_or, or_true, true_and, and_true]); omega) | (simp <;> fail) | skip) [runM_nil]) ?_
      first | refine pwp_sr ?_ | refine pwp_regionM ?_
      intro K hK
      simp (disch := first | (refine Ok.mk ?_; (try simp only [Lm, La, Lc, Ln, Lt, Ld, Lr, Li, true_or, or_true, true_and, and_true]); omega) | (simp <;> fail) | skip) [runM_nil]
      refine hK _ _ ?_
      clear hK K
      refine pwp_retT ⟨.inr rfl, _, _, (by simp (disch := first | (refine Ok.mk ?_; (try simp only [Lm, La, Lc, Ln, Lt, Ld, Lr, Li, true_or, or_true, true_and, and_true]); omega) | (simp <;> fail) | skip) [runM_nil, resL, firstB]; rfl), .refl _, by simp (disch := first | (refine Ok.mk ?_; (try simp only [Lm, La, Lc, Ln, Lt, Ld, Lr, Li, true_or, or_true, true_and, and_true]); omega) | (simp <;> fail) | skip) [resV, firstB], rfl⟩
    · have g0 : ¬ k0 = 0 := by omega
      obtain rfl : s = 1 := hs.resolve_right (by omega)
      have hlt : k0 - 1 < b.length := by omega
      have h1 := hxg (k0 - 1) hlt
      have hge : b[k0 - 1]? = some b[k0 - 1] := List.getElem?_eq_getElem hlt
      have e1 : ((k0 : Int) - 1).toNat = k0 - 1 := by omega
      have e2 : (k0 : Int) ≤ b.length := by omega
      generalize b[k0 - 1] = c at *
      by_cases h10 : c = 10
      · subst h10
        cases p0 with
        | false =>
          first | refine pwp_rif ?_ | refine pwp_rifE ?_
          intro K hK
          simp (disch := first | (refine Ok.mk ?_; (try simp only [Lm, La, Lc, Ln, Lt, Ld, Lr, Li, true_or, or_true, true_and, and_true]); omega) | (simp <;> fail) | skip) [runM_nil, hxl, h1, g0, e1, e2]
          refine hK _ _ ?_
          clear hK K
          refine ifT (by simp (disch := first | (refine Ok.mk ?_; (try simp only [Lm, La, Lc, Ln, Lt, Ld, Lr, Li, true_or, or_true, true_and, and_true]); omega) | (simp <;> fail) | skip) [runM_nil]) ?_
          first | refine pwp_sr ?_ | refine pwp_regionM ?_
          intro K hK
          simp (disch := first | (refine Ok.mk ?_; (try simp only [Lm, La, Lc, Ln, Lt, Ld, Lr, Li, true_or, or_true, true_and, and_true]); omega) | (simp <;> fail) | skip) [runM_nil]
          refine hK _ _ ?_
          clear hK K
          refine pwp_retT ⟨.inr rfl, _, _, (by simp (disch := first | (refine Ok.mk ?_; (try simp only [Lm, La, Lc, Ln, Lt, Ld, Lr, Li, true_or, or_true, true_and, and_true]); omega) | (simp <;> fail) | skip) [runM_nil, resL, firstB, hge]; rfl), .refl _, by simp (disch := first | (refine Ok.mk ?_; (try simp only [Lm, La, Lc, Ln, Lt, Ld, Lr, Li, true_or, or_true, true_and, and_true]); omega) | (simp <;> fail) | skip) [resV, firstB, hge], rfl⟩
        | true =>
          first | refine pwp_rif ?_ | refine pwp_rifE ?_
          intro K hK
          simp (disch := first | (refine Ok.mk ?_; (try simp only [Lm, La, Lc, Ln, Lt, Ld, Lr, Li, true_or, or_true, true_and, and_true]); omega) | (simp <;> fail) | skip) [runM_nil, hxl, h1, g0, e1, e2]
          refine hK _ _ ?_
          clear hK K
          refine ifF (by simp [runM_nil, g0]) (pwp_skip ?_)
          refine cut_to (by simp [keepA, getS]) (.refl _) ⟨?_, rfl, rfl⟩
          unfold firstB
          rw [if_neg (by simp [g0])]
      · have g10 : ¬ (c : Int) = 10 := by omega
        first | refine pwp_rif ?_ | refine pwp_rifE ?_
        intro K hK
        simp (disch := first | (refine Ok.mk ?_; (try simp only [Lm, La, Lc, Ln, Lt, Ld, Lr, Li, true_or, or_true, true_and, and_true]); omega) | (simp <;> fail) | skip) [runM_nil, hxl, h1, g0, e1, e2, g10]
        refine hK _ _ ?_
        clear hK K
        refine ifF (by simp [runM_nil, g0, g10]) (pwp_skip ?_)
        refine cut_to (by simp [keepA, getS]) (.refl _) ⟨?_, rfl, rfl⟩
        unfold firstB
        rw [if_neg (by rw [hge]; simp [g0, h10])]
  · rintro _ H2 ⟨hf, hH2, rfl⟩
    subst hH2
    rw [hf]
    refine pwp_seq (pwp_block ?_)
    refine pwp_loopK [0, 1, 2] (fun q st H' => ∃ (k : Nat) (p : Bool), k ≤ b.length ∧ scanF (b.drop k0) k0 p0 = scanF (b.drop k) k p ∧ q = b.length - k ∧ H' = H2 ∧ st = MS 55 [(0, .lst s xs o), (1, .int .i64 k), (2, .bool p)]) (n := b.length - k0)
      ⟨_, .refl _, k0, p0, hk0, rfl, rfl, rfl, by simp [keepL_MS, keepA, getS]⟩ ?_
    rintro q st H' ⟨k, p, hk, hsc, rfl, hH, rfl⟩
    subst hH
    refine pwp_seq ?_
    by_cases hlt : k < b.length
    · obtain rfl : s = 1 := hs.resolve_right (by omega)
      have h1 := hxg k hlt
      rw [List.drop_eq_getElem_cons hlt, scanF] at hsc
      generalize b[k] = c at *
      first | refine pwp_sr ?_ | refine pwp_regionM ?_
      intro K hK
      simp (disch := first | (refine Ok.mk ?_; (try simp only [Lm, La, Lc, Ln, Lt, Ld, Lr, Li, true_or, or_true, true_and, and_true]); omega) | (simp <;> fail) | skip) [runM_nil, hxl]
      refine hK _ _ ?_
      clear hK K
      refine pwp_cT (by simp) (pwp_skip ?_)
      refine pwp_seq (pwp_block (pwp_block ?_))
      by_cases h34 : c = 34
      · subst h34
        rw [if_pos rfl] at hsc
        first | refine pwp_rif ?_ | refine pwp_rifE ?_
        intro K hK
        simp (disch := first | (refine Ok.mk ?_; (try simp only [Lm, La, Lc, Ln, Lt, Ld, Lr, Li, true_or, or_true, true_and, and_true]); omega) | (simp <;> fail) | skip) [runM_nil, hxl, h1]
        refine hK _ _ ?_
        clear hK K
        refine ifT (by simp (disch := first | (refine Ok.mk ?_; (try simp only [Lm, La, Lc, Ln, Lt, Ld, Lr, Li, true_or, or_true, true_and, and_true]); omega) | (simp <;> fail) | skip) [runM_nil]) ?_
        first | refine pwp_sr ?_ | refine pwp_regionM ?_
        intro K hK
        simp (disch := first | (refine Ok.mk ?_; (try simp only [Lm, La, Lc, Ln, Lt, Ld, Lr, Li, true_or, or_true, true_and, and_true]); omega) | (simp <;> fail) | skip) [runM_nil]
        refine hK _ _ ?_
        clear hK K
        first | refine pwp_sr ?_ | refine pwp_regionM ?_
        intro K hK
        simp (disch := first | (refine Ok.mk ?_; (try simp only [Lm, La, Lc, Ln, Lt, Ld, Lr, Li, true_or, or_true, true_and, and_true]); omega) | (simp <;> fail) | skip) [runM_nil]
        refine hK _ _ ?_
        clear hK K
        exact ⟨_, by omega, _, .refl _, k + 1, !p, by omega, hsc, rfl, rfl, by simp [keepL_MS, keepA, getS]⟩
      · have g34 : ¬ (c : Int) = 34 := by omega
        rw [if_neg h34] at hsc
        first | refine pwp_rif ?_ | refine pwp_rifE ?_
        intro K hK
        simp (disch := first | (refine Ok.mk ?_; (try simp only [Lm, La, Lc, Ln, Lt, Ld, Lr, Li, true_or, or_true, true_and, and_true]); omega) | (simp <;> fail) | skip) [runM_nil, hxl, h1, g34]
        refine hK _ _ ?_
        clear hK K
        refine ifF (by simp [runM_nil, g34]) ?_
        by_cases h10 : c = 10
        · subst h10
          cases p with
          | false =>
            rw [if_pos ⟨rfl, rfl⟩] at hsc
            first | refine pwp_rif ?_ | refine pwp_rifE ?_
            intro K hK
            simp (disch := first | (refine Ok.mk ?_; (try simp only [Lm, La, Lc, Ln, Lt, Ld, Lr, Li, true_or, or_true, true_and, and_true]); omega) | (simp <;> fail) | skip) [runM_nil, hxl, h1]
            refine hK _ _ ?_
            clear hK K
            refine ifT (by simp (disch := first | (refine Ok.mk ?_; (try simp only [Lm, La, Lc, Ln, Lt, Ld, Lr, Li, true_or, or_true, true_and, and_true]); omega) | (simp <;> fail) | skip) [runM_nil]) ?_
            first | refine pwp_sr ?_ | refine pwp_regionM ?_
            intro K hK
            simp (disch := first | (refine Ok.mk ?_; (try simp only [Lm, La, Lc, Ln, Lt, Ld, Lr, Li, true_or, or_true, true_and, and_true]); omega) | (simp <;> fail) | skip) [runM_nil]
            refine hK _ _ ?_
            clear hK K
            refine pwp_ret ⟨.inr rfl, _, _, (by simp [runM_nil, resL]; rfl), .refl _, by simp [resV, hsc], rfl⟩
          | true =>
            rw [if_neg (by simp)] at hsc
            first | refine pwp_rif ?_ | refine pwp_rifE ?_
            intro K hK
            simp (disch := first | (refine Ok.mk ?_; (try simp only [Lm, La, Lc, Ln, Lt, Ld, Lr, Li, true_or, or_true, true_and, and_true]); omega) | (simp <;> fail) | skip) [runM_nil, hxl, h1]
            refine hK _ _ ?_
            clear hK K
            refine ifF (by simp [runM_nil]) (pwp_skip ?_)
            first | refine pwp_sr ?_ | refine pwp_regionM ?_
            intro K hK
            simp (disch := first | (refine Ok.mk ?_; (try simp only [Lm, La, Lc, Ln, Lt, Ld, Lr, Li, true_or, or_true, true_and, and_true]); omega) | (simp <;> fail) | skip) [runM_nil]
            refine hK _ _ ?_
            clear hK K
            exact ⟨_, by omega, _, .refl _, k + 1, true, by omega, hsc, rfl, rfl, by simp [keepL_MS, keepA, getS]⟩
        · have g10 : ¬ (c : Int) = 10 := by omega
          rw [if_neg (by simp [h10])] at hsc
          first | refine pwp_rif ?_ | refine pwp_rifE ?_
          intro K hK
          simp (disch := first | (refine Ok.mk ?_; (try simp only [Lm, La, Lc, Ln, Lt, Ld, Lr, Li, true_or, or_true, true_and, and_true]); omega) | (simp <;> fail) | skip) [runM_nil, hxl, h1, g10]
          refine hK _ _ ?_
          clear hK K
          refine ifF (by simp [runM_nil, g10]) (pwp_skip ?_)
          first | refine pwp_sr ?_ | refine pwp_regionM ?_
          intro K hK
          simp (disch := first | (refine Ok.mk ?_; (try simp only [Lm, La, Lc, Ln, Lt, Ld, Lr, Li, true_or, or_true, true_and, and_true]); omega) | (simp <;> fail) | skip) [runM_nil]
          refine hK _ _ ?_
          clear hK K
          exact ⟨_, by omega, _, .refl _, k + 1, p, by omega, hsc, rfl, rfl, by simp [keepL_MS, keepA, getS]⟩
    · obtain rfl : k = b.length := by omega
      rw [List.drop_length, scanF] at hsc
      first | refine pwp_sr ?_ | refine pwp_regionM ?_
      intro K hK
      simp (disch := first | (refine Ok.mk ?_; (try simp only [Lm, La, Lc, Ln, Lt, Ld, Lr, Li, true_or, or_true, true_and, and_true]); omega) | (simp <;> fail) | skip) [runM_nil, hxl]
      refine hK _ _ ?_
      clear hK K
      refine pwp_cF (by simp) (pwp_exit ?_)
      first | refine pwp_sr ?_ | refine pwp_regionM ?_
      intro K hK
      simp (disch := first | (refine Ok.mk ?_; (try simp only [Lm, La, Lc, Ln, Lt, Ld, Lr, Li, true_or, or_true, true_and, and_true]); omega) | (simp <;> fail) | skip) [runM_nil]
      refine hK _ _ ?_
      clear hK K
      refine pwp_ret ⟨.inr rfl, _, _, (by simp [runM_nil, resL]; rfl), .refl _, by simp [resV, hsc], rfl⟩
end Go.Proofs.Ytdphjapaoaokmaa.E
/- A split, by both. -/
namespace Go.Proofs.Ytdphjapaoaokmaa.E
open Go Go.RowKit Go.Proofs
set_option linter.unusedVariables false
set_option linter.unusedSimpArgs false
structure Prog (b : List Nat) (k : Nat) (r : List (List Nat)) (k' : Nat) : Prop where
  le : k ≤ k'
  le2 : k' ≤ b.length
  lt : k < b.length → k < k'
  len : r.length ≤ 50
theorem goM_prog {b : List Nat} (hw : ∀ x ∈ b, x < 256) : ∀ (n k : Nat) (m : Md) (out : List (List Nat)) (cur : List Nat) (r : List (List Nat)) (k' : Nat), b.length - k ≤ n → k ≤ b.length → GoodM m out cur →
    goM m out cur (b.drop k) k = (r, k', 0) → Prog b k r k'
  | 0, k, m, out, cur, r, k', hn, hk, hG, hg => by
    obtain rfl : k = b.length := by omega
    rw [List.drop_length, goM] at hg
    split at hg
    · cases hg
    · simp only [Prod.mk.injEq, and_true] at hg
      obtain ⟨rfl, rfl⟩ := hg
      exact ⟨Nat.le_refl _, Nat.le_refl _, fun h => by omega, by have := hG.ol; simp; omega⟩
  | n + 1, k, m, out, cur, r, k', hn, hk, hG, hg => by
    by_cases hlt : k < b.length
    · have hcb := hw _ (List.getElem_mem hlt)
      rw [List.drop_eq_getElem_cons hlt, goM] at hg
      generalize b[k] = c at *
      split at hg
      · rename_i he
        simp only [Prod.mk.injEq] at hg
        exact absurd hg.2.2 he
      · rename_i he
        have he := Decidable.not_not.1 he
        split at hg
        · rename_i hd
          obtain ⟨rfl, hmq⟩ := stpM_done hG.md hd
          rw [stpM_ten hG.md hmq] at hg
          simp only [Prod.mk.injEq, and_true] at hg
          obtain ⟨rfl, rfl⟩ := hg
          exact ⟨by omega, by omega, fun _ => by omega, by have := hG.ol; simp; omega⟩
        · rename_i hd
          obtain ⟨g1, _, _⟩ := stpM_good hG hcb he (by simpa using hd)
          have ih := goM_prog hw n (k + 1) _ _ _ r k' (by omega) (by omega) g1 hg
          exact ⟨by have := ih.le; omega, ih.le2, fun _ => by have := ih.le; omega, ih.len⟩
    · obtain rfl : k = b.length := by omega
      exact goM_prog hw 0 b.length m out cur r k' (by omega) hk hG hg
theorem recM_prog {b : List Nat} (hw : ∀ x ∈ b, x < 256) {k : Nat} (hk : k ≤ b.length) (he : (recM b k).2.2 = 0) : Prog b k (recM b k).1 (recM b k).2.1 :=
  goM_prog hw _ k .begin [] [] _ _ (Nat.le_refl _) hk ⟨by simp, by simp, by simp, by simp⟩ (show recM b k = _ by rw [← he])
theorem rdM_fuel {b : List Nat} (hw : ∀ x ∈ b, x < 256) {to good : Nat} (ht : to ≤ b.length) : ∀ (n n' k : Nat), b.length - k ≤ n → b.length - k ≤ n' → rdM b to good n k = rdM b to good n' k
  | 0, 0, k, h1, h2 => rfl
  | 0, n' + 1, k, h1, h2 => by rw [rdM, rdM, if_neg (by omega)]
  | n + 1, 0, k, h1, h2 => by rw [rdM, rdM, if_neg (by omega)]
  | n + 1, n' + 1, k, h1, h2 => by
    rw [rdM, rdM]
    by_cases h : k < to ∧ k < good
    · rw [if_pos h, if_pos h]
      by_cases he : (recM b k).2.2 ≠ 0
      · rw [if_pos he, if_pos he]
      · rw [if_neg he, if_neg he]
        have hP := recM_prog hw (k := k) (by omega) (Decidable.not_not.1 he)
        have := hP.lt (by omega)
        rw [rdM_fuel hw ht n n' _ (by omega) (by omega)]
    · rw [if_neg h, if_neg h]
def rdB (b : List Nat) (to good k : Nat) : List (List (List Nat)) := rdM b to good (b.length - k) k
theorem rdB_off {b : List Nat} {to good k : Nat} (h : ¬ (k < to ∧ k < good)) : rdB b to good k = [] := by
  unfold rdB
  cases b.length - k with
  | zero => rfl
  | succ n => rw [rdM, if_neg h]
theorem rdB_bad {b : List Nat} {to good k : Nat} (he : (recM b k).2.2 ≠ 0) : rdB b to good k = [] := by
  unfold rdB
  cases b.length - k with
  | zero => rfl
  | succ n => rw [rdM, if_pos he, ite_self]
theorem rdB_step {b : List Nat} (hw : ∀ x ∈ b, x < 256) {to good k : Nat} (ht : to ≤ b.length) (h1 : k < to) (h2 : k < good) (he : (recM b k).2.2 = 0) : rdB b to good k = (recM b k).1 :: rdB b to good (recM b k).2.1 := by
  have hP := recM_prog hw (k := k) (by omega) he
  have := hP.lt (by omega)
  have e : rdB b to good k = rdM b to good (b.length - k) k := rfl
  obtain ⟨n, hn⟩ : ∃ n, b.length - k = n + 1 := ⟨b.length - k - 1, by omega⟩
  rw [e, hn, rdM, if_pos ⟨h1, h2⟩, if_neg (by simp [he]), rdM_fuel hw ht n (b.length - (recM b k).2.1) _ (by omega) (Nat.le_refl _)]
  rfl
theorem rdB_facts {b : List Nat} (hw : ∀ x ∈ b, x < 256) {to good : Nat} (ht : to ≤ b.length) : ∀ (n k : Nat), b.length - k ≤ n → (rdB b to good k).length ≤ b.length - k ∧ ∀ r ∈ rdB b to good k, r.length ≤ 50
  | 0, k, hn => by
    have : rdB b to good k = [] := by unfold rdB; rw [show b.length - k = 0 by omega]; rfl
    rw [this]
    exact ⟨Nat.zero_le _, fun r hr => by cases hr⟩
  | n + 1, k, hn => by
    by_cases h : k < to ∧ k < good
    · by_cases he : (recM b k).2.2 = 0
      · have hP := recM_prog hw (k := k) (by omega) he
        have hlt := hP.lt (by omega)
        obtain ⟨i1, i2⟩ := rdB_facts hw (good := good) ht n (recM b k).2.1 (by omega)
        rw [rdB_step hw ht h.1 h.2 he]
        refine ⟨by rw [List.length_cons]; have := hP.le2; omega, fun r hr => ?_⟩
        rcases List.mem_cons.1 hr with rfl | hr
        · exact hP.len
        · exact i2 r hr
      · rw [rdB_bad he]
        exact ⟨Nat.zero_le _, fun r hr => by cases hr⟩
    · rw [rdB_off h]
      exact ⟨Nat.zero_le _, fun r hr => by cases hr⟩
theorem readBad_ok {s : Nat} {xs : List PV} {o : Bool} {b : List Nat} (hx : xs = b.map u8) (f t g : Int) (p : Bool) (h : ¬ (0 ≤ f ∧ f ≤ t ∧ t ≤ b.length ∧ 0 ≤ g ∧ g ≤ b.length)) :
    PSpec Try.prog 7 [.lst s xs o, .int .i64 f, .int .i64 t, .bool p, .int .i64 g] (.tup [.lst 0 [] true, .int .i64 1]) := by
  intro H
  have hxl : xs.length = b.length := by rw [hx, List.length_map]
  refine spec_of t7 (by simp [p7]) ?_
  simp only [p7]
  first | refine pwp_sr ?_ | refine pwp_regionM ?_
  intro K hK
  simp (disch := first | (refine Ok.mk ?_; (try simp only [Lm, La, Lc, Ln, Lt, Ld, Lr, Li, true_or, or_true, true_and, and_true]); omega) | (simp <;> fail) | skip) [runM_nil]
  refine hK _ _ ?_
  clear hK K
  rcases (show f < 0 ∨ ¬ f < 0 ∧ t < f ∨ ¬ f < 0 ∧ ¬ t < f ∧ (b.length : Int) < t ∨ ¬ f < 0 ∧ ¬ t < f ∧ ¬ (b.length : Int) < t ∧ g < 0 ∨ ¬ f < 0 ∧ ¬ t < f ∧ ¬ (b.length : Int) < t ∧ ¬ g < 0 ∧ (b.length : Int) < g by omega) with h1 | ⟨h1, h2⟩ | ⟨h1, h2, h3⟩ | ⟨h1, h2, h3, h4⟩ | ⟨h1, h2, h3, h4, h5⟩
  · first | refine pwp_rif ?_ | refine pwp_rifE ?_
    intro K hK
    simp (disch := first | (refine Ok.mk ?_; (try simp only [Lm, La, Lc, Ln, Lt, Ld, Lr, Li, true_or, or_true, true_and, and_true]); omega) | (simp <;> fail) | skip) [runM_nil, hxl, h1]
    refine hK _ _ ?_
    clear hK K
    refine ifT (by simp (disch := first | (refine Ok.mk ?_; (try simp only [Lm, La, Lc, Ln, Lt, Ld, Lr, Li, true_or, or_true, true_and, and_true]); omega) | (simp <;> fail) | skip) [runM_nil]) ?_
    first | refine pwp_sr ?_ | refine pwp_regionM ?_
    intro K hK
    simp (disch := first | (refine Ok.mk ?_; (try simp only [Lm, La, Lc, Ln, Lt, Ld, Lr, Li, true_or, or_true, true_and, and_true]); omega) | (simp <;> fail) | skip) [runM_nil]
    refine hK _ _ ?_
    clear hK K
    refine pwp_retT ⟨.inr rfl, _, _, (by simp (disch := first | (refine Ok.mk ?_; (try simp only [Lm, La, Lc, Ln, Lt, Ld, Lr, Li, true_or, or_true, true_and, and_true]); omega) | (simp <;> fail) | skip) [runM_nil, resL]; rfl), .refl _, by simp (disch := first | (refine Ok.mk ?_; (try simp only [Lm, La, Lc, Ln, Lt, Ld, Lr, Li, true_or, or_true, true_and, and_true]); omega) | (simp <;> fail) | skip) [resV], rfl⟩
  · first | refine pwp_rif ?_ | refine pwp_rifE ?_
    intro K hK
    simp (disch := first | (refine Ok.mk ?_; (try simp only [Lm, La, Lc, Ln, Lt, Ld, Lr, Li, true_or, or_true, true_and, and_true]); omega) | (simp <;> fail) | skip) [runM_nil, hxl, h1, h2]
    refine hK _ _ ?_
    clear hK K
    refine ifT (by simp (disch := first | (refine Ok.mk ?_; (try simp only [Lm, La, Lc, Ln, Lt, Ld, Lr, Li, true_or, or_true, true_and, and_true]); omega) | (simp <;> fail) | skip) [runM_nil]) ?_
    first | refine pwp_sr ?_ | refine pwp_regionM ?_
    intro K hK
    simp (disch := first | (refine Ok.mk ?_; (try simp only [Lm, La, Lc, Ln, Lt, Ld, Lr, Li, true_or, or_true, true_and, and_true]); omega) | (simp <;> fail) | skip) [runM_nil]
    refine hK _ _ ?_
    clear hK K
    refine pwp_retT ⟨.inr rfl, _, _, (by simp (disch := first | (refine Ok.mk ?_; (try simp only [Lm, La, Lc, Ln, Lt, Ld, Lr, Li, true_or, or_true, true_and, and_true]); omega) | (simp <;> fail) | skip) [runM_nil, resL]; rfl), .refl _, by simp (disch := first | (refine Ok.mk ?_; (try simp only [Lm, La, Lc, Ln, Lt, Ld, Lr, Li, true_or, or_true, true_and, and_true]); omega) | (simp <;> fail) | skip) [resV], rfl⟩
  · first | refine pwp_rif ?_ | refine pwp_rifE ?_
    intro K hK
    simp (disch := first | (refine Ok.mk ?_; (try simp only [Lm, La, Lc, Ln, Lt, Ld, Lr, Li, true_or, or_true, true_and, and_true]); omega) | (simp <;> fail) | skip) [runM_nil, hxl, h1, h2, h3]
    refine hK _ _ ?_
    clear hK K
    refine ifT (by simp (disch := first | (refine Ok.mk ?_; (try simp only [Lm, La, Lc, Ln, Lt, Ld, Lr, Li, true_or, or_true, true_and, and_true]); omega) | (simp <;> fail) | skip) [runM_nil]) ?_
    first | refine pwp_sr ?_ | refine pwp_regionM ?_
    intro K hK
    simp (disch := first | (refine Ok.mk ?_; (try simp only [Lm, La, Lc, Ln, Lt, Ld, Lr, Li, true_or, or_true, true_and, and_true]); omega) | (simp <;> fail) | skip) [runM_nil]
    refine hK _ _ ?_
    clear hK K
    refine pwp_retT ⟨.inr rfl, _, _, (by simp (disch := first | (refine Ok.mk ?_; (try simp only [Lm, La, Lc, Ln, Lt, Ld, Lr, Li, true_or, or_true, true_and, and_true]); omega) | (simp <;> fail) | skip) [runM_nil, resL]; rfl), .refl _, by simp (disch := first | (refine Ok.mk ?_; (try simp only [Lm, La, Lc, Ln, Lt, Ld, Lr, Li, true_or, or_true, true_and, and_true]); omega) | (simp <;> fail) | skip) [resV], rfl⟩
  · first | refine pwp_rif ?_ | refine pwp_rifE ?_
    intro K hK
    simp (disch := first | (refine Ok.mk ?_; (try simp only [Lm, La, Lc, Ln, Lt, Ld, Lr, Li, true_or, or_true, true_and, and_true]); omega) | (simp <;> fail) | skip) [runM_nil, hxl, h1, h2, h3, h4]
    refine hK _ _ ?_
    clear hK K
    refine ifT (by simp (disch := first | (refine Ok.mk ?_; (try simp only [Lm, La, Lc, Ln, Lt, Ld, Lr, Li, true_or, or_true, true_and, and_true]); omega) | (simp <;> fail) | skip) [runM_nil]) ?_
    first | refine pwp_sr ?_ | refine pwp_regionM ?_
    intro K hK
    simp (disch := first | (refine Ok.mk ?_; (try simp only [Lm, La, Lc, Ln, Lt, Ld, Lr, Li, true_or, or_true, true_and, and_true]); omega) | (simp <;> fail) | skip) [runM_nil]
    refine hK _ _ ?_
    clear hK K
    refine pwp_retT ⟨.inr rfl, _, _, (by simp (disch := first | (refine Ok.mk ?_; (try simp only [Lm, La, Lc, Ln, Lt, Ld, Lr, Li, true_or, or_true, true_and, and_true]); omega) | (simp <;> fail) | skip) [runM_nil, resL]; rfl), .refl _, by simp (disch := first | (refine Ok.mk ?_; (try simp only [Lm, La, Lc, Ln, Lt, Ld, Lr, Li, true_or, or_true, true_and, and_true]); omega) | (simp <;> fail) | skip) [resV], rfl⟩
  · first | refine pwp_rif ?_ | refine pwp_rifE ?_
    intro K hK
    simp (disch := first | (refine Ok.mk ?_; (try simp only [Lm, La, Lc, Ln, Lt, Ld, Lr, Li, true_or, or_true, true_and, and_true]); omega) | (simp <;> fail) | skip) [runM_nil, hxl, h1, h2, h3, h4, h5]
    refine hK _ _ ?_
    clear hK K
    refine ifT (by simp (disch := first | (refine Ok.mk ?_; (try simp only [Lm, La, Lc, Ln, Lt, Ld, Lr, Li, true_or, or_true, true_and, and_true]); omega) | (simp <;> fail) | skip) [runM_nil]) ?_
    first | refine pwp_sr ?_ | refine pwp_regionM ?_
    intro K hK
    simp (disch := first | (refine Ok.mk ?_; (try simp only [Lm, La, Lc, Ln, Lt, Ld, Lr, Li, true_or, or_true, true_and, and_true]); omega) | (simp <;> fail) | skip) [runM_nil]
    refine hK _ _ ?_
    clear hK K
    refine pwp_retT ⟨.inr rfl, _, _, (by simp (disch := first | (refine Ok.mk ?_; (try simp only [Lm, La, Lc, Ln, Lt, Ld, Lr, Li, true_or, or_true, true_and, and_true]); omega) | (simp <;> fail) | skip) [runM_nil, resL]; rfl), .refl _, by simp (disch := first | (refine Ok.mk ?_; (try simp only [Lm, La, Lc, Ln, Lt, Ld, Lr, Li, true_or, or_true, true_and, and_true]); omega) | (simp <;> fail) | skip) [resV], rfl⟩
theorem read_ok {s : Nat} {xs : List PV} {o : Bool} {b : List Nat} (hx : xs = b.map u8) (hs : s = 1 ∨ b.length = 0) (hw : ∀ x ∈ b, x < 256) (hl : b.length ≤ 1000000) (f t g : Nat) (p : Bool) (h1 : f ≤ t) (h2 : t ≤ b.length) (h3 : g ≤ b.length) :
    PSpec Try.prog 7 [.lst s xs o, .int .i64 f, .int .i64 t, .bool p, .int .i64 g] (.tup [.lst 1 (rowsC (rdB b t g (firstB b f p))) true, .int .i64 (if g < t then 3 else 0)]) := by
  intro H
  have hxl : xs.length = b.length := by rw [hx, List.length_map]
  have c := first_ok (o := false) hx hs hw hl f (by omega) p
  have hfac := rdB_facts hw (good := g) h2 _ (firstB b f p) (Nat.le_refl _)
  have i1 : ¬ ((f : Int) < 0) := by omega
  have i2 : ¬ ((t : Int) < f) := by omega
  have i3 : ¬ ((b.length : Int) < t) := by omega
  have i4 : ¬ ((g : Int) < 0) := by omega
  have i5 : ¬ ((b.length : Int) < g) := by omega
  refine spec_ofU t7 (by simp [p7]) ?_
  simp only [p7]
  first | refine pwp_sr ?_ | refine pwp_regionM ?_
  intro K hK
  simp (disch := first | (refine Ok.mk ?_; (try simp only [Lm, La, Lc, Ln, Lt, Ld, Lr, Li, true_or, or_true, true_and, and_true]); omega) | (simp <;> fail) | skip) [runM_nil]
  refine hK _ _ ?_
  clear hK K
  first | refine pwp_rif ?_ | refine pwp_rifE ?_
  intro K hK
  simp (disch := first | (refine Ok.mk ?_; (try simp only [Lm, La, Lc, Ln, Lt, Ld, Lr, Li, true_or, or_true, true_and, and_true]); omega) | (simp <;> fail) | skip) [runM_nil, hxl, i1, i2, i3, i4, i5]
  refine hK _ _ ?_
  clear hK K
  refine ifF (by simp [runM_nil, i1, i2, i3, i4, i5]) (pwp_skip ?_)
  first | refine pwp_sr ?_ | refine pwp_regionM ?_
  intro K hK
  simp (disch := first | (refine Ok.mk ?_; (try simp only [Lm, La, Lc, Ln, Lt, Ld, Lr, Li, true_or, or_true, true_and, and_true]); omega) | (simp <;> fail) | skip) [runM_nil]
  refine hK _ _ ?_
  clear hK K
  generalize firstB b f p = k0 at *
  refine pwp_seq ?_
  first | refine pwp_sr ?_ | refine pwp_regionM ?_
  intro K hK
  simp (disch := first | (refine Ok.mk ?_; (try simp only [Lm, La, Lc, Ln, Lt, Ld, Lr, Li, true_or, or_true, true_and, and_true]); omega) | (simp <;> fail) | skip) [runM_nil]
  refine useP (c) ?_
  simp (disch := first | (refine Ok.mk ?_; (try simp only [Lm, La, Lc, Ln, Lt, Ld, Lr, Li, true_or, or_true, true_and, and_true]); omega) | (simp <;> fail) | skip) [runM_nil]
  refine hK _ _ ?_
  clear hK K
  refine pwp_block ?_
  refine pwp_loopU [0, 2, 4, 12, 13] (fun q st H' => ∃ (k : Nat) (acc : List (List (List Nat))), rdB b t g k0 = acc ++ rdB b t g k ∧ q = b.length - k ∧ H' = H ∧
      st = MS 71 [(0, .lst s xs o), (2, .int .i64 t), (4, .int .i64 g), (12, .lst 1 (rowsC acc) true), (13, .int .i64 k)]) (n := b.length - k0)
    ⟨_, _, keep_up (l' := [(0, .lst s xs o), (2, .int .i64 t), (4, .int .i64 g), (12, .lst 1 [] true), (13, .int .i64 k0)]) (by simp), List.Sublist.refl _, k0, [], rfl, rfl, rfl, by simp [rowsC]⟩ ?_
  rintro q st H' ⟨k, acc, hacc, rfl, hH, rfl⟩
  subst hH
  have hal := congrArg List.length hacc
  rw [List.length_append] at hal
  have hend : rdB b t g k = [] → ∀ E : Int, E = (if g < t then 3 else 0) → True := fun _ _ _ => trivial
  clear hend
  refine pwp_seq ?_
  by_cases hlt : k < t ∧ k < g
  · obtain ⟨l1, l2⟩ := hlt
    have c2 := next_ok (o := false) hx hs hw hl k (by omega)
    first | refine pwp_sr ?_ | refine pwp_regionM ?_
    intro K hK
    simp (disch := first | (refine Ok.mk ?_; (try simp only [Lm, La, Lc, Ln, Lt, Ld, Lr, Li, true_or, or_true, true_and, and_true]); omega) | (simp <;> fail) | skip) [runM_nil, l1, l2]
    refine hK _ _ ?_
    clear hK K
    refine pwp_cT (by simp) (pwp_skip ?_)
    refine pwp_block ?_
    by_cases he : (recM b k).2.2 = 0
    · have hP := recM_prog hw (k := k) (by omega) he
      have hlt2 := hP.lt (by omega)
      have hle2 := hP.le2
      rw [rdB_step hw h2 l1 l2 he] at hacc
      generalize recM b k = x at *
      obtain ⟨x1, x2, x3⟩ := x
      simp only at he
      subst he
      dsimp only at *
      simp only [recV, ne_eq, not_true, decide_false] at c2
      first | refine pwp_sr ?_ | refine pwp_regionM ?_
      intro K hK
      simp (disch := first | (refine Ok.mk ?_; (try simp only [Lm, La, Lc, Ln, Lt, Ld, Lr, Li, true_or, or_true, true_and, and_true]); omega) | (simp <;> fail) | skip) [runM_nil]
      refine useP (c2) ?_
      simp (disch := first | (refine Ok.mk ?_; (try simp only [Lm, La, Lc, Ln, Lt, Ld, Lr, Li, true_or, or_true, true_and, and_true]); omega) | (simp <;> fail) | skip) [runM_nil]
      refine hK _ _ ?_
      clear hK K
      first | refine pwp_rif ?_ | refine pwp_rifE ?_
      intro K hK
      simp (disch := first | (refine Ok.mk ?_; (try simp only [Lm, La, Lc, Ln, Lt, Ld, Lr, Li, true_or, or_true, true_and, and_true]); omega) | (simp <;> fail) | skip) [runM_nil]
      refine hK _ _ ?_
      clear hK K
      refine ifF (by simp [runM_nil]) (pwp_skip ?_)
      have hra : (rowsC acc).length = acc.length := by simp [rowsC]
      first | refine pwp_sr ?_ | refine pwp_regionM ?_
      intro K hK
      simp (disch := first | (refine Ok.mk ?_; (try simp only [Lm, La, Lc, Ln, Lt, Ld, Lr, Li, true_or, or_true, true_and, and_true]); omega) | (simp <;> fail) | skip) [runM_nil, hra]
      refine hK _ _ ?_
      clear hK K
      exact ⟨b.length - x2, by omega, _, _, keep_up (l' := [(0, .lst s xs o), (2, .int .i64 t), (4, .int .i64 g), (12, .lst 1 (rowsC (acc ++ [x1])) true), (13, .int .i64 x2)]) (by simp [rowsC]), List.Sublist.refl _, x2, acc ++ [x1], by rw [hacc, List.append_assoc]; rfl, rfl, rfl, rfl⟩
    · rw [rdB_bad he, List.append_nil] at hacc
      generalize recM b k = x at *
      obtain ⟨x1, x2, x3⟩ := x
      dsimp only at *
      have ge : ¬ (x3 : Int) = 0 := by omega
      simp only [recV] at c2
      first | refine pwp_sr ?_ | refine pwp_regionM ?_
      intro K hK
      simp (disch := first | (refine Ok.mk ?_; (try simp only [Lm, La, Lc, Ln, Lt, Ld, Lr, Li, true_or, or_true, true_and, and_true]); omega) | (simp <;> fail) | skip) [runM_nil]
      refine useP (c2) ?_
      simp (disch := first | (refine Ok.mk ?_; (try simp only [Lm, La, Lc, Ln, Lt, Ld, Lr, Li, true_or, or_true, true_and, and_true]); omega) | (simp <;> fail) | skip) [runM_nil]
      refine hK _ _ ?_
      clear hK K
      first | refine pwp_rif ?_ | refine pwp_rifE ?_
      intro K hK
      simp (disch := first | (refine Ok.mk ?_; (try simp only [Lm, La, Lc, Ln, Lt, Ld, Lr, Li, true_or, or_true, true_and, and_true]); omega) | (simp <;> fail) | skip) [runM_nil, ge, he]
      refine hK _ _ ?_
      clear hK K
      refine ifT (by simp [runM_nil, ge, he]) (pwp_exit ?_)
      by_cases hgt : g < t
      · first | refine pwp_rif ?_ | refine pwp_rifE ?_
        intro K hK
        simp (disch := first | (refine Ok.mk ?_; (try simp only [Lm, La, Lc, Ln, Lt, Ld, Lr, Li, true_or, or_true, true_and, and_true]); omega) | (simp <;> fail) | skip) [runM_nil, hgt]
        refine hK _ _ ?_
        clear hK K
        refine ifT (by simp (disch := first | (refine Ok.mk ?_; (try simp only [Lm, La, Lc, Ln, Lt, Ld, Lr, Li, true_or, or_true, true_and, and_true]); omega) | (simp <;> fail) | skip) [runM_nil]) ?_
        first | refine pwp_sr ?_ | refine pwp_regionM ?_
        intro K hK
        simp (disch := first | (refine Ok.mk ?_; (try simp only [Lm, La, Lc, Ln, Lt, Ld, Lr, Li, true_or, or_true, true_and, and_true]); omega) | (simp <;> fail) | skip) [runM_nil]
        refine hK _ _ ?_
        clear hK K
        refine pwp_retT ⟨.inr rfl, _, _, _, (by simp [runM_nil, resL]; rfl), .refl _, by simp [resV, hacc, hgt], rfl, rfl⟩
      · first | refine pwp_rif ?_ | refine pwp_rifE ?_
        intro K hK
        simp (disch := first | (refine Ok.mk ?_; (try simp only [Lm, La, Lc, Ln, Lt, Ld, Lr, Li, true_or, or_true, true_and, and_true]); omega) | (simp <;> fail) | skip) [runM_nil, hgt]
        refine hK _ _ ?_
        clear hK K
        refine ifF (by simp [runM_nil, hgt]) (pwp_skip ?_)
        first | refine pwp_sr ?_ | refine pwp_regionM ?_
        intro K hK
        simp (disch := first | (refine Ok.mk ?_; (try simp only [Lm, La, Lc, Ln, Lt, Ld, Lr, Li, true_or, or_true, true_and, and_true]); omega) | (simp <;> fail) | skip) [runM_nil]
        refine hK _ _ ?_
        clear hK K
        refine pwp_ret ⟨.inr rfl, _, _, _, (by simp [runM_nil, resL]; rfl), .refl _, by simp [resV, hacc, hgt], rfl, rfl⟩
  · rw [rdB_off hlt, List.append_nil] at hacc
    have hcnd : ∀ (Q : Bool), Q = (decide (k < t) && decide (k < g)) → Q = false := fun Q hQ => by rw [hQ]; by_cases l1 : k < t <;> by_cases l2 : k < g <;> simp_all
    clear hcnd
    rcases (show ¬ k < t ∨ k < t ∧ ¬ k < g by omega) with l1 | ⟨l1, l2⟩
    · first | refine pwp_sr ?_ | refine pwp_regionM ?_
      intro K hK
      simp (disch := first | (refine Ok.mk ?_; (try simp only [Lm, La, Lc, Ln, Lt, Ld, Lr, Li, true_or, or_true, true_and, and_true]); omega) | (simp <;> fail) | skip) [runM_nil, l1]
      refine hK _ _ ?_
      clear hK K
      refine pwp_cF (by simp) (pwp_exit ?_)
      by_cases hgt : g < t
      · first | refine pwp_rif ?_ | refine pwp_rifE ?_
        intro K hK
        simp (disch := first | (refine Ok.mk ?_; (try simp only [Lm, La, Lc, Ln, Lt, Ld, Lr, Li, true_or, or_true, true_and, and_true]); omega) | (simp <;> fail) | skip) [runM_nil, hgt]
        refine hK _ _ ?_
        clear hK K
        refine ifT (by simp (disch := first | (refine Ok.mk ?_; (try simp only [Lm, La, Lc, Ln, Lt, Ld, Lr, Li, true_or, or_true, true_and, and_true]); omega) | (simp <;> fail) | skip) [runM_nil]) ?_
        first | refine pwp_sr ?_ | refine pwp_regionM ?_
        intro K hK
        simp (disch := first | (refine Ok.mk ?_; (try simp only [Lm, La, Lc, Ln, Lt, Ld, Lr, Li, true_or, or_true, true_and, and_true]); omega) | (simp <;> fail) | skip) [runM_nil]
        refine hK _ _ ?_
        clear hK K
        refine pwp_retT ⟨.inr rfl, _, _, _, (by simp [runM_nil, resL]; rfl), .refl _, by simp [resV, hacc, hgt], rfl, rfl⟩
      · first | refine pwp_rif ?_ | refine pwp_rifE ?_
        intro K hK
        simp (disch := first | (refine Ok.mk ?_; (try simp only [Lm, La, Lc, Ln, Lt, Ld, Lr, Li, true_or, or_true, true_and, and_true]); omega) | (simp <;> fail) | skip) [runM_nil, hgt]
        refine hK _ _ ?_
        clear hK K
        refine ifF (by simp [runM_nil, hgt]) (pwp_skip ?_)
        first | refine pwp_sr ?_ | refine pwp_regionM ?_
        intro K hK
        simp (disch := first | (refine Ok.mk ?_; (try simp only [Lm, La, Lc, Ln, Lt, Ld, Lr, Li, true_or, or_true, true_and, and_true]); omega) | (simp <;> fail) | skip) [runM_nil]
        refine hK _ _ ?_
        clear hK K
        refine pwp_ret ⟨.inr rfl, _, _, _, (by simp [runM_nil, resL]; rfl), .refl _, by simp [resV, hacc, hgt], rfl, rfl⟩
    · first | refine pwp_sr ?_ | refine pwp_regionM ?_
      intro K hK
      simp (disch := first | (refine Ok.mk ?_; (try simp only [Lm, La, Lc, Ln, Lt, Ld, Lr, Li, true_or, or_true, true_and, and_true]); omega) | (simp <;> fail) | skip) [runM_nil, l1, l2]
      refine hK _ _ ?_
      clear hK K
      refine pwp_cF (by simp) (pwp_exit ?_)
      by_cases hgt : g < t
      · first | refine pwp_rif ?_ | refine pwp_rifE ?_
        intro K hK
        simp (disch := first | (refine Ok.mk ?_; (try simp only [Lm, La, Lc, Ln, Lt, Ld, Lr, Li, true_or, or_true, true_and, and_true]); omega) | (simp <;> fail) | skip) [runM_nil, hgt]
        refine hK _ _ ?_
        clear hK K
        refine ifT (by simp (disch := first | (refine Ok.mk ?_; (try simp only [Lm, La, Lc, Ln, Lt, Ld, Lr, Li, true_or, or_true, true_and, and_true]); omega) | (simp <;> fail) | skip) [runM_nil]) ?_
        first | refine pwp_sr ?_ | refine pwp_regionM ?_
        intro K hK
        simp (disch := first | (refine Ok.mk ?_; (try simp only [Lm, La, Lc, Ln, Lt, Ld, Lr, Li, true_or, or_true, true_and, and_true]); omega) | (simp <;> fail) | skip) [runM_nil]
        refine hK _ _ ?_
        clear hK K
        refine pwp_retT ⟨.inr rfl, _, _, _, (by simp [runM_nil, resL]; rfl), .refl _, by simp [resV, hacc, hgt], rfl, rfl⟩
      · first | refine pwp_rif ?_ | refine pwp_rifE ?_
        intro K hK
        simp (disch := first | (refine Ok.mk ?_; (try simp only [Lm, La, Lc, Ln, Lt, Ld, Lr, Li, true_or, or_true, true_and, and_true]); omega) | (simp <;> fail) | skip) [runM_nil, hgt]
        refine hK _ _ ?_
        clear hK K
        refine ifF (by simp [runM_nil, hgt]) (pwp_skip ?_)
        first | refine pwp_sr ?_ | refine pwp_regionM ?_
        intro K hK
        simp (disch := first | (refine Ok.mk ?_; (try simp only [Lm, La, Lc, Ln, Lt, Ld, Lr, Li, true_or, or_true, true_and, and_true]); omega) | (simp <;> fail) | skip) [runM_nil]
        refine hK _ _ ?_
        clear hK K
        refine pwp_ret ⟨.inr rfl, _, _, _, (by simp [runM_nil, resL]; rfl), .refl _, by simp [resV, hacc, hgt], rfl, rfl⟩
end Go.Proofs.Ytdphjapaoaokmaa.E
/- What the document reads of a split; the same records; the law of splits. -/
namespace Go.Proofs.Ytdphjapaoaokmaa.E
open Go Go.RowKit Go.Proofs
set_option linter.unusedVariables false
set_option linter.unusedSimpArgs false
theorem strsSame_ok {r : List (List Nat)} (hl : r.length ≤ 1000000) {o q : Bool} : PSpec Try.prog 19 [.lst 1 (r.map sV) o, .lst 1 (r.map sV) q] (.bool true) := by
  intro H
  have hmix := mix06
  refine spec_of t19 (by simp [p19]) ?_
  simp only [p19]
  first | refine pwp_sr ?_ | refine pwp_regionM ?_
  intro K hK
  simp (disch := first | (refine Ok.mk ?_; (try simp only [Lm, La, Lc, Ln, Lt, Ld, Lr, Li, true_or, or_true, true_and, and_true]); omega) | (simp <;> fail) | skip) [runM_nil]
  refine hK _ _ ?_
  clear hK K
  refine pwp_seq ?_
  first | refine pwp_sr ?_ | refine pwp_regionM ?_
  intro K hK
  simp (disch := first | (refine Ok.mk ?_; (try simp only [Lm, La, Lc, Ln, Lt, Ld, Lr, Li, true_or, or_true, true_and, and_true]); omega) | (simp <;> fail) | skip) [runM_nil]
  refine hK _ _ ?_
  clear hK K
  refine pwp_cF (by simp) (pwp_skip ?_)
  refine pwp_seq (pwp_seq ?_)
  first | refine pwp_sr ?_ | refine pwp_regionM ?_
  intro K hK
  simp (disch := first | (refine Ok.mk ?_; (try simp only [Lm, La, Lc, Ln, Lt, Ld, Lr, Li, true_or, or_true, true_and, and_true]); omega) | (simp <;> fail) | skip) [runM_nil]
  refine hK _ _ ?_
  clear hK K
  refine pwp_block ?_
  refine pwp_loopK [0, 1, 5] (fun m st H' => ∃ i, i ≤ r.length ∧ m = r.length - i ∧ H' = H ∧ st = MS 26 [(0, .lst 1 (r.map sV) o), (1, .lst 1 (r.map sV) q), (5, .int .i64 i)]) (n := r.length)
    ⟨_, .refl _, 0, Nat.zero_le _, rfl, rfl, by simp [keepL_MS, keepA, getS]⟩ ?_
  rintro m st H1 ⟨i, hi, rfl, rfl, rfl⟩
  by_cases hlt : i < r.length
  · have g1 : r[i]? = some r[i] := List.getElem?_eq_getElem hlt
    generalize r[i] = e at *
    refine pwp_seq ?_
    first | refine pwp_sr ?_ | refine pwp_regionM ?_
    intro K hK
    simp (disch := first | (refine Ok.mk ?_; (try simp only [Lm, La, Lc, Ln, Lt, Ld, Lr, Li, true_or, or_true, true_and, and_true]); omega) | (simp <;> fail) | skip) [runM_nil]
    refine hK _ _ ?_
    clear hK K
    refine pwp_cT (by simp) (pwp_skip ?_)
    refine pwp_seq (pwp_block ?_)
    first | refine pwp_sd hmix ?_ | refine pwp_drawM hmix ?_
    intro K hK
    simp (disch := first | (refine Ok.mk ?_; (try simp only [Lm, La, Lc, Ln, Lt, Ld, Lr, Li, true_or, or_true, true_and, and_true]); omega) | (simp <;> fail) | skip) [runM_nil, g1, sV, strP]
    refine hK _ _ ?_
    clear hK K
    refine pwp_cF (by simp) (pwp_skip ?_)
    first | refine pwp_sr ?_ | refine pwp_regionM ?_
    intro K hK
    simp (disch := first | (refine Ok.mk ?_; (try simp only [Lm, La, Lc, Ln, Lt, Ld, Lr, Li, true_or, or_true, true_and, and_true]); omega) | (simp <;> fail) | skip) [runM_nil]
    refine hK _ _ ?_
    clear hK K
    exact ⟨r.length - (i + 1), by omega, _, .refl _, i + 1, by omega, rfl, rfl, by simp [keepL_MS, keepA, getS]⟩
  · obtain rfl : i = r.length := by omega
    refine pwp_seq ?_
    first | refine pwp_sr ?_ | refine pwp_regionM ?_
    intro K hK
    simp (disch := first | (refine Ok.mk ?_; (try simp only [Lm, La, Lc, Ln, Lt, Ld, Lr, Li, true_or, or_true, true_and, and_true]); omega) | (simp <;> fail) | skip) [runM_nil]
    refine hK _ _ ?_
    clear hK K
    refine pwp_cF (by simp) (pwp_exit ?_)
    first | refine pwp_sr ?_ | refine pwp_regionM ?_
    intro K hK
    simp (disch := first | (refine Ok.mk ?_; (try simp only [Lm, La, Lc, Ln, Lt, Ld, Lr, Li, true_or, or_true, true_and, and_true]); omega) | (simp <;> fail) | skip) [runM_nil]
    refine hK _ _ ?_
    clear hK K
    refine pwp_ret ⟨.inr rfl, _, _, (by simp (disch := first | (refine Ok.mk ?_; (try simp only [Lm, La, Lc, Ln, Lt, Ld, Lr, Li, true_or, or_true, true_and, and_true]); omega) | (simp <;> fail) | skip) [runM_nil, resL]; rfl), .refl _, by simp (disch := first | (refine Ok.mk ?_; (try simp only [Lm, La, Lc, Ln, Lt, Ld, Lr, Li, true_or, or_true, true_and, and_true]); omega) | (simp <;> fail) | skip) [resV], rfl⟩
theorem recsSame_ok {l : List (List (List Nat))} (hl : l.length ≤ 1000000) (hr : ∀ r ∈ l, r.length ≤ 1000000) {o q : Bool} : PSpec Try.prog 10 [.lst 1 (rowsC l) o, .lst 1 (rowsC l) q] (.bool true) := by
  intro H
  have hmix := mix06
  have hrl : (rowsC l).length = l.length := by simp [rowsC]
  have hge : ∀ i (h : i < l.length), (rowsC l)[i]? = some (.lst 1 (l[i].map sV) false) := fun i h => by rw [rowsC, List.getElem?_map, List.getElem?_eq_getElem h]; rfl
  refine spec_of t10 (by simp [p10]) ?_
  simp only [p10]
  generalize rowsC l = es at *
  first | refine pwp_sr ?_ | refine pwp_regionM ?_
  intro K hK
  simp (disch := first | (refine Ok.mk ?_; (try simp only [Lm, La, Lc, Ln, Lt, Ld, Lr, Li, true_or, or_true, true_and, and_true]); omega) | (simp <;> fail) | skip) [runM_nil]
  refine hK _ _ ?_
  clear hK K
  refine pwp_seq ?_
  first | refine pwp_sr ?_ | refine pwp_regionM ?_
  intro K hK
  simp (disch := first | (refine Ok.mk ?_; (try simp only [Lm, La, Lc, Ln, Lt, Ld, Lr, Li, true_or, or_true, true_and, and_true]); omega) | (simp <;> fail) | skip) [runM_nil, hrl]
  refine hK _ _ ?_
  clear hK K
  refine pwp_cF (by simp) (pwp_skip ?_)
  refine pwp_seq (pwp_seq ?_)
  first | refine pwp_sr ?_ | refine pwp_regionM ?_
  intro K hK
  simp (disch := first | (refine Ok.mk ?_; (try simp only [Lm, La, Lc, Ln, Lt, Ld, Lr, Li, true_or, or_true, true_and, and_true]); omega) | (simp <;> fail) | skip) [runM_nil]
  refine hK _ _ ?_
  clear hK K
  refine pwp_block ?_
  refine pwp_loopK [0, 1, 5] (fun m st H' => ∃ i, i ≤ l.length ∧ m = l.length - i ∧ H' = H ∧ st = MS 27 [(0, .lst 1 es o), (1, .lst 1 es q), (5, .int .i64 i)]) (n := l.length)
    ⟨_, .refl _, 0, Nat.zero_le _, rfl, rfl, by simp [keepL_MS, keepA, getS]⟩ ?_
  rintro m st H1 ⟨i, hi, rfl, rfl, rfl⟩
  by_cases hlt : i < l.length
  · have g1 := hge i hlt
    have c := strsSame_ok (hr _ (List.getElem_mem hlt)) (o := false) (q := false)
    generalize l[i] = e at *
    refine pwp_seq ?_
    first | refine pwp_sr ?_ | refine pwp_regionM ?_
    intro K hK
    simp (disch := first | (refine Ok.mk ?_; (try simp only [Lm, La, Lc, Ln, Lt, Ld, Lr, Li, true_or, or_true, true_and, and_true]); omega) | (simp <;> fail) | skip) [runM_nil, hrl]
    refine hK _ _ ?_
    clear hK K
    refine pwp_cT (by simp) (pwp_skip ?_)
    refine pwp_seq (pwp_block ?_)
    first | refine pwp_sd hmix ?_ | refine pwp_drawM hmix ?_
    intro K hK
    simp (disch := first | (refine Ok.mk ?_; (try simp only [Lm, La, Lc, Ln, Lt, Ld, Lr, Li, true_or, or_true, true_and, and_true]); omega) | (simp <;> fail) | skip) [runM_nil, g1, hrl]
    refine useD (c) ?_
    simp (disch := first | (refine Ok.mk ?_; (try simp only [Lm, La, Lc, Ln, Lt, Ld, Lr, Li, true_or, or_true, true_and, and_true]); omega) | (simp <;> fail) | skip) [runM_nil, g1, hrl]
    refine hK _ _ ?_
    clear hK K
    refine pwp_cF (by simp) (pwp_skip ?_)
    first | refine pwp_sr ?_ | refine pwp_regionM ?_
    intro K hK
    simp (disch := first | (refine Ok.mk ?_; (try simp only [Lm, La, Lc, Ln, Lt, Ld, Lr, Li, true_or, or_true, true_and, and_true]); omega) | (simp <;> fail) | skip) [runM_nil]
    refine hK _ _ ?_
    clear hK K
    exact ⟨l.length - (i + 1), by omega, _, .refl _, i + 1, by omega, rfl, rfl, by simp [keepL_MS, keepA, getS]⟩
  · obtain rfl : i = l.length := by omega
    refine pwp_seq ?_
    first | refine pwp_sr ?_ | refine pwp_regionM ?_
    intro K hK
    simp (disch := first | (refine Ok.mk ?_; (try simp only [Lm, La, Lc, Ln, Lt, Ld, Lr, Li, true_or, or_true, true_and, and_true]); omega) | (simp <;> fail) | skip) [runM_nil, hrl]
    refine hK _ _ ?_
    clear hK K
    refine pwp_cF (by simp) (pwp_exit ?_)
    first | refine pwp_sr ?_ | refine pwp_regionM ?_
    intro K hK
    simp (disch := first | (refine Ok.mk ?_; (try simp only [Lm, La, Lc, Ln, Lt, Ld, Lr, Li, true_or, or_true, true_and, and_true]); omega) | (simp <;> fail) | skip) [runM_nil]
    refine hK _ _ ?_
    clear hK K
    refine pwp_ret ⟨.inr rfl, _, _, (by simp (disch := first | (refine Ok.mk ?_; (try simp only [Lm, La, Lc, Ln, Lt, Ld, Lr, Li, true_or, or_true, true_and, and_true]); omega) | (simp <;> fail) | skip) [runM_nil, resL]; rfl), .refl _, by simp (disch := first | (refine Ok.mk ?_; (try simp only [Lm, La, Lc, Ln, Lt, Ld, Lr, Li, true_or, or_true, true_and, and_true]); omega) | (simp <;> fail) | skip) [resV], rfl⟩
theorem of_ok {l : List (Nat × List (List Nat))} (hl : l.length ≤ 1000000) (f t : Nat) {o : Bool} : PSpec Try.prog 18 [.lst 2 (l.map pcV) o, .int .i64 f, .int .i64 t] (.lst 1 (rowsC (ofB l f t)) true) := by
  intro H
  have hpl : (l.map pcV).length = l.length := List.length_map _
  have hge : ∀ i (h : i < l.length), (l.map pcV)[i]? = some (.agg [.int .i64 l[i].1, .lst 1 [.lst 1 (l[i].2.map sV) false] false]) := fun i h => by rw [List.getElem?_map, List.getElem?_eq_getElem h]; rfl
  have hsu : ∀ i (h : i < l.length), ofB (l.take (i + 1)) f t = ofB (l.take i) f t ++ if f ≤ l[i].1 ∧ l[i].1 < t then [l[i].2] else [] := fun i h => by
    unfold ofB
    rw [List.take_succ_eq_append_getElem h, List.filter_append, List.map_append]
    congr 1
    by_cases hc : f ≤ l[i].1 ∧ l[i].1 < t
    · simp [hc]
    · rw [if_neg hc, List.filter_cons_of_neg (by simpa using hc)]
      rfl
  have hle : ∀ i, (ofB (l.take i) f t).length ≤ i := fun i => by
    have h1 := List.length_filter_le (fun p : Nat × List (List Nat) => decide (f ≤ p.1 ∧ p.1 < t)) (l.take i)
    rw [List.length_take] at h1
    rw [ofB, List.length_map]
    omega
  refine spec_of t18 (by simp [p18]) ?_
  simp only [p18]
  generalize l.map pcV = es at *
  first | refine pwp_sr ?_ | refine pwp_regionM ?_
  intro K hK
  simp (disch := first | (refine Ok.mk ?_; (try simp only [Lm, La, Lc, Ln, Lt, Ld, Lr, Li, true_or, or_true, true_and, and_true]); omega) | (simp <;> fail) | skip) [runM_nil]
  refine hK _ _ ?_
  clear hK K
  first | refine pwp_sr ?_ | refine pwp_regionM ?_
  intro K hK
  simp (disch := first | (refine Ok.mk ?_; (try simp only [Lm, La, Lc, Ln, Lt, Ld, Lr, Li, true_or, or_true, true_and, and_true]); omega) | (simp <;> fail) | skip) [runM_nil]
  refine hK _ _ ?_
  clear hK K
  refine pwp_seq (pwp_seq ?_)
  first | refine pwp_sr ?_ | refine pwp_regionM ?_
  intro K hK
  simp (disch := first | (refine Ok.mk ?_; (try simp only [Lm, La, Lc, Ln, Lt, Ld, Lr, Li, true_or, or_true, true_and, and_true]); omega) | (simp <;> fail) | skip) [runM_nil]
  refine hK _ _ ?_
  clear hK K
  refine pwp_block ?_
  refine pwp_loopK [0, 1, 2, 7, 8] (fun m st H' => ∃ i, i ≤ l.length ∧ m = l.length - i ∧ H' = H ∧ st = MS 40 [(0, .lst 2 es o), (1, .int .i64 f), (2, .int .i64 t), (7, .lst 1 (rowsC (ofB (l.take i) f t)) true), (8, .int .i64 i)]) (n := l.length)
    ⟨_, .refl _, 0, Nat.zero_le _, rfl, rfl, by simp [keepL_MS, keepA, getS, ofB, rowsC]⟩ ?_
  rintro m st H1 ⟨i, hi, rfl, rfl, rfl⟩
  refine pwp_seq ?_
  by_cases hlt : i < l.length
  · have g1 := hge i hlt
    have hs := hsu i hlt
    have hli := hle i
    have hrl : (rowsC (ofB (l.take i) f t)).length = (ofB (l.take i) f t).length := by simp [rowsC]
    generalize ofB (l.take i) f t = A at *
    generalize l[i] = e at *
    obtain ⟨k, r⟩ := e
    dsimp only at *
    first | refine pwp_sr ?_ | refine pwp_regionM ?_
    intro K hK
    simp (disch := first | (refine Ok.mk ?_; (try simp only [Lm, La, Lc, Ln, Lt, Ld, Lr, Li, true_or, or_true, true_and, and_true]); omega) | (simp <;> fail) | skip) [runM_nil, hpl]
    refine hK _ _ ?_
    clear hK K
    refine pwp_cT (by simp) (pwp_skip ?_)
    refine pwp_seq (pwp_block ?_)
    rcases (show ¬ f ≤ k ∨ f ≤ k ∧ ¬ k < t ∨ f ≤ k ∧ k < t by omega) with h1 | ⟨h1, h2⟩ | ⟨h1, h2⟩
    · rw [if_neg (by omega), List.append_nil] at hs
      first | refine pwp_rif ?_ | refine pwp_rifE ?_
      intro K hK
      simp (disch := first | (refine Ok.mk ?_; (try simp only [Lm, La, Lc, Ln, Lt, Ld, Lr, Li, true_or, or_true, true_and, and_true]); omega) | (simp <;> fail) | skip) [runM_nil, g1, hpl, h1]
      refine hK _ _ ?_
      clear hK K
      refine ifF (by simp [runM_nil, h1]) (pwp_skip ?_)
      first | refine pwp_sr ?_ | refine pwp_regionM ?_
      intro K hK
      simp (disch := first | (refine Ok.mk ?_; (try simp only [Lm, La, Lc, Ln, Lt, Ld, Lr, Li, true_or, or_true, true_and, and_true]); omega) | (simp <;> fail) | skip) [runM_nil]
      refine hK _ _ ?_
      clear hK K
      exact ⟨l.length - (i + 1), by omega, _, .refl _, i + 1, by omega, rfl, rfl, by simp [keepL_MS, keepA, getS, hs]⟩
    · rw [if_neg (by omega), List.append_nil] at hs
      first | refine pwp_rif ?_ | refine pwp_rifE ?_
      intro K hK
      simp (disch := first | (refine Ok.mk ?_; (try simp only [Lm, La, Lc, Ln, Lt, Ld, Lr, Li, true_or, or_true, true_and, and_true]); omega) | (simp <;> fail) | skip) [runM_nil, g1, hpl, h1, h2]
      refine hK _ _ ?_
      clear hK K
      refine ifF (by simp [runM_nil, h1, h2]) (pwp_skip ?_)
      first | refine pwp_sr ?_ | refine pwp_regionM ?_
      intro K hK
      simp (disch := first | (refine Ok.mk ?_; (try simp only [Lm, La, Lc, Ln, Lt, Ld, Lr, Li, true_or, or_true, true_and, and_true]); omega) | (simp <;> fail) | skip) [runM_nil]
      refine hK _ _ ?_
      clear hK K
      exact ⟨l.length - (i + 1), by omega, _, .refl _, i + 1, by omega, rfl, rfl, by simp [keepL_MS, keepA, getS, hs]⟩
    · rw [if_pos ⟨h1, h2⟩] at hs
      first | refine pwp_rif ?_ | refine pwp_rifE ?_
      intro K hK
      simp (disch := first | (refine Ok.mk ?_; (try simp only [Lm, La, Lc, Ln, Lt, Ld, Lr, Li, true_or, or_true, true_and, and_true]); omega) | (simp <;> fail) | skip) [runM_nil, g1, hpl, h1, h2]
      refine hK _ _ ?_
      clear hK K
      refine ifT (by simp [runM_nil, h1, h2]) ?_
      first | refine pwp_sr ?_ | refine pwp_regionM ?_
      intro K hK
      simp (disch := first | (refine Ok.mk ?_; (try simp only [Lm, La, Lc, Ln, Lt, Ld, Lr, Li, true_or, or_true, true_and, and_true]); omega) | (simp <;> fail) | skip) [runM_nil, g1, hpl, hrl]
      refine hK _ _ ?_
      clear hK K
      first | refine pwp_sr ?_ | refine pwp_regionM ?_
      intro K hK
      simp (disch := first | (refine Ok.mk ?_; (try simp only [Lm, La, Lc, Ln, Lt, Ld, Lr, Li, true_or, or_true, true_and, and_true]); omega) | (simp <;> fail) | skip) [runM_nil]
      refine hK _ _ ?_
      clear hK K
      exact ⟨l.length - (i + 1), by omega, _, .refl _, i + 1, by omega, rfl, rfl, by simp [keepL_MS, keepA, getS, hs, rowsC]⟩
  · obtain rfl : i = l.length := by omega
    rw [List.take_length]
    first | refine pwp_sr ?_ | refine pwp_regionM ?_
    intro K hK
    simp (disch := first | (refine Ok.mk ?_; (try simp only [Lm, La, Lc, Ln, Lt, Ld, Lr, Li, true_or, or_true, true_and, and_true]); omega) | (simp <;> fail) | skip) [runM_nil, hpl]
    refine hK _ _ ?_
    clear hK K
    refine pwp_cF (by simp) (pwp_exit ?_)
    first | refine pwp_sr ?_ | refine pwp_regionM ?_
    intro K hK
    simp (disch := first | (refine Ok.mk ?_; (try simp only [Lm, La, Lc, Ln, Lt, Ld, Lr, Li, true_or, or_true, true_and, and_true]); omega) | (simp <;> fail) | skip) [runM_nil]
    refine hK _ _ ?_
    clear hK K
    refine pwp_ret ⟨.inr rfl, _, _, (by simp (disch := first | (refine Ok.mk ?_; (try simp only [Lm, La, Lc, Ln, Lt, Ld, Lr, Li, true_or, or_true, true_and, and_true]); omega) | (simp <;> fail) | skip) [runM_nil, resL]; rfl), .refl _, by simp (disch := first | (refine Ok.mk ?_; (try simp only [Lm, La, Lc, Ln, Lt, Ld, Lr, Li, true_or, or_true, true_and, and_true]); omega) | (simp <;> fail) | skip) [resV], rfl⟩
end Go.Proofs.Ytdphjapaoaokmaa.E
/- The document's split; the live question; the law of splits. -/
namespace Go.Proofs.Ytdphjapaoaokmaa.E
open Go Go.RowKit Go.Proofs
set_option linter.unusedVariables false
set_option linter.unusedSimpArgs false
theorem recsNil_ok {o q : Bool} : PSpec Try.prog 10 [.lst 0 [] o, .lst 0 [] q] (.bool true) := by
  intro H
  have hmix := mix06
  refine spec_of t10 (by simp [p10]) ?_
  simp only [p10]
  first | refine pwp_sr ?_ | refine pwp_regionM ?_
  intro K hK
  simp (disch := first | (refine Ok.mk ?_; (try simp only [Lm, La, Lc, Ln, Lt, Ld, Lr, Li, true_or, or_true, true_and, and_true]); omega) | (simp <;> fail) | skip) [runM_nil]
  refine hK _ _ ?_
  clear hK K
  refine pwp_seq ?_
  first | refine pwp_sr ?_ | refine pwp_regionM ?_
  intro K hK
  simp (disch := first | (refine Ok.mk ?_; (try simp only [Lm, La, Lc, Ln, Lt, Ld, Lr, Li, true_or, or_true, true_and, and_true]); omega) | (simp <;> fail) | skip) [runM_nil]
  refine hK _ _ ?_
  clear hK K
  refine pwp_cF (by simp) (pwp_skip ?_)
  refine pwp_seq (pwp_seq ?_)
  first | refine pwp_sr ?_ | refine pwp_regionM ?_
  intro K hK
  simp (disch := first | (refine Ok.mk ?_; (try simp only [Lm, La, Lc, Ln, Lt, Ld, Lr, Li, true_or, or_true, true_and, and_true]); omega) | (simp <;> fail) | skip) [runM_nil]
  refine hK _ _ ?_
  clear hK K
  refine pwp_block ?_
  refine pwp_loopK [0, 1, 5] (fun m st H' => H' = H ∧ st = MS 27 [(0, .lst 0 [] o), (1, .lst 0 [] q), (5, .int .i64 0)]) (n := 0) ⟨_, .refl _, rfl, by simp [keepL_MS, keepA, getS]⟩ ?_
  rintro m st H1 ⟨rfl, rfl⟩
  refine pwp_seq ?_
  first | refine pwp_sr ?_ | refine pwp_regionM ?_
  intro K hK
  simp (disch := first | (refine Ok.mk ?_; (try simp only [Lm, La, Lc, Ln, Lt, Ld, Lr, Li, true_or, or_true, true_and, and_true]); omega) | (simp <;> fail) | skip) [runM_nil]
  refine hK _ _ ?_
  clear hK K
  refine pwp_cF (by simp) (pwp_exit ?_)
  first | refine pwp_sr ?_ | refine pwp_regionM ?_
  intro K hK
  simp (disch := first | (refine Ok.mk ?_; (try simp only [Lm, La, Lc, Ln, Lt, Ld, Lr, Li, true_or, or_true, true_and, and_true]); omega) | (simp <;> fail) | skip) [runM_nil]
  refine hK _ _ ?_
  clear hK K
  refine pwp_ret ⟨.inr rfl, _, _, (by simp (disch := first | (refine Ok.mk ?_; (try simp only [Lm, La, Lc, Ln, Lt, Ld, Lr, Li, true_or, or_true, true_and, and_true]); omega) | (simp <;> fail) | skip) [runM_nil, resL]; rfl), .refl _, by simp (disch := first | (refine Ok.mk ?_; (try simp only [Lm, La, Lc, Ln, Lt, Ld, Lr, Li, true_or, or_true, true_and, and_true]); omega) | (simp <;> fail) | skip) [resV], rfl⟩
theorem scanB_len {b : List Nat} (hw : ∀ x ∈ b, x < 256) : ∀ (n k : Nat), b.length - k ≤ n → Bd b k → (scanB b k).1.length ≤ b.length - k
  | 0, k, hn, h => by
    obtain rfl : k = b.length := by have := h.le; omega
    rw [scanB_end]
    simp
  | n + 1, k, hn, h => by
    by_cases hk : k < b.length
    · by_cases he : (recM b k).2.2 = 0
      · obtain ⟨h2, hE⟩ := h.next hw he
        have h3 := hE.lt hk
        have h4 := hE.le2
        have := scanB_len hw n (recM b k).2.1 (by omega) h2
        rw [scanB_step hw hk h.par he]
        dsimp only
        rw [List.length_cons]
        omega
      · rw [scanB_bad hk he]
        simp
    · obtain rfl : k = b.length := by have := h.le; omega
      rw [scanB_end]
      simp
theorem rreadBad_ok {s : Nat} {xs : List PV} {o : Bool} {b : List Nat} (hx : xs = b.map u8) (f t g : Int) (h : ¬ (0 ≤ f ∧ f ≤ t ∧ t ≤ b.length ∧ 0 ≤ g ∧ g ≤ b.length)) :
    PSpec Try.prog 9 [.lst s xs o, .int .i64 f, .int .i64 t, .int .i64 g] (.tup [.lst 0 [] true, .int .i64 1]) := by
  intro H
  have hxl : xs.length = b.length := by rw [hx, List.length_map]
  refine spec_of t9 (by simp [p9]) ?_
  simp only [p9]
  first | refine pwp_sr ?_ | refine pwp_regionM ?_
  intro K hK
  simp (disch := first | (refine Ok.mk ?_; (try simp only [Lm, La, Lc, Ln, Lt, Ld, Lr, Li, true_or, or_true, true_and, and_true]); omega) | (simp <;> fail) | skip) [runM_nil]
  refine hK _ _ ?_
  clear hK K
  rcases (show f < 0 ∨ ¬ f < 0 ∧ t < f ∨ ¬ f < 0 ∧ ¬ t < f ∧ (b.length : Int) < t ∨ ¬ f < 0 ∧ ¬ t < f ∧ ¬ (b.length : Int) < t ∧ g < 0 ∨ ¬ f < 0 ∧ ¬ t < f ∧ ¬ (b.length : Int) < t ∧ ¬ g < 0 ∧ (b.length : Int) < g by omega) with h1 | ⟨h1, h2⟩ | ⟨h1, h2, h3⟩ | ⟨h1, h2, h3, h4⟩ | ⟨h1, h2, h3, h4, h5⟩
  · first | refine pwp_rif ?_ | refine pwp_rifE ?_
    intro K hK
    simp (disch := first | (refine Ok.mk ?_; (try simp only [Lm, La, Lc, Ln, Lt, Ld, Lr, Li, true_or, or_true, true_and, and_true]); omega) | (simp <;> fail) | skip) [runM_nil, hxl, h1]
    refine hK _ _ ?_
    clear hK K
    refine ifT (by simp (disch := first | (refine Ok.mk ?_; (try simp only [Lm, La, Lc, Ln, Lt, Ld, Lr, Li, true_or, or_true, true_and, and_true]); omega) | (simp <;> fail) | skip) [runM_nil]) ?_
    first | refine pwp_sr ?_ | refine pwp_regionM ?_
    intro K hK
    simp (disch := first | (refine Ok.mk ?_; (try simp only [Lm, La, Lc, Ln, Lt, Ld, Lr, Li, true_or, or_true, true_and, and_true]); omega) | (simp <;> fail) | skip) [runM_nil]
    refine hK _ _ ?_
    clear hK K
    refine pwp_retT ⟨.inr rfl, _, _, (by simp (disch := first | (refine Ok.mk ?_; (try simp only [Lm, La, Lc, Ln, Lt, Ld, Lr, Li, true_or, or_true, true_and, and_true]); omega) | (simp <;> fail) | skip) [runM_nil, resL]; rfl), .refl _, by simp (disch := first | (refine Ok.mk ?_; (try simp only [Lm, La, Lc, Ln, Lt, Ld, Lr, Li, true_or, or_true, true_and, and_true]); omega) | (simp <;> fail) | skip) [resV], rfl⟩
  · first | refine pwp_rif ?_ | refine pwp_rifE ?_
    intro K hK
    simp (disch := first | (refine Ok.mk ?_; (try simp only [Lm, La, Lc, Ln, Lt, Ld, Lr, Li, true_or, or_true, true_and, and_true]); omega) | (simp <;> fail) | skip) [runM_nil, hxl, h1, h2]
    refine hK _ _ ?_
    clear hK K
    refine ifT (by simp (disch := first | (refine Ok.mk ?_; (try simp only [Lm, La, Lc, Ln, Lt, Ld, Lr, Li, true_or, or_true, true_and, and_true]); omega) | (simp <;> fail) | skip) [runM_nil]) ?_
    first | refine pwp_sr ?_ | refine pwp_regionM ?_
    intro K hK
    simp (disch := first | (refine Ok.mk ?_; (try simp only [Lm, La, Lc, Ln, Lt, Ld, Lr, Li, true_or, or_true, true_and, and_true]); omega) | (simp <;> fail) | skip) [runM_nil]
    refine hK _ _ ?_
    clear hK K
    refine pwp_retT ⟨.inr rfl, _, _, (by simp (disch := first | (refine Ok.mk ?_; (try simp only [Lm, La, Lc, Ln, Lt, Ld, Lr, Li, true_or, or_true, true_and, and_true]); omega) | (simp <;> fail) | skip) [runM_nil, resL]; rfl), .refl _, by simp (disch := first | (refine Ok.mk ?_; (try simp only [Lm, La, Lc, Ln, Lt, Ld, Lr, Li, true_or, or_true, true_and, and_true]); omega) | (simp <;> fail) | skip) [resV], rfl⟩
  · first | refine pwp_rif ?_ | refine pwp_rifE ?_
    intro K hK
    simp (disch := first | (refine Ok.mk ?_; (try simp only [Lm, La, Lc, Ln, Lt, Ld, Lr, Li, true_or, or_true, true_and, and_true]); omega) | (simp <;> fail) | skip) [runM_nil, hxl, h1, h2, h3]
    refine hK _ _ ?_
    clear hK K
    refine ifT (by simp (disch := first | (refine Ok.mk ?_; (try simp only [Lm, La, Lc, Ln, Lt, Ld, Lr, Li, true_or, or_true, true_and, and_true]); omega) | (simp <;> fail) | skip) [runM_nil]) ?_
    first | refine pwp_sr ?_ | refine pwp_regionM ?_
    intro K hK
    simp (disch := first | (refine Ok.mk ?_; (try simp only [Lm, La, Lc, Ln, Lt, Ld, Lr, Li, true_or, or_true, true_and, and_true]); omega) | (simp <;> fail) | skip) [runM_nil]
    refine hK _ _ ?_
    clear hK K
    refine pwp_retT ⟨.inr rfl, _, _, (by simp (disch := first | (refine Ok.mk ?_; (try simp only [Lm, La, Lc, Ln, Lt, Ld, Lr, Li, true_or, or_true, true_and, and_true]); omega) | (simp <;> fail) | skip) [runM_nil, resL]; rfl), .refl _, by simp (disch := first | (refine Ok.mk ?_; (try simp only [Lm, La, Lc, Ln, Lt, Ld, Lr, Li, true_or, or_true, true_and, and_true]); omega) | (simp <;> fail) | skip) [resV], rfl⟩
  · first | refine pwp_rif ?_ | refine pwp_rifE ?_
    intro K hK
    simp (disch := first | (refine Ok.mk ?_; (try simp only [Lm, La, Lc, Ln, Lt, Ld, Lr, Li, true_or, or_true, true_and, and_true]); omega) | (simp <;> fail) | skip) [runM_nil, hxl, h1, h2, h3, h4]
    refine hK _ _ ?_
    clear hK K
    refine ifT (by simp (disch := first | (refine Ok.mk ?_; (try simp only [Lm, La, Lc, Ln, Lt, Ld, Lr, Li, true_or, or_true, true_and, and_true]); omega) | (simp <;> fail) | skip) [runM_nil]) ?_
    first | refine pwp_sr ?_ | refine pwp_regionM ?_
    intro K hK
    simp (disch := first | (refine Ok.mk ?_; (try simp only [Lm, La, Lc, Ln, Lt, Ld, Lr, Li, true_or, or_true, true_and, and_true]); omega) | (simp <;> fail) | skip) [runM_nil]
    refine hK _ _ ?_
    clear hK K
    refine pwp_retT ⟨.inr rfl, _, _, (by simp (disch := first | (refine Ok.mk ?_; (try simp only [Lm, La, Lc, Ln, Lt, Ld, Lr, Li, true_or, or_true, true_and, and_true]); omega) | (simp <;> fail) | skip) [runM_nil, resL]; rfl), .refl _, by simp (disch := first | (refine Ok.mk ?_; (try simp only [Lm, La, Lc, Ln, Lt, Ld, Lr, Li, true_or, or_true, true_and, and_true]); omega) | (simp <;> fail) | skip) [resV], rfl⟩
  · first | refine pwp_rif ?_ | refine pwp_rifE ?_
    intro K hK
    simp (disch := first | (refine Ok.mk ?_; (try simp only [Lm, La, Lc, Ln, Lt, Ld, Lr, Li, true_or, or_true, true_and, and_true]); omega) | (simp <;> fail) | skip) [runM_nil, hxl, h1, h2, h3, h4, h5]
    refine hK _ _ ?_
    clear hK K
    refine ifT (by simp (disch := first | (refine Ok.mk ?_; (try simp only [Lm, La, Lc, Ln, Lt, Ld, Lr, Li, true_or, or_true, true_and, and_true]); omega) | (simp <;> fail) | skip) [runM_nil]) ?_
    first | refine pwp_sr ?_ | refine pwp_regionM ?_
    intro K hK
    simp (disch := first | (refine Ok.mk ?_; (try simp only [Lm, La, Lc, Ln, Lt, Ld, Lr, Li, true_or, or_true, true_and, and_true]); omega) | (simp <;> fail) | skip) [runM_nil]
    refine hK _ _ ?_
    clear hK K
    refine pwp_retT ⟨.inr rfl, _, _, (by simp (disch := first | (refine Ok.mk ?_; (try simp only [Lm, La, Lc, Ln, Lt, Ld, Lr, Li, true_or, or_true, true_and, and_true]); omega) | (simp <;> fail) | skip) [runM_nil, resL]; rfl), .refl _, by simp (disch := first | (refine Ok.mk ?_; (try simp only [Lm, La, Lc, Ln, Lt, Ld, Lr, Li, true_or, or_true, true_and, and_true]); omega) | (simp <;> fail) | skip) [resV], rfl⟩
theorem rread_ok {s : Nat} {xs : List PV} {o : Bool} {b : List Nat} (hx : xs = b.map u8) (hs : s = 1 ∨ b.length = 0) (hw : ∀ x ∈ b, x < 256) (hl : b.length ≤ 1000000) (f t g : Nat) (h1 : f ≤ t) (h2 : t ≤ b.length) (h3 : g ≤ b.length) :
    PSpec Try.prog 9 [.lst s xs o, .int .i64 f, .int .i64 t, .int .i64 g] (.tup [.lst 1 (rowsC (ofB (scanB b 0).1 f t)) true, .int .i64 (if g < t then 3 else 0)]) := by
  intro H
  have hxl : xs.length = b.length := by rw [hx, List.length_map]
  have c := rscan_ok (o := false) hx hs hw hl
  have c2 := of_ok (l := (scanB b 0).1) (by have := scanB_len hw b.length 0 (by omega) (Bd.zero b); omega) f t (o := false)
  have i1 : ¬ ((f : Int) < 0) := by omega
  have i2 : ¬ ((t : Int) < f) := by omega
  have i3 : ¬ ((b.length : Int) < t) := by omega
  have i4 : ¬ ((g : Int) < 0) := by omega
  have i5 : ¬ ((b.length : Int) < g) := by omega
  simp only [scV] at c
  generalize ofB (scanB b 0).1 f t = A at *
  generalize scanB b 0 = S at *
  refine spec_of t9 (by simp [p9]) ?_
  simp only [p9]
  first | refine pwp_sr ?_ | refine pwp_regionM ?_
  intro K hK
  simp (disch := first | (refine Ok.mk ?_; (try simp only [Lm, La, Lc, Ln, Lt, Ld, Lr, Li, true_or, or_true, true_and, and_true]); omega) | (simp <;> fail) | skip) [runM_nil]
  refine hK _ _ ?_
  clear hK K
  first | refine pwp_rif ?_ | refine pwp_rifE ?_
  intro K hK
  simp (disch := first | (refine Ok.mk ?_; (try simp only [Lm, La, Lc, Ln, Lt, Ld, Lr, Li, true_or, or_true, true_and, and_true]); omega) | (simp <;> fail) | skip) [runM_nil, hxl, i1, i2, i3, i4, i5]
  refine hK _ _ ?_
  clear hK K
  refine ifF (by simp [runM_nil, i1, i2, i3, i4, i5]) (pwp_skip ?_)
  first | refine pwp_sr ?_ | refine pwp_regionM ?_
  intro K hK
  simp (disch := first | (refine Ok.mk ?_; (try simp only [Lm, La, Lc, Ln, Lt, Ld, Lr, Li, true_or, or_true, true_and, and_true]); omega) | (simp <;> fail) | skip) [runM_nil]
  refine useP (c) ?_
  simp (disch := first | (refine Ok.mk ?_; (try simp only [Lm, La, Lc, Ln, Lt, Ld, Lr, Li, true_or, or_true, true_and, and_true]); omega) | (simp <;> fail) | skip) [runM_nil]
  refine hK _ _ ?_
  clear hK K
  by_cases hgt : g < t
  · first | refine pwp_rif ?_ | refine pwp_rifE ?_
    intro K hK
    simp (disch := first | (refine Ok.mk ?_; (try simp only [Lm, La, Lc, Ln, Lt, Ld, Lr, Li, true_or, or_true, true_and, and_true]); omega) | (simp <;> fail) | skip) [runM_nil, hgt]
    refine hK _ _ ?_
    clear hK K
    refine ifT (by simp (disch := first | (refine Ok.mk ?_; (try simp only [Lm, La, Lc, Ln, Lt, Ld, Lr, Li, true_or, or_true, true_and, and_true]); omega) | (simp <;> fail) | skip) [runM_nil]) ?_
    first | refine pwp_sr ?_ | refine pwp_regionM ?_
    intro K hK
    simp (disch := first | (refine Ok.mk ?_; (try simp only [Lm, La, Lc, Ln, Lt, Ld, Lr, Li, true_or, or_true, true_and, and_true]); omega) | (simp <;> fail) | skip) [runM_nil]
    refine useP (c2) ?_
    simp (disch := first | (refine Ok.mk ?_; (try simp only [Lm, La, Lc, Ln, Lt, Ld, Lr, Li, true_or, or_true, true_and, and_true]); omega) | (simp <;> fail) | skip) [runM_nil]
    refine hK _ _ ?_
    clear hK K
    refine pwp_retT ⟨.inr rfl, _, _, (by simp [runM_nil, resL]; rfl), .refl _, by simp [resV, hgt], rfl⟩
  · first | refine pwp_rif ?_ | refine pwp_rifE ?_
    intro K hK
    simp (disch := first | (refine Ok.mk ?_; (try simp only [Lm, La, Lc, Ln, Lt, Ld, Lr, Li, true_or, or_true, true_and, and_true]); omega) | (simp <;> fail) | skip) [runM_nil, hgt]
    refine hK _ _ ?_
    clear hK K
    refine ifF (by simp [runM_nil, hgt]) (pwp_skip ?_)
    first | refine pwp_sr ?_ | refine pwp_regionM ?_
    intro K hK
    simp (disch := first | (refine Ok.mk ?_; (try simp only [Lm, La, Lc, Ln, Lt, Ld, Lr, Li, true_or, or_true, true_and, and_true]); omega) | (simp <;> fail) | skip) [runM_nil]
    refine useP (c2) ?_
    simp (disch := first | (refine Ok.mk ?_; (try simp only [Lm, La, Lc, Ln, Lt, Ld, Lr, Li, true_or, or_true, true_and, and_true]); omega) | (simp <;> fail) | skip) [runM_nil]
    refine hK _ _ ?_
    clear hK K
    refine pwp_ret ⟨.inr rfl, _, _, (by simp [runM_nil, resL]; rfl), .refl _, by simp [resV, hgt], rfl⟩
theorem alive_ok : PSpec Try.prog 5 [] (.bool true) := by
  intro H
  have c1 := scan_ok (s := 1) (xs := [34, 97, 44, 34, 34, 98, 34, 44, 99].map u8) (o := false) (b := [34, 97, 44, 34, 34, 98, 34, 44, 99]) rfl (.inl rfl) (by decide) (by decide)
  have e1 : scanB [34, 97, 44, 34, 34, 98, 34, 44, 99] 0 = ([(0, [[97, 44, 34, 98], [99]])], 9, 0) := by decide +kernel
  have c2 := scan_ok (s := 1) (xs := [97, 10, 98, 34, 10].map u8) (o := false) (b := [97, 10, 98, 34, 10]) rfl (.inl rfl) (by decide) (by decide)
  have e2 : scanB [97, 10, 98, 34, 10] 0 = ([(0, [[97]])], 2, 3) := by decide +kernel
  rw [e1] at c1
  rw [e2] at c2
  simp [scV, pcV, sV, ci] at c1 c2
  refine spec_of t5 (by simp [p5]) ?_
  simp only [p5]
  first | refine pwp_sr ?_ | refine pwp_regionM ?_
  intro K hK
  simp (disch := first | (refine Ok.mk ?_; (try simp only [Lm, La, Lc, Ln, Lt, Ld, Lr, Li, true_or, or_true, true_and, and_true]); omega) | (simp <;> fail) | skip) [runM_nil]
  refine hK _ _ ?_
  clear hK K
  first | refine pwp_sr ?_ | refine pwp_regionM ?_
  intro K hK
  simp (disch := first | (refine Ok.mk ?_; (try simp only [Lm, La, Lc, Ln, Lt, Ld, Lr, Li, true_or, or_true, true_and, and_true]); omega) | (simp <;> fail) | skip) [runM_nil]
  refine useP (c1) ?_
  simp (disch := first | (refine Ok.mk ?_; (try simp only [Lm, La, Lc, Ln, Lt, Ld, Lr, Li, true_or, or_true, true_and, and_true]); omega) | (simp <;> fail) | skip) [runM_nil]
  refine hK _ _ ?_
  clear hK K
  first | refine pwp_sr ?_ | refine pwp_regionM ?_
  intro K hK
  simp (disch := first | (refine Ok.mk ?_; (try simp only [Lm, La, Lc, Ln, Lt, Ld, Lr, Li, true_or, or_true, true_and, and_true]); omega) | (simp <;> fail) | skip) [runM_nil]
  refine useP (c2) ?_
  simp (disch := first | (refine Ok.mk ?_; (try simp only [Lm, La, Lc, Ln, Lt, Ld, Lr, Li, true_or, or_true, true_and, and_true]); omega) | (simp <;> fail) | skip) [runM_nil]
  refine hK _ _ ?_
  clear hK K
  first | refine pwp_sr ?_ | refine pwp_regionM ?_
  intro K hK
  simp (disch := first | (refine Ok.mk ?_; (try simp only [Lm, La, Lc, Ln, Lt, Ld, Lr, Li, true_or, or_true, true_and, and_true]); omega) | (simp <;> fail) | skip) [runM_nil, strP]
  refine hK _ _ ?_
  clear hK K
  refine pwp_ret ⟨.inr rfl, _, _, (by simp (disch := first | (refine Ok.mk ?_; (try simp only [Lm, La, Lc, Ln, Lt, Ld, Lr, Li, true_or, or_true, true_and, and_true]); omega) | (simp <;> fail) | skip) [runM_nil, resL]; rfl), .refl _, by simp (disch := first | (refine Ok.mk ?_; (try simp only [Lm, La, Lc, Ln, Lt, Ld, Lr, Li, true_or, or_true, true_and, and_true]); omega) | (simp <;> fail) | skip) [resV], rfl⟩
end Go.Proofs.Ytdphjapaoaokmaa.E
/- A split of any file is as the document says. -/
namespace Go.Proofs.Ytdphjapaoaokmaa.E
open Go Go.RowKit Go.Proofs
set_option linter.unusedVariables false
set_option linter.unusedSimpArgs false
theorem csvRead_ok {o : Bool} {b : List Nat} (hw : ∀ x ∈ b, x < 256) (hl0 : b.length ≤ 140737488351232) (f t : Int) :
    PSpec Try.prog 3 [.lst 1 (b.map u8) o, .int .i64 f, .int .i64 t] (.bool true) := by
  intro H
  have ca := alive_ok
  refine spec_of t3 (by simp [p3]) ?_
  simp only [p3]
  first | refine pwp_sr ?_ | refine pwp_regionM ?_
  intro K hK
  simp (disch := first | (refine Ok.mk ?_; (try simp only [Lm, La, Lc, Ln, Lt, Ld, Lr, Li, true_or, or_true, true_and, and_true]); omega) | (simp <;> fail) | skip) [runM_nil]
  refine hK _ _ ?_
  clear hK K
  rcases Nat.lt_or_ge 3000 b.length with h1 | h1
  · first | refine pwp_rif ?_ | refine pwp_rifE ?_
    intro K hK
    simp (disch := first | (refine Ok.mk ?_; (try simp only [Lm, La, Lc, Ln, Lt, Ld, Lr, Li, true_or, or_true, true_and, and_true]); omega) | (simp <;> fail) | skip) [runM_nil, h1]
    refine hK _ _ ?_
    clear hK K
    refine ifT (by simp (disch := first | (refine Ok.mk ?_; (try simp only [Lm, La, Lc, Ln, Lt, Ld, Lr, Li, true_or, or_true, true_and, and_true]); omega) | (simp <;> fail) | skip) [runM_nil]) ?_
    first | refine pwp_sr ?_ | refine pwp_regionM ?_
    intro K hK
    simp (disch := first | (refine Ok.mk ?_; (try simp only [Lm, La, Lc, Ln, Lt, Ld, Lr, Li, true_or, or_true, true_and, and_true]); omega) | (simp <;> fail) | skip) [runM_nil]
    refine useP (ca) ?_
    simp (disch := first | (refine Ok.mk ?_; (try simp only [Lm, La, Lc, Ln, Lt, Ld, Lr, Li, true_or, or_true, true_and, and_true]); omega) | (simp <;> fail) | skip) [runM_nil]
    refine hK _ _ ?_
    clear hK K
    refine pwp_retT ⟨.inr rfl, _, _, (by simp (disch := first | (refine Ok.mk ?_; (try simp only [Lm, La, Lc, Ln, Lt, Ld, Lr, Li, true_or, or_true, true_and, and_true]); omega) | (simp <;> fail) | skip) [runM_nil, resL]; rfl), .refl _, by simp (disch := first | (refine Ok.mk ?_; (try simp only [Lm, La, Lc, Ln, Lt, Ld, Lr, Li, true_or, or_true, true_and, and_true]); omega) | (simp <;> fail) | skip) [resV], rfl⟩
  have h2 : ¬ 3000 < b.length := by omega
  first | refine pwp_rif ?_ | refine pwp_rifE ?_
  intro K hK
  simp (disch := first | (refine Ok.mk ?_; (try simp only [Lm, La, Lc, Ln, Lt, Ld, Lr, Li, true_or, or_true, true_and, and_true]); omega) | (simp <;> fail) | skip) [runM_nil, h2]
  refine hK _ _ ?_
  clear hK K
  refine ifF (by simp (disch := first | (refine Ok.mk ?_; (try simp only [Lm, La, Lc, Ln, Lt, Ld, Lr, Li, true_or, or_true, true_and, and_true]); omega) | (simp <;> fail) | skip) [runM_nil]) (pwp_skip ?_)
  have c1 := rscan_ok (s := 1) (xs := b.map u8) (o := false) (b := b) rfl (.inl rfl) hw (by omega)
  have c2 := rinside_ok (s := 1) (xs := b.map u8) (o := false) (b := b) rfl (.inl rfl) hw (by omega) f
  obtain ⟨hg1, hg2, hg3⟩ := scanB_facts hw b.length 0 (by omega) (Bd.zero b)
  have c5 := readBad_ok (s := 1) (xs := b.map u8) (o := false) (b := b) rfl f t ((b.length : Int) + 1) false (by omega)
  simp only [scV] at c1
  by_cases hr : 0 ≤ f ∧ f ≤ t ∧ t ≤ b.length
  · obtain ⟨hr1, hr2, hr3⟩ := hr
    obtain ⟨F, rfl⟩ := Int.eq_ofNat_of_zero_le hr1
    obtain ⟨T, rfl⟩ := Int.eq_ofNat_of_zero_le (Int.le_trans hr1 hr2)
    have c3 := read_ok (s := 1) (xs := b.map u8) (o := false) (b := b) rfl (.inl rfl) hw (by omega) F T (scanB b 0).2.1 (par b F) (by omega) (by omega) hg2
    have c4 := rread_ok (s := 1) (xs := b.map u8) (o := false) (b := b) rfl (.inl rfl) hw (by omega) F T (scanB b 0).2.1 (by omega) (by omega) hg2
    have hsp : rdB b T (scanB b 0).2.1 (firstB b F (par b F)) = ofB (scanB b 0).1 F T := rd_split hw T F (by omega) b.length 0 (by omega) (Bd.zero b) (Nat.zero_le _) _ (by omega)
    obtain ⟨q1, q2⟩ := rdB_facts hw (to := T) (good := (scanB b 0).2.1) (by omega) _ (firstB b F (par b F)) (Nat.le_refl _)
    rw [hsp] at c3 q1 q2
    have c6 := recsSame_ok (l := ofB (scanB b 0).1 F T) (by omega) (fun r hr => by have := q2 r hr; omega) (o := false) (q := false)
    rw [Int.toNat_natCast] at c2
    generalize rowsC (ofB (scanB b 0).1 F T) = R at *
    generalize scanB b 0 = S at *
    obtain ⟨S1, S2, S3⟩ := S
    dsimp only at *
    generalize (if S2 < T then (3 : Int) else 0) = E at *
    generalize par b F = p at *
    first | refine pwp_sr ?_ | refine pwp_regionM ?_
    intro K hK
    simp (disch := first | (refine Ok.mk ?_; (try simp only [Lm, La, Lc, Ln, Lt, Ld, Lr, Li, true_or, or_true, true_and, and_true]); omega) | (simp <;> fail) | skip) [runM_nil]
    refine useP (c1) ?_
    simp (disch := first | (refine Ok.mk ?_; (try simp only [Lm, La, Lc, Ln, Lt, Ld, Lr, Li, true_or, or_true, true_and, and_true]); omega) | (simp <;> fail) | skip) [runM_nil]
    refine hK _ _ ?_
    clear hK K
    first | refine pwp_sr ?_ | refine pwp_regionM ?_
    intro K hK
    simp (disch := first | (refine Ok.mk ?_; (try simp only [Lm, La, Lc, Ln, Lt, Ld, Lr, Li, true_or, or_true, true_and, and_true]); omega) | (simp <;> fail) | skip) [runM_nil]
    refine useP (c2) ?_
    simp (disch := first | (refine Ok.mk ?_; (try simp only [Lm, La, Lc, Ln, Lt, Ld, Lr, Li, true_or, or_true, true_and, and_true]); omega) | (simp <;> fail) | skip) [runM_nil]
    refine useP (c3) ?_
    simp (disch := first | (refine Ok.mk ?_; (try simp only [Lm, La, Lc, Ln, Lt, Ld, Lr, Li, true_or, or_true, true_and, and_true]); omega) | (simp <;> fail) | skip) [runM_nil]
    refine hK _ _ ?_
    clear hK K
    first | refine pwp_sr ?_ | refine pwp_regionM ?_
    intro K hK
    simp (disch := first | (refine Ok.mk ?_; (try simp only [Lm, La, Lc, Ln, Lt, Ld, Lr, Li, true_or, or_true, true_and, and_true]); omega) | (simp <;> fail) | skip) [runM_nil]
    refine useP (c4) ?_
    simp (disch := first | (refine Ok.mk ?_; (try simp only [Lm, La, Lc, Ln, Lt, Ld, Lr, Li, true_or, or_true, true_and, and_true]); omega) | (simp <;> fail) | skip) [runM_nil]
    refine hK _ _ ?_
    clear hK K
    first | refine pwp_sr ?_ | refine pwp_regionM ?_
    intro K hK
    simp (disch := first | (refine Ok.mk ?_; (try simp only [Lm, La, Lc, Ln, Lt, Ld, Lr, Li, true_or, or_true, true_and, and_true]); omega) | (simp <;> fail) | skip) [runM_nil]
    refine useP (c5) ?_
    simp (disch := first | (refine Ok.mk ?_; (try simp only [Lm, La, Lc, Ln, Lt, Ld, Lr, Li, true_or, or_true, true_and, and_true]); omega) | (simp <;> fail) | skip) [runM_nil]
    refine hK _ _ ?_
    clear hK K
    first | refine pwp_sr ?_ | refine pwp_regionM ?_
    intro K hK
    simp (disch := first | (refine Ok.mk ?_; (try simp only [Lm, La, Lc, Ln, Lt, Ld, Lr, Li, true_or, or_true, true_and, and_true]); omega) | (simp <;> fail) | skip) [runM_nil]
    refine useP (ca) ?_
    simp (disch := first | (refine Ok.mk ?_; (try simp only [Lm, La, Lc, Ln, Lt, Ld, Lr, Li, true_or, or_true, true_and, and_true]); omega) | (simp <;> fail) | skip) [runM_nil]
    refine useP (c6) ?_
    simp (disch := first | (refine Ok.mk ?_; (try simp only [Lm, La, Lc, Ln, Lt, Ld, Lr, Li, true_or, or_true, true_and, and_true]); omega) | (simp <;> fail) | skip) [runM_nil]
    refine hK _ _ ?_
    clear hK K
    refine pwp_ret ⟨.inr rfl, _, _, (by simp (disch := first | (refine Ok.mk ?_; (try simp only [Lm, La, Lc, Ln, Lt, Ld, Lr, Li, true_or, or_true, true_and, and_true]); omega) | (simp <;> fail) | skip) [runM_nil, resL]; rfl), .refl _, by simp (disch := first | (refine Ok.mk ?_; (try simp only [Lm, La, Lc, Ln, Lt, Ld, Lr, Li, true_or, or_true, true_and, and_true]); omega) | (simp <;> fail) | skip) [resV], rfl⟩
  · have c3 := readBad_ok (s := 1) (xs := b.map u8) (o := false) (b := b) rfl f t ((scanB b 0).2.1 : Nat) (par b f.toNat) (by omega)
    have c4 := rreadBad_ok (s := 1) (xs := b.map u8) (o := false) (b := b) rfl f t ((scanB b 0).2.1 : Nat) (by omega)
    have c6 := recsNil_ok (o := false) (q := false)
    generalize scanB b 0 = S at *
    obtain ⟨S1, S2, S3⟩ := S
    dsimp only at *
    generalize par b f.toNat = p at *
    first | refine pwp_sr ?_ | refine pwp_regionM ?_
    intro K hK
    simp (disch := first | (refine Ok.mk ?_; (try simp only [Lm, La, Lc, Ln, Lt, Ld, Lr, Li, true_or, or_true, true_and, and_true]); omega) | (simp <;> fail) | skip) [runM_nil]
    refine useP (c1) ?_
    simp (disch := first | (refine Ok.mk ?_; (try simp only [Lm, La, Lc, Ln, Lt, Ld, Lr, Li, true_or, or_true, true_and, and_true]); omega) | (simp <;> fail) | skip) [runM_nil]
    refine hK _ _ ?_
    clear hK K
    first | refine pwp_sr ?_ | refine pwp_regionM ?_
    intro K hK
    simp (disch := first | (refine Ok.mk ?_; (try simp only [Lm, La, Lc, Ln, Lt, Ld, Lr, Li, true_or, or_true, true_and, and_true]); omega) | (simp <;> fail) | skip) [runM_nil]
    refine useP (c2) ?_
    simp (disch := first | (refine Ok.mk ?_; (try simp only [Lm, La, Lc, Ln, Lt, Ld, Lr, Li, true_or, or_true, true_and, and_true]); omega) | (simp <;> fail) | skip) [runM_nil]
    refine useP (c3) ?_
    simp (disch := first | (refine Ok.mk ?_; (try simp only [Lm, La, Lc, Ln, Lt, Ld, Lr, Li, true_or, or_true, true_and, and_true]); omega) | (simp <;> fail) | skip) [runM_nil]
    refine hK _ _ ?_
    clear hK K
    first | refine pwp_sr ?_ | refine pwp_regionM ?_
    intro K hK
    simp (disch := first | (refine Ok.mk ?_; (try simp only [Lm, La, Lc, Ln, Lt, Ld, Lr, Li, true_or, or_true, true_and, and_true]); omega) | (simp <;> fail) | skip) [runM_nil]
    refine useP (c4) ?_
    simp (disch := first | (refine Ok.mk ?_; (try simp only [Lm, La, Lc, Ln, Lt, Ld, Lr, Li, true_or, or_true, true_and, and_true]); omega) | (simp <;> fail) | skip) [runM_nil]
    refine hK _ _ ?_
    clear hK K
    first | refine pwp_sr ?_ | refine pwp_regionM ?_
    intro K hK
    simp (disch := first | (refine Ok.mk ?_; (try simp only [Lm, La, Lc, Ln, Lt, Ld, Lr, Li, true_or, or_true, true_and, and_true]); omega) | (simp <;> fail) | skip) [runM_nil]
    refine useP (c5) ?_
    simp (disch := first | (refine Ok.mk ?_; (try simp only [Lm, La, Lc, Ln, Lt, Ld, Lr, Li, true_or, or_true, true_and, and_true]); omega) | (simp <;> fail) | skip) [runM_nil]
    refine hK _ _ ?_
    clear hK K
    first | refine pwp_sr ?_ | refine pwp_regionM ?_
    intro K hK
    simp (disch := first | (refine Ok.mk ?_; (try simp only [Lm, La, Lc, Ln, Lt, Ld, Lr, Li, true_or, or_true, true_and, and_true]); omega) | (simp <;> fail) | skip) [runM_nil]
    refine useP (ca) ?_
    simp (disch := first | (refine Ok.mk ?_; (try simp only [Lm, La, Lc, Ln, Lt, Ld, Lr, Li, true_or, or_true, true_and, and_true]); omega) | (simp <;> fail) | skip) [runM_nil]
    refine useP (c6) ?_
    simp (disch := first | (refine Ok.mk ?_; (try simp only [Lm, La, Lc, Ln, Lt, Ld, Lr, Li, true_or, or_true, true_and, and_true]); omega) | (simp <;> fail) | skip) [runM_nil]
    refine hK _ _ ?_
    clear hK K
    refine pwp_ret ⟨.inr rfl, _, _, (by simp (disch := first | (refine Ok.mk ?_; (try simp only [Lm, La, Lc, Ln, Lt, Ld, Lr, Li, true_or, or_true, true_and, and_true]); omega) | (simp <;> fail) | skip) [runM_nil, resL]; rfl), .refl _, by simp (disch := first | (refine Ok.mk ?_; (try simp only [Lm, La, Lc, Ln, Lt, Ld, Lr, Li, true_or, or_true, true_and, and_true]); omega) | (simp <;> fail) | skip) [resV], rfl⟩
end Go.Proofs.Ytdphjapaoaokmaa.E
/- Functions that the machine answers by itself: how many bytes are that one. -/
namespace Go.Proofs.Ytdphjapaoaokmaa.E
open Go Go.RowKit Go.Proofs
set_option linter.unusedVariables false
set_option linter.unusedSimpArgs false
/-- What such a function answers, that looks at memory only. -/
theorem spec_ext {P : Program} {f : Nat} {fn : Func} {e : Array Value → Sem Value} {args : List PV} {r : PV} (hf : P.funcs[f]? = some fn) (hname : (fn.name == "runtime.NumGoroutine") = false) (hb : fn.body.isNone = true) (hn : Extern.findNext fn = none) (he : Extern.find fn = some e)
    (h : ∀ (w : World) (g : Ghost) (vals : Array Value), VRl true w g args vals.toList → ∃ v, (e vals).run P w = .ok v w ∧ VR true w g r v ∧ toks r v = []) : PSpec P f args r := by
  refine fun H => ⟨trivial, fun out w g vals hw hH hV hun => ?_⟩
  obtain ⟨v, h1, h2, h3⟩ := h w g vals hV
  refine .inr ⟨v, w, ?_, v, r, H, g, rfl, ⟨rfl, rfl⟩, hw, hH, h2, fun b => ?_, Evol.refl _ _ _⟩
  · rw [run_callFunc_extern hf hname hb hn he, h1]
    rfl
  · rw [h3]
    have := hun b
    simp only [List.count_nil]
    omega
theorem count_ci {b : List Nat} (hw : ∀ x ∈ b, x < 256) (c : Nat) (hc : c < 256) : Lib.countByte (Lib.bytesOf (ci b)) c.toUInt8 = b.count c := by
  induction b with
  | nil => rfl
  | cons x b ih =>
    have hx := hw x (List.mem_cons_self ..)
    have ih := ih fun y hy => hw y (List.mem_cons_of_mem _ hy)
    have e : Lib.bytesOf (ci (x :: b)) = UInt8.ofNat x :: Lib.bytesOf (ci b) := by simp [Lib.bytesOf, ci]
    rw [e]
    unfold Lib.countByte at *
    rw [List.count_cons, List.count_cons, ih]
    congr 1
    have h1 : (UInt8.ofNat x = c.toUInt8) ↔ x = c := by
      constructor
      · intro h
        have h2 := congrArg UInt8.toNat h
        simp only [Nat.toUInt8, UInt8.toNat_ofNat'] at h2
        omega
      · intro h
        rw [h]
    by_cases h : x = c
    · subst h
      simp
    · have h2 : ¬ UInt8.ofNat x = c.toUInt8 := fun h3 => h (h1.1 h3)
      simp [h, h2]
theorem countE_ok {s : Nat} {xs : List PV} {o : Bool} {b : List Nat} (hx : xs = b.map u8) (hs : s = 1 ∨ b.length = 0) (hw : ∀ x ∈ b, x < 256) (c : Nat) (hc : c < 256) :
    PSpec Try.prog 28 [.lst s xs o, .int .u8 c] (.int .i64 (b.count c : Nat)) := by
  subst hx
  refine spec_ext Try.func28 (by kernel_rfl) (by kernel_rfl) (by kernel_rfl) (e := Extern.BytealgCount.count) (by kernel_rfl) fun w g vals hV => ?_
  obtain ⟨v0, vs0, e0, h0, v1, vs1, rfl, rfl, rfl⟩ := hV
  obtain ⟨A, cap, rfl, _, _, hR, _⟩ := h0
  have hvals : vals = #[.slice A (b.map u8).length cap, .int .u8 c] := by
    apply Array.toList_inj.1
    simpa using e0
  subst hvals
  refine ⟨.int .i64 (b.count c : Nat), ?_, rfl, by simp [toks]⟩
  rw [← count_ci hw c hc]
  cases A with
  | none =>
    have hb : b = [] := by
      rcases hR with h | ⟨_, _, _, h, _⟩
      · simpa using h
      · cases h
    subst hb
    rfl
  | some a =>
    have hcell : ∀ i, i < b.length → w.cell? (a.add i) = some (.int .u8 ((ci b).getD i 0)) := by
      intro i hi
      rcases hR with h | ⟨blk, off, vs, h, hr, hv⟩
      · rw [List.map_eq_nil_iff.1 h] at hi
        simp at hi
      · obtain rfl : s = 1 := hs.resolve_right (by omega)
        cases h
        have hv2 := VRe_ints (toInts_u8 b) hv
        have e3 : (⟨blk, off, none⟩ : Addr).add i = ⟨blk, off + i, none⟩ := by
          unfold Addr.add
          split
          · rename_i h; simp [h]
          · rfl
        rw [e3]
        refine hr.cell (j := i) ?_
        rw [hv2, List.getElem?_map, List.getD_eq_getElem?_getD]
        have : i < (ci b).length := by simpa using hi
        rw [List.getElem?_eq_getElem this]
        rfl
    have := Lib.run_countAt (P := Try.prog) w a b.length cap (ci b) (by simp) hcell c
    simpa using this
end Go.Proofs.Ytdphjapaoaokmaa.E
/- Quotes counted; places; all records. -/
namespace Go.Proofs.Ytdphjapaoaokmaa.E
open Go Go.RowKit Go.Proofs
set_option linter.unusedVariables false
set_option linter.unusedSimpArgs false
theorem count_ok {s : Nat} {xs : List PV} {o q : Bool} {b : List Nat} (hx : xs = b.map u8) (hs : s = 1 ∨ b.length = 0) (hw : ∀ x ∈ b, x < 256) (c : Nat) (hc : c < 256) :
    PSpec Try.prog 20 [.lst s xs o, .lst 1 [.int .u8 c] q] (.int .i64 (b.count c : Nat)) := by
  intro H
  have ce := countE_ok (o := false) hx hs hw c hc
  refine spec_of t20 (by simp [p20]) ?_
  simp only [p20]
  first | refine pwp_sr ?_ | refine pwp_regionM ?_
  intro K hK
  simp (disch := first | (refine Ok.mk ?_; (try simp only [Lm, La, Lc, Ln, Lt, Ld, Lr, Li, true_or, or_true, true_and, and_true]); omega) | (simp <;> fail) | skip) [runM_nil]
  refine hK _ _ ?_
  clear hK K
  first | refine pwp_rif ?_ | refine pwp_rifE ?_
  intro K hK
  simp (disch := first | (refine Ok.mk ?_; (try simp only [Lm, La, Lc, Ln, Lt, Ld, Lr, Li, true_or, or_true, true_and, and_true]); omega) | (simp <;> fail) | skip) [runM_nil]
  refine hK _ _ ?_
  clear hK K
  refine ifF (by simp [runM_nil]) (pwp_skip ?_)
  first | refine pwp_rif ?_ | refine pwp_rifE ?_
  intro K hK
  simp (disch := first | (refine Ok.mk ?_; (try simp only [Lm, La, Lc, Ln, Lt, Ld, Lr, Li, true_or, or_true, true_and, and_true]); omega) | (simp <;> fail) | skip) [runM_nil]
  refine hK _ _ ?_
  clear hK K
  refine ifT (by simp [runM_nil]) ?_
  first | refine pwp_sr ?_ | refine pwp_regionM ?_
  intro K hK
  simp (disch := first | (refine Ok.mk ?_; (try simp only [Lm, La, Lc, Ln, Lt, Ld, Lr, Li, true_or, or_true, true_and, and_true]); omega) | (simp <;> fail) | skip) [runM_nil]
  refine useP (ce) ?_
  simp (disch := first | (refine Ok.mk ?_; (try simp only [Lm, La, Lc, Ln, Lt, Ld, Lr, Li, true_or, or_true, true_and, and_true]); omega) | (simp <;> fail) | skip) [runM_nil]
  refine hK _ _ ?_
  clear hK K
  refine pwp_retT ⟨.inr rfl, _, _, (by simp (disch := first | (refine Ok.mk ?_; (try simp only [Lm, La, Lc, Ln, Lt, Ld, Lr, Li, true_or, or_true, true_and, and_true]); omega) | (simp <;> fail) | skip) [runM_nil, resL]; rfl), .refl _, by simp (disch := first | (refine Ok.mk ?_; (try simp only [Lm, La, Lc, Ln, Lt, Ld, Lr, Li, true_or, or_true, true_and, and_true]); omega) | (simp <;> fail) | skip) [resV], rfl⟩
theorem parM_count : ∀ (l : List Nat) (p : Bool), parM p l = (p != decide (l.count 34 % 2 = 1))
  | [], p => by simp [parM]
  | c :: l, p => by
    rw [parM, parM_count l, List.count_cons]
    by_cases h : c = 34
    · subst h
      have h2 : (l.count 34 + 1) % 2 = 1 ↔ ¬ l.count 34 % 2 = 1 := by omega
      by_cases h3 : l.count 34 % 2 = 1
      · have h4 : ¬ (l.count 34 + 1) % 2 = 1 := by omega
        cases p <;> simp [h3, h4]
      · have h4 : (l.count 34 + 1) % 2 = 1 := by omega
        cases p <;> simp [h3, h4]
    · simp [h]
theorem inside_ok {s : Nat} {xs : List PV} {o : Bool} {b : List Nat} (hx : xs = b.map u8) (hs : s = 1 ∨ b.length = 0) (hw : ∀ x ∈ b, x < 256) (hl : b.length ≤ 1000000) (k : Nat) (hk : k ≤ b.length) :
    PSpec Try.prog 13 [.lst s xs o, .int .i64 k] (.bool (par b k)) := by
  intro H
  have hxl : xs.length = b.length := by rw [hx, List.length_map]
  have hs2 : s = 1 ∨ xs.length = 0 := by rw [hxl]; exact hs
  have hkx : k ≤ xs.length := by omega
  have htk : xs.take k = (b.take k).map u8 := by rw [hx, List.map_take]
  have hp : par b k = decide ((b.take k).count 34 % 2 = 1) := by rw [par, parM_count]; simp
  rw [hp]
  have hcl : (b.take k).count 34 ≤ 1000000 := by
    have := List.count_le_length (a := 34) (l := b.take k)
    rw [List.length_take] at this
    omega
  have c := count_ok (o := false) (q := false) (xs := (b.take k).map u8) rfl (hs.imp id fun h => by rw [List.length_take]; omega) (fun x hx => hw x (List.mem_of_mem_take hx)) 34 (by omega)
  have m1 : (if (0 : Int) < k then (k : Int) else 0) = k := by split <;> omega
  have m2 : (if (k : Int) < 0 then (0 : Int) else k) = k := by split <;> omega
  have m3 : (if (b.length : Int) < k then (b.length : Int) else k) = k := by split <;> omega
  generalize (b.take k).count 34 = n at *
  generalize (b.take k).map u8 = T at *
  refine spec_of t13 (by simp [p13]) ?_
  simp only [p13]
  first | refine pwp_sr ?_ | refine pwp_regionM ?_
  intro K hK
  simp (disch := first | (refine Ok.mk ?_; (try simp only [Lm, La, Lc, Ln, Lt, Ld, Lr, Li, true_or, or_true, true_and, and_true]); omega) | (simp <;> fail) | skip) [runM_nil]
  refine hK _ _ ?_
  clear hK K
  first | refine pwp_sr ?_ | refine pwp_regionM ?_
  intro K hK
  simp (disch := first | (refine Ok.mk ?_; (try simp only [Lm, La, Lc, Ln, Lt, Ld, Lr, Li, true_or, or_true, true_and, and_true]); omega) | (simp <;> fail) | skip) [runM_nil, hxl, m1, m2, m3, htk]
  refine useP (c) ?_
  simp (disch := first | (refine Ok.mk ?_; (try simp only [Lm, La, Lc, Ln, Lt, Ld, Lr, Li, true_or, or_true, true_and, and_true]); omega) | (simp <;> fail) | skip) [runM_nil, hxl, m1, m2, m3, htk]
  refine hK _ _ ?_
  clear hK K
  by_cases h1 : n % 2 = 1
  · have i1 : (n : Int) % 2 = 1 := by omega
    refine pwp_ret ⟨.inr rfl, _, _, (by simp (disch := first | (refine Ok.mk ?_; (try simp only [Lm, La, Lc, Ln, Lt, Ld, Lr, Li, true_or, or_true, true_and, and_true]); omega) | (simp <;> fail) | skip) [runM_nil, resL, h1, i1]; rfl), .refl _, by simp (disch := first | (refine Ok.mk ?_; (try simp only [Lm, La, Lc, Ln, Lt, Ld, Lr, Li, true_or, or_true, true_and, and_true]); omega) | (simp <;> fail) | skip) [resV, h1, i1], rfl⟩
  · have i1 : ¬ (n : Int) % 2 = 1 := by omega
    refine pwp_ret ⟨.inr rfl, _, _, (by simp (disch := first | (refine Ok.mk ?_; (try simp only [Lm, La, Lc, Ln, Lt, Ld, Lr, Li, true_or, or_true, true_and, and_true]); omega) | (simp <;> fail) | skip) [runM_nil, resL, h1, i1]; rfl), .refl _, by simp (disch := first | (refine Ok.mk ?_; (try simp only [Lm, La, Lc, Ln, Lt, Ld, Lr, Li, true_or, or_true, true_and, and_true]); omega) | (simp <;> fail) | skip) [resV, h1, i1], rfl⟩
/-- The places by which is split: those of the list that lie between. -/
def cutsTo (l : List Int) (k : Nat) : List Nat := 0 :: (List.range k).filter fun j => decide (0 < j ∧ (j : Int) ∈ l)
def cutsB (n : Nat) (l : List Int) : List Nat := cutsTo l n ++ if 0 < n then [n] else []
theorem cutsTo_one (l : List Int) {k : Nat} (h : k ≤ 1) : cutsTo l k = [0] := by
  unfold cutsTo
  rw [List.cons.injEq]
  refine ⟨rfl, ?_⟩
  rw [List.filter_eq_nil_iff]
  intro j hj
  have := List.mem_range.1 hj
  simp
  omega
theorem cutsTo_succ (l : List Int) {k : Nat} (h : 0 < k) : cutsTo l (k + 1) = cutsTo l k ++ if (k : Int) ∈ l then [k] else [] := by
  unfold cutsTo
  rw [List.range_succ, List.filter_append, List.cons_append]
  congr 2
  by_cases hm : (k : Int) ∈ l
  · simp [hm, h]
  · simp [hm]
theorem cutsTo_len (l : List Int) (k : Nat) : (cutsTo l k).length ≤ k + 1 := by
  unfold cutsTo
  rw [List.length_cons]
  have := List.length_filter_le (fun j : Nat => decide (0 < j ∧ (j : Int) ∈ l)) (List.range k)
  rw [List.length_range] at this
  omega
def nV (n : Nat) : PV := .int .i64 n
def zV (n : Int) : PV := .int .i64 n
theorem cuts_ok (n : Nat) (hn : n ≤ 1000000) {l : List Int} (hll : l.length ≤ 1000000) {o : Bool} : PSpec Try.prog 12 [.int .i64 n, .lst 1 (l.map zV) o] (.lst 1 ((cutsB n l).map nV) true) := by
  intro H
  have hpl : (l.map zV).length = l.length := List.length_map _
  have hge : ∀ i (h : i < l.length), (l.map zV)[i]? = some (.int .i64 l[i]) := fun i h => by rw [List.getElem?_map, List.getElem?_eq_getElem h]; rfl
  refine spec_of t12 (by simp [p12]) ?_
  simp only [p12]
  generalize l.map zV = es at *
  first | refine pwp_sr ?_ | refine pwp_regionM ?_
  intro K hK
  simp (disch := first | (refine Ok.mk ?_; (try simp only [Lm, La, Lc, Ln, Lt, Ld, Lr, Li, true_or, or_true, true_and, and_true]); omega) | (simp <;> fail) | skip) [runM_nil]
  refine hK _ _ ?_
  clear hK K
  first | refine pwp_sr ?_ | refine pwp_regionM ?_
  intro K hK
  simp (disch := first | (refine Ok.mk ?_; (try simp only [Lm, La, Lc, Ln, Lt, Ld, Lr, Li, true_or, or_true, true_and, and_true]); omega) | (simp <;> fail) | skip) [runM_nil]
  refine hK _ _ ?_
  clear hK K
  refine pwp_seq (pwp_seq ?_)
  first | refine pwp_sr ?_ | refine pwp_regionM ?_
  intro K hK
  simp (disch := first | (refine Ok.mk ?_; (try simp only [Lm, La, Lc, Ln, Lt, Ld, Lr, Li, true_or, or_true, true_and, and_true]); omega) | (simp <;> fail) | skip) [runM_nil]
  refine hK _ _ ?_
  clear hK K
  refine pwp_block ?_
  refine pwp_loopK [0, 1, 5, 6] (fun q st H' => ∃ k : Nat, 1 ≤ k ∧ (n = 0 ∧ k = 1 ∨ k ≤ n) ∧ q = n - k ∧ H' = H ∧ st = MS 37 [(0, .int .i64 n), (1, .lst 1 es o), (5, .lst 1 ((cutsTo l k).map nV) true), (6, .int .i64 k)]) (n := n - 1)
    ⟨_, .refl _, 1, Nat.le_refl _, by omega, rfl, rfl, by simp [keepL_MS, keepA, getS, cutsTo_one, nV]⟩ ?_
  rintro q st H' ⟨k, hk1, hkn, rfl, hH, rfl⟩
  subst hH
  refine pwp_seq ?_
  have hlen := cutsTo_len l k
  by_cases hlt : k < n
  · have hsu := cutsTo_succ l (show 0 < k by omega)
    generalize cutsTo l k = A at *
    first | refine pwp_sr ?_ | refine pwp_regionM ?_
    intro K hK
    simp (disch := first | (refine Ok.mk ?_; (try simp only [Lm, La, Lc, Ln, Lt, Ld, Lr, Li, true_or, or_true, true_and, and_true]); omega) | (simp <;> fail) | skip) [runM_nil]
    refine hK _ _ ?_
    clear hK K
    refine pwp_cT (by simp) (pwp_skip ?_)
    refine pwp_seq (pwp_block ?_)
    first | refine pwp_sr ?_ | refine pwp_regionM ?_
    intro K hK
    simp (disch := first | (refine Ok.mk ?_; (try simp only [Lm, La, Lc, Ln, Lt, Ld, Lr, Li, true_or, or_true, true_and, and_true]); omega) | (simp <;> fail) | skip) [runM_nil]
    refine hK _ _ ?_
    clear hK K
    refine pwp_block ?_
    refine pwp_loopK [0, 1, 5, 6, 7] (fun q st H2 => ∃ i : Nat, i ≤ l.length ∧ (k : Int) ∉ l.take i ∧ q = l.length - i ∧ H2 = H' ∧ st = MS 37 [(0, .int .i64 n), (1, .lst 1 es o), (5, .lst 1 (A.map nV) true), (6, .int .i64 k), (7, .int .i64 i)]) (n := l.length)
      ⟨_, .refl _, 0, Nat.zero_le _, by simp, rfl, rfl, by simp [keepL_MS, keepA, getS]⟩ ?_
    rintro q st H2 ⟨i, hi, hni, rfl, hH, rfl⟩
    subst hH
    refine pwp_seq ?_
    by_cases hil : i < l.length
    · have g1 := hge i hil
      have hts := List.take_succ_eq_append_getElem hil
      have hmem := List.getElem_mem hil
      generalize l[i] = e at *
      first | refine pwp_sr ?_ | refine pwp_regionM ?_
      intro K hK
      simp (disch := first | (refine Ok.mk ?_; (try simp only [Lm, La, Lc, Ln, Lt, Ld, Lr, Li, true_or, or_true, true_and, and_true]); omega) | (simp <;> fail) | skip) [runM_nil, hpl]
      refine hK _ _ ?_
      clear hK K
      refine pwp_cT (by simp) (pwp_skip ?_)
      refine pwp_seq (pwp_block ?_)
      by_cases he : e = k
      · subst he
        rw [if_pos hmem] at hsu
        first | refine pwp_rif ?_ | refine pwp_rifE ?_
        intro K hK
        simp (disch := first | (refine Ok.mk ?_; (try simp only [Lm, La, Lc, Ln, Lt, Ld, Lr, Li, true_or, or_true, true_and, and_true]); omega) | (simp <;> fail) | skip) [runM_nil, g1, hpl]
        refine hK _ _ ?_
        clear hK K
        refine ifT (by simp [runM_nil]) ?_
        first | refine pwp_sr ?_ | refine pwp_regionM ?_
        intro K hK
        simp (disch := first | (refine Ok.mk ?_; (try simp only [Lm, La, Lc, Ln, Lt, Ld, Lr, Li, true_or, or_true, true_and, and_true]); omega) | (simp <;> fail) | skip) [runM_nil]
        refine hK _ _ ?_
        clear hK K
        refine pwp_exit ?_
        first | refine pwp_sr ?_ | refine pwp_regionM ?_
        intro K hK
        simp (disch := first | (refine Ok.mk ?_; (try simp only [Lm, La, Lc, Ln, Lt, Ld, Lr, Li, true_or, or_true, true_and, and_true]); omega) | (simp <;> fail) | skip) [runM_nil]
        refine hK _ _ ?_
        clear hK K
        exact ⟨n - (k + 1), by omega, _, .refl _, k + 1, by omega, by omega, rfl, rfl, by simp [keepL_MS, keepA, getS, hsu, nV]⟩
      · first | refine pwp_rif ?_ | refine pwp_rifE ?_
        intro K hK
        simp (disch := first | (refine Ok.mk ?_; (try simp only [Lm, La, Lc, Ln, Lt, Ld, Lr, Li, true_or, or_true, true_and, and_true]); omega) | (simp <;> fail) | skip) [runM_nil, g1, hpl, he]
        refine hK _ _ ?_
        clear hK K
        refine ifF (by simp [runM_nil, he]) (pwp_skip ?_)
        first | refine pwp_sr ?_ | refine pwp_regionM ?_
        intro K hK
        simp (disch := first | (refine Ok.mk ?_; (try simp only [Lm, La, Lc, Ln, Lt, Ld, Lr, Li, true_or, or_true, true_and, and_true]); omega) | (simp <;> fail) | skip) [runM_nil]
        refine hK _ _ ?_
        clear hK K
        refine ⟨l.length - (i + 1), by omega, _, .refl _, i + 1, by omega, ?_, rfl, rfl, by simp [keepL_MS, keepA, getS]⟩
        rw [hts]
        intro hm
        rcases List.mem_append.1 hm with hm | hm
        · exact hni hm
        · simp only [List.mem_singleton] at hm
          exact he hm.symm
    · obtain rfl : i = l.length := by omega
      rw [List.take_length] at hni
      rw [if_neg hni, List.append_nil] at hsu
      first | refine pwp_sr ?_ | refine pwp_regionM ?_
      intro K hK
      simp (disch := first | (refine Ok.mk ?_; (try simp only [Lm, La, Lc, Ln, Lt, Ld, Lr, Li, true_or, or_true, true_and, and_true]); omega) | (simp <;> fail) | skip) [runM_nil, hpl]
      refine hK _ _ ?_
      clear hK K
      refine pwp_cF (by simp) (pwp_exit ?_)
      first | refine pwp_sr ?_ | refine pwp_regionM ?_
      intro K hK
      simp (disch := first | (refine Ok.mk ?_; (try simp only [Lm, La, Lc, Ln, Lt, Ld, Lr, Li, true_or, or_true, true_and, and_true]); omega) | (simp <;> fail) | skip) [runM_nil]
      refine hK _ _ ?_
      clear hK K
      exact ⟨n - (k + 1), by omega, _, .refl _, k + 1, by omega, by omega, rfl, rfl, by simp [keepL_MS, keepA, getS, hsu]⟩
  · first | refine pwp_sr ?_ | refine pwp_regionM ?_
    intro K hK
    simp (disch := first | (refine Ok.mk ?_; (try simp only [Lm, La, Lc, Ln, Lt, Ld, Lr, Li, true_or, or_true, true_and, and_true]); omega) | (simp <;> fail) | skip) [runM_nil]
    refine hK _ _ ?_
    clear hK K
    refine pwp_cF (by simp) (pwp_exit ?_)
    rcases Nat.eq_zero_or_pos n with h0 | h0
    · subst h0
      obtain rfl : k = 1 := by omega
      have hc : cutsB 0 l = cutsTo l 1 := by rw [cutsB, cutsTo_one l (by omega), cutsTo_one l (by omega)]; simp
      first | refine pwp_rif ?_ | refine pwp_rifE ?_
      intro K hK
      simp (disch := first | (refine Ok.mk ?_; (try simp only [Lm, La, Lc, Ln, Lt, Ld, Lr, Li, true_or, or_true, true_and, and_true]); omega) | (simp <;> fail) | skip) [runM_nil]
      refine hK _ _ ?_
      clear hK K
      refine ifF (by simp [runM_nil]) (pwp_skip ?_)
      first | refine pwp_sr ?_ | refine pwp_regionM ?_
      intro K hK
      simp (disch := first | (refine Ok.mk ?_; (try simp only [Lm, La, Lc, Ln, Lt, Ld, Lr, Li, true_or, or_true, true_and, and_true]); omega) | (simp <;> fail) | skip) [runM_nil]
      refine hK _ _ ?_
      clear hK K
      refine pwp_ret ⟨.inr rfl, _, _, (by simp (disch := first | (refine Ok.mk ?_; (try simp only [Lm, La, Lc, Ln, Lt, Ld, Lr, Li, true_or, or_true, true_and, and_true]); omega) | (simp <;> fail) | skip) [runM_nil, resL, hc]; rfl), .refl _, by simp (disch := first | (refine Ok.mk ?_; (try simp only [Lm, La, Lc, Ln, Lt, Ld, Lr, Li, true_or, or_true, true_and, and_true]); omega) | (simp <;> fail) | skip) [resV, hc], rfl⟩
    · obtain rfl : k = n := by omega
      have hc : cutsB k l = cutsTo l k ++ [k] := by rw [cutsB, if_pos h0]
      have h00 : (0 : Int) < k := by omega
      first | refine pwp_rif ?_ | refine pwp_rifE ?_
      intro K hK
      simp (disch := first | (refine Ok.mk ?_; (try simp only [Lm, La, Lc, Ln, Lt, Ld, Lr, Li, true_or, or_true, true_and, and_true]); omega) | (simp <;> fail) | skip) [runM_nil, h00]
      refine hK _ _ ?_
      clear hK K
      refine ifT (by simp [runM_nil, h00]) ?_
      first | refine pwp_sr ?_ | refine pwp_regionM ?_
      intro K hK
      simp (disch := first | (refine Ok.mk ?_; (try simp only [Lm, La, Lc, Ln, Lt, Ld, Lr, Li, true_or, or_true, true_and, and_true]); omega) | (simp <;> fail) | skip) [runM_nil]
      refine hK _ _ ?_
      clear hK K
      first | refine pwp_sr ?_ | refine pwp_regionM ?_
      intro K hK
      simp (disch := first | (refine Ok.mk ?_; (try simp only [Lm, La, Lc, Ln, Lt, Ld, Lr, Li, true_or, or_true, true_and, and_true]); omega) | (simp <;> fail) | skip) [runM_nil]
      refine hK _ _ ?_
      clear hK K
      refine pwp_ret ⟨.inr rfl, _, _, (by simp (disch := first | (refine Ok.mk ?_; (try simp only [Lm, La, Lc, Ln, Lt, Ld, Lr, Li, true_or, or_true, true_and, and_true]); omega) | (simp <;> fail) | skip) [runM_nil, resL, hc, nV]; rfl), .refl _, by simp (disch := first | (refine Ok.mk ?_; (try simp only [Lm, La, Lc, Ln, Lt, Ld, Lr, Li, true_or, or_true, true_and, and_true]); omega) | (simp <;> fail) | skip) [resV, hc, nV], rfl⟩
theorem all_ok {l : List (Nat × List (List Nat))} (hl : l.length ≤ 1000000) {o : Bool} : PSpec Try.prog 14 [.lst 2 (l.map pcV) o] (.lst 1 (rowsC (l.map (·.2))) true) := by
  intro H
  have hpl : (l.map pcV).length = l.length := List.length_map _
  have hge : ∀ i (h : i < l.length), (l.map pcV)[i]? = some (.agg [.int .i64 l[i].1, .lst 1 [.lst 1 (l[i].2.map sV) false] false]) := fun i h => by rw [List.getElem?_map, List.getElem?_eq_getElem h]; rfl
  refine spec_of t14 (by simp [p14]) ?_
  simp only [p14]
  generalize l.map pcV = es at *
  first | refine pwp_sr ?_ | refine pwp_regionM ?_
  intro K hK
  simp (disch := first | (refine Ok.mk ?_; (try simp only [Lm, La, Lc, Ln, Lt, Ld, Lr, Li, true_or, or_true, true_and, and_true]); omega) | (simp <;> fail) | skip) [runM_nil]
  refine hK _ _ ?_
  clear hK K
  first | refine pwp_sr ?_ | refine pwp_regionM ?_
  intro K hK
  simp (disch := first | (refine Ok.mk ?_; (try simp only [Lm, La, Lc, Ln, Lt, Ld, Lr, Li, true_or, or_true, true_and, and_true]); omega) | (simp <;> fail) | skip) [runM_nil]
  refine hK _ _ ?_
  clear hK K
  refine pwp_seq (pwp_seq ?_)
  first | refine pwp_sr ?_ | refine pwp_regionM ?_
  intro K hK
  simp (disch := first | (refine Ok.mk ?_; (try simp only [Lm, La, Lc, Ln, Lt, Ld, Lr, Li, true_or, or_true, true_and, and_true]); omega) | (simp <;> fail) | skip) [runM_nil]
  refine hK _ _ ?_
  clear hK K
  refine pwp_block ?_
  refine pwp_loopK [0, 3, 4] (fun m st H' => ∃ i, i ≤ l.length ∧ m = l.length - i ∧ H' = H ∧ st = MS 20 [(0, .lst 2 es o), (3, .lst 1 (rowsC ((l.take i).map (·.2))) true), (4, .int .i64 i)]) (n := l.length)
    ⟨_, .refl _, 0, Nat.zero_le _, rfl, rfl, by simp [keepL_MS, keepA, getS, rowsC]⟩ ?_
  rintro m st H1 ⟨i, hi, rfl, rfl, rfl⟩
  refine pwp_seq ?_
  by_cases hlt : i < l.length
  · have g1 := hge i hlt
    have hs : (l.take (i + 1)).map (·.2) = (l.take i).map (·.2) ++ [l[i].2] := by rw [List.take_succ_eq_append_getElem hlt, List.map_append]; rfl
    have hrl : (rowsC ((l.take i).map (·.2))).length ≤ i := by simp [rowsC]; omega
    generalize (l.take i).map (·.2) = A at *
    generalize l[i] = e at *
    obtain ⟨k, r⟩ := e
    dsimp only at *
    first | refine pwp_sr ?_ | refine pwp_regionM ?_
    intro K hK
    simp (disch := first | (refine Ok.mk ?_; (try simp only [Lm, La, Lc, Ln, Lt, Ld, Lr, Li, true_or, or_true, true_and, and_true]); omega) | (simp <;> fail) | skip) [runM_nil, hpl]
    refine hK _ _ ?_
    clear hK K
    refine pwp_cT (by simp) (pwp_skip ?_)
    refine pwp_seq (pwp_block ?_)
    first | refine pwp_sr ?_ | refine pwp_regionM ?_
    intro K hK
    simp (disch := first | (refine Ok.mk ?_; (try simp only [Lm, La, Lc, Ln, Lt, Ld, Lr, Li, true_or, or_true, true_and, and_true]); omega) | (simp <;> fail) | skip) [runM_nil, g1, hpl]
    refine hK _ _ ?_
    clear hK K
    first | refine pwp_sr ?_ | refine pwp_regionM ?_
    intro K hK
    simp (disch := first | (refine Ok.mk ?_; (try simp only [Lm, La, Lc, Ln, Lt, Ld, Lr, Li, true_or, or_true, true_and, and_true]); omega) | (simp <;> fail) | skip) [runM_nil]
    refine hK _ _ ?_
    clear hK K
    exact ⟨l.length - (i + 1), by omega, _, .refl _, i + 1, by omega, rfl, rfl, by simp [keepL_MS, keepA, getS, hs, rowsC]⟩
  · obtain rfl : i = l.length := by omega
    rw [List.take_length]
    first | refine pwp_sr ?_ | refine pwp_regionM ?_
    intro K hK
    simp (disch := first | (refine Ok.mk ?_; (try simp only [Lm, La, Lc, Ln, Lt, Ld, Lr, Li, true_or, or_true, true_and, and_true]); omega) | (simp <;> fail) | skip) [runM_nil, hpl]
    refine hK _ _ ?_
    clear hK K
    refine pwp_cF (by simp) (pwp_exit ?_)
    first | refine pwp_sr ?_ | refine pwp_regionM ?_
    intro K hK
    simp (disch := first | (refine Ok.mk ?_; (try simp only [Lm, La, Lc, Ln, Lt, Ld, Lr, Li, true_or, or_true, true_and, and_true]); omega) | (simp <;> fail) | skip) [runM_nil]
    refine hK _ _ ?_
    clear hK K
    refine pwp_ret ⟨.inr rfl, _, _, (by simp (disch := first | (refine Ok.mk ?_; (try simp only [Lm, La, Lc, Ln, Lt, Ld, Lr, Li, true_or, or_true, true_and, and_true]); omega) | (simp <;> fail) | skip) [runM_nil, resL]; rfl), .refl _, by simp (disch := first | (refine Ok.mk ?_; (try simp only [Lm, La, Lc, Ln, Lt, Ld, Lr, Li, true_or, or_true, true_and, and_true]); omega) | (simp <;> fail) | skip) [resV], rfl⟩
end Go.Proofs.Ytdphjapaoaokmaa.E
/- What the splits of a file read, in order, is its right part. -/
namespace Go.Proofs.Ytdphjapaoaokmaa.E
open Go Go.RowKit Go.Proofs
set_option linter.unusedVariables false
set_option linter.unusedSimpArgs false
theorem scanB_sorted {b : List Nat} (hw : ∀ x ∈ b, x < 256) : ∀ (n k : Nat), b.length - k ≤ n → Bd b k → (scanB b k).1.Pairwise (fun p q => p.1 < q.1)
  | 0, k, hn, h => by
    obtain rfl : k = b.length := by have := h.le; omega
    rw [scanB_end]
    exact .nil
  | n + 1, k, hn, h => by
    by_cases hk : k < b.length
    · by_cases he : (recM b k).2.2 = 0
      · obtain ⟨h2, hE⟩ := h.next hw he
        have h3 := hE.lt hk
        obtain ⟨_, _, i3⟩ := scanB_facts hw n (recM b k).2.1 (by omega) h2
        rw [scanB_step hw hk h.par he]
        refine .cons (fun q hq => ?_) (scanB_sorted hw n _ (by omega) h2)
        have := (i3 q hq).1
        show k < q.1
        omega
      · rw [scanB_bad hk he]
        exact .nil
    · obtain rfl : k = b.length := by have := h.le; omega
      rw [scanB_end]
      exact .nil
theorem scanB_err {b : List Nat} (hw : ∀ x ∈ b, x < 256) : ∀ (n k : Nat), b.length - k ≤ n → Bd b k → ((scanB b k).2.2 = 0 ↔ (scanB b k).2.1 = b.length)
  | 0, k, hn, h => by
    obtain rfl : k = b.length := by have := h.le; omega
    rw [scanB_end]
    simp
  | n + 1, k, hn, h => by
    by_cases hk : k < b.length
    · by_cases he : (recM b k).2.2 = 0
      · obtain ⟨h2, hE⟩ := h.next hw he
        have h3 := hE.lt hk
        rw [scanB_step hw hk h.par he]
        exact scanB_err hw n _ (by omega) h2
      · rw [scanB_bad hk he]
        exact ⟨fun h => absurd h he, fun h => by dsimp only at h; omega⟩
    · obtain rfl : k = b.length := by have := h.le; omega
      rw [scanB_end]
      simp
theorem ofB_nil {l : List (Nat × List (List Nat))} {f t : Nat} (h : ∀ p ∈ l, ¬ (f ≤ p.1 ∧ p.1 < t)) : ofB l f t = [] := by
  unfold ofB
  rw [List.map_eq_nil_iff, List.filter_eq_nil_iff]
  intro p hp
  simpa using h p hp
theorem ofB_join : ∀ (l : List (Nat × List (List Nat))), l.Pairwise (fun p q => p.1 < q.1) → ∀ a c : Nat, a ≤ c → ofB l 0 a ++ ofB l a c = ofB l 0 c
  | [], _, a, c, h => rfl
  | p :: l, hp, a, c, h => by
    obtain ⟨h1, h2⟩ := List.pairwise_cons.1 hp
    have ih := ofB_join l h2 a c h
    have e : ∀ f t : Nat, ofB (p :: l) f t = if f ≤ p.1 ∧ p.1 < t then p.2 :: ofB l f t else ofB l f t := fun f t => by
      unfold ofB
      by_cases hc : f ≤ p.1 ∧ p.1 < t
      · rw [if_pos hc, List.filter_cons_of_pos (by simpa using hc)]
        rfl
      · rw [if_neg hc, List.filter_cons_of_neg (by simpa using hc)]
    rw [e, e, e]
    by_cases ha : p.1 < a
    · rw [if_pos ⟨Nat.zero_le _, ha⟩, if_neg (by omega), if_pos ⟨Nat.zero_le _, by omega⟩, List.cons_append, ih]
    · have hn : ofB l 0 a = [] := ofB_nil fun q hq => by have := h1 q hq; omega
      rw [if_neg (by omega), hn, List.nil_append]
      rw [hn, List.nil_append] at ih
      by_cases hc : p.1 < c
      · rw [if_pos ⟨by omega, hc⟩, if_pos ⟨Nat.zero_le _, hc⟩, ih]
      · rw [if_neg (by omega), if_neg (by omega), ih]
theorem ofB_all {l : List (Nat × List (List Nat))} {n : Nat} (h : ∀ p ∈ l, p.1 < n) : ofB l 0 n = l.map (·.2) := by
  unfold ofB
  rw [List.filter_eq_self.2]
  intro p hp
  have := h p hp
  simpa using this
theorem cutsB_facts (n : Nat) (l : List Int) : (cutsB n l).Pairwise (· ≤ ·) ∧ (∀ x ∈ cutsB n l, x ≤ n) ∧ (cutsB n l)[0]? = some 0 ∧ (cutsB n l)[(cutsB n l).length - 1]? = some n ∧ 1 ≤ (cutsB n l).length ∧ (cutsB n l).length ≤ n + 2 := by
  have h1 : ∀ k, (cutsTo l k).Pairwise (· ≤ ·) := fun k => by
    refine .cons (fun x _ => Nat.zero_le x) ?_
    exact (List.Pairwise.filter _ List.pairwise_lt_range).imp fun h => Nat.le_of_lt h
  have h2 : ∀ k, ∀ x ∈ cutsTo l k, x ≤ k := fun k x hx => by
    rcases List.mem_cons.1 hx with rfl | hx
    · exact Nat.zero_le _
    · exact Nat.le_of_lt (List.mem_range.1 (List.mem_filter.1 hx).1)
  have hl := cutsTo_len l n
  unfold cutsB
  by_cases hn : 0 < n
  · rw [if_pos hn]
    refine ⟨List.pairwise_append.2 ⟨h1 n, List.pairwise_singleton _ _, fun x hx y hy => ?_⟩, fun x hx => ?_, rfl, ?_, ?_, ?_⟩
    · simp only [List.mem_singleton] at hy
      rw [hy]
      exact h2 n x hx
    · rcases List.mem_append.1 hx with hx | hx
      · exact h2 n x hx
      · simp only [List.mem_singleton] at hx
        omega
    · rw [List.length_append, List.length_singleton, Nat.add_sub_cancel, List.getElem?_append_right (Nat.le_refl _), Nat.sub_self]
      rfl
    · rw [List.length_append, List.length_singleton]
      omega
    · rw [List.length_append, List.length_singleton]
      omega
  · have h0 : n = 0 := by omega
    subst h0
    rw [if_neg (by omega), List.append_nil, cutsTo_one l (by omega)]
    simp
theorem csvSplits_ok {o q : Bool} {b : List Nat} (hw : ∀ x ∈ b, x < 256) (hl0 : b.length ≤ 140737488351232) {cs : List Int} (hcl : cs.length ≤ 140737488351232) :
    PSpec Try.prog 4 [.lst 1 (b.map u8) o, .lst 1 (cs.map zV) q] (.bool true) := by
  intro H
  have hmix := mix06
  have ca := alive_ok
  have hzl : (cs.map zV).length = cs.length := List.length_map _
  have cc := fun (h : b.length ≤ 1000000) (h2 : cs.length ≤ 1000000) => cuts_ok b.length h h2 (o := false)
  refine spec_of t4 (by simp [p4]) ?_
  simp only [p4]
  generalize cs.map zV = zs at *
  first | refine pwp_sr ?_ | refine pwp_regionM ?_
  intro K hK
  simp (disch := first | (refine Ok.mk ?_; (try simp only [Lm, La, Lc, Ln, Lt, Ld, Lr, Li, true_or, or_true, true_and, and_true]); omega) | (simp <;> fail) | skip) [runM_nil]
  refine hK _ _ ?_
  clear hK K
  rcases (show 3000 < b.length ∨ ¬ 3000 < b.length ∧ 100 < cs.length ∨ ¬ 3000 < b.length ∧ ¬ 100 < cs.length by omega) with h1 | ⟨h1, h2⟩ | ⟨h1, h2⟩
  · first | refine pwp_rif ?_ | refine pwp_rifE ?_
    intro K hK
    simp (disch := first | (refine Ok.mk ?_; (try simp only [Lm, La, Lc, Ln, Lt, Ld, Lr, Li, true_or, or_true, true_and, and_true]); omega) | (simp <;> fail) | skip) [runM_nil, h1]
    refine hK _ _ ?_
    clear hK K
    refine ifT (by simp (disch := first | (refine Ok.mk ?_; (try simp only [Lm, La, Lc, Ln, Lt, Ld, Lr, Li, true_or, or_true, true_and, and_true]); omega) | (simp <;> fail) | skip) [runM_nil]) ?_
    first | refine pwp_sr ?_ | refine pwp_regionM ?_
    intro K hK
    simp (disch := first | (refine Ok.mk ?_; (try simp only [Lm, La, Lc, Ln, Lt, Ld, Lr, Li, true_or, or_true, true_and, and_true]); omega) | (simp <;> fail) | skip) [runM_nil]
    refine useP (ca) ?_
    simp (disch := first | (refine Ok.mk ?_; (try simp only [Lm, La, Lc, Ln, Lt, Ld, Lr, Li, true_or, or_true, true_and, and_true]); omega) | (simp <;> fail) | skip) [runM_nil]
    refine hK _ _ ?_
    clear hK K
    refine pwp_retT ⟨.inr rfl, _, _, (by simp (disch := first | (refine Ok.mk ?_; (try simp only [Lm, La, Lc, Ln, Lt, Ld, Lr, Li, true_or, or_true, true_and, and_true]); omega) | (simp <;> fail) | skip) [runM_nil, resL]; rfl), .refl _, by simp (disch := first | (refine Ok.mk ?_; (try simp only [Lm, La, Lc, Ln, Lt, Ld, Lr, Li, true_or, or_true, true_and, and_true]); omega) | (simp <;> fail) | skip) [resV], rfl⟩
  · first | refine pwp_rif ?_ | refine pwp_rifE ?_
    intro K hK
    simp (disch := first | (refine Ok.mk ?_; (try simp only [Lm, La, Lc, Ln, Lt, Ld, Lr, Li, true_or, or_true, true_and, and_true]); omega) | (simp <;> fail) | skip) [runM_nil, h1, h2, hzl]
    refine hK _ _ ?_
    clear hK K
    refine ifT (by simp (disch := first | (refine Ok.mk ?_; (try simp only [Lm, La, Lc, Ln, Lt, Ld, Lr, Li, true_or, or_true, true_and, and_true]); omega) | (simp <;> fail) | skip) [runM_nil]) ?_
    first | refine pwp_sr ?_ | refine pwp_regionM ?_
    intro K hK
    simp (disch := first | (refine Ok.mk ?_; (try simp only [Lm, La, Lc, Ln, Lt, Ld, Lr, Li, true_or, or_true, true_and, and_true]); omega) | (simp <;> fail) | skip) [runM_nil]
    refine useP (ca) ?_
    simp (disch := first | (refine Ok.mk ?_; (try simp only [Lm, La, Lc, Ln, Lt, Ld, Lr, Li, true_or, or_true, true_and, and_true]); omega) | (simp <;> fail) | skip) [runM_nil]
    refine hK _ _ ?_
    clear hK K
    refine pwp_retT ⟨.inr rfl, _, _, (by simp (disch := first | (refine Ok.mk ?_; (try simp only [Lm, La, Lc, Ln, Lt, Ld, Lr, Li, true_or, or_true, true_and, and_true]); omega) | (simp <;> fail) | skip) [runM_nil, resL]; rfl), .refl _, by simp (disch := first | (refine Ok.mk ?_; (try simp only [Lm, La, Lc, Ln, Lt, Ld, Lr, Li, true_or, or_true, true_and, and_true]); omega) | (simp <;> fail) | skip) [resV], rfl⟩
  first | refine pwp_rif ?_ | refine pwp_rifE ?_
  intro K hK
  simp (disch := first | (refine Ok.mk ?_; (try simp only [Lm, La, Lc, Ln, Lt, Ld, Lr, Li, true_or, or_true, true_and, and_true]); omega) | (simp <;> fail) | skip) [runM_nil, h1, h2, hzl]
  refine hK _ _ ?_
  clear hK K
  refine ifF (by simp (disch := first | (refine Ok.mk ?_; (try simp only [Lm, La, Lc, Ln, Lt, Ld, Lr, Li, true_or, or_true, true_and, and_true]); omega) | (simp <;> fail) | skip) [runM_nil]) (pwp_skip ?_)
  have c1 := scan_ok (s := 1) (xs := b.map u8) (o := false) (b := b) rfl (.inl rfl) hw (by omega)
  obtain ⟨hg1, hg2, hg3⟩ := scanB_facts hw b.length 0 (by omega) (Bd.zero b)
  have hso := scanB_sorted hw b.length 0 (by omega) (Bd.zero b)
  have her := scanB_err hw b.length 0 (by omega) (Bd.zero b)
  have hln := scanB_len hw b.length 0 (by omega) (Bd.zero b)
  have hall := all_ok (l := (scanB b 0).1) (by omega) (o := false)
  have hsp : ∀ f t : Nat, f ≤ b.length → rdB b t (scanB b 0).2.1 (firstB b f (par b f)) = ofB (scanB b 0).1 f t := fun f t hf => rd_split hw t f hf b.length 0 (by omega) (Bd.zero b) (Nat.zero_le _) _ (by omega)
  have hread : ∀ f t : Nat, f ≤ t → t ≤ b.length → PSpec Try.prog 7 [.lst 1 (b.map u8) false, .int .i64 f, .int .i64 t, .bool (par b f), .int .i64 (scanB b 0).2.1] (.tup [.lst 1 (rowsC (ofB (scanB b 0).1 f t)) true, .int .i64 (if (scanB b 0).2.1 < t then 3 else 0)]) := fun f t h1 h2 => by
    have := read_ok (s := 1) (xs := b.map u8) (o := false) (b := b) rfl (.inl rfl) hw (by omega) f t (scanB b 0).2.1 (par b f) h1 h2 hg2
    rw [hsp f t (by omega)] at this
    exact this
  have hr50 : ∀ r ∈ ofB (scanB b 0).1 0 b.length, r.length ≤ 50 := by
    rw [← hsp 0 b.length (Nat.zero_le _)]
    exact (rdB_facts hw (Nat.le_refl _) _ _ (Nat.le_refl _)).2
  have hoa : ofB (scanB b 0).1 0 b.length = (scanB b 0).1.map (·.2) := ofB_all fun p hp => by have := (hg3 p hp).2; omega
  have cc := cc (by omega) (by omega)
  obtain ⟨k1, k2, k3, k4, k5, k6⟩ := cutsB_facts b.length cs
  simp only [scV] at c1
  generalize scanB b 0 = S at *
  obtain ⟨L, g, e⟩ := S
  dsimp only at *
  generalize hC : cutsB b.length cs = C at *
  have hCl : (C.map nV).length = C.length := List.length_map _
  have hge : ∀ i (h : i < C.length), (C.map nV)[i]? = some (.int .i64 C[i]) := fun i h => by rw [List.getElem?_map, List.getElem?_eq_getElem h]; rfl
  generalize C.map nV = es at *
  first | refine pwp_sr ?_ | refine pwp_regionM ?_
  intro K hK
  simp (disch := first | (refine Ok.mk ?_; (try simp only [Lm, La, Lc, Ln, Lt, Ld, Lr, Li, true_or, or_true, true_and, and_true]); omega) | (simp <;> fail) | skip) [runM_nil]
  refine useP (c1) ?_
  simp (disch := first | (refine Ok.mk ?_; (try simp only [Lm, La, Lc, Ln, Lt, Ld, Lr, Li, true_or, or_true, true_and, and_true]); omega) | (simp <;> fail) | skip) [runM_nil]
  refine hK _ _ ?_
  clear hK K
  first | refine pwp_sr ?_ | refine pwp_regionM ?_
  intro K hK
  simp (disch := first | (refine Ok.mk ?_; (try simp only [Lm, La, Lc, Ln, Lt, Ld, Lr, Li, true_or, or_true, true_and, and_true]); omega) | (simp <;> fail) | skip) [runM_nil]
  refine useP (cc) ?_
  simp (disch := first | (refine Ok.mk ?_; (try simp only [Lm, La, Lc, Ln, Lt, Ld, Lr, Li, true_or, or_true, true_and, and_true]); omega) | (simp <;> fail) | skip) [runM_nil]
  refine hK _ _ ?_
  clear hK K
  first | refine pwp_sr ?_ | refine pwp_regionM ?_
  intro K hK
  simp (disch := first | (refine Ok.mk ?_; (try simp only [Lm, La, Lc, Ln, Lt, Ld, Lr, Li, true_or, or_true, true_and, and_true]); omega) | (simp <;> fail) | skip) [runM_nil]
  refine hK _ _ ?_
  clear hK K
  first | refine pwp_sr ?_ | refine pwp_regionM ?_
  intro K hK
  simp (disch := first | (refine Ok.mk ?_; (try simp only [Lm, La, Lc, Ln, Lt, Ld, Lr, Li, true_or, or_true, true_and, and_true]); omega) | (simp <;> fail) | skip) [runM_nil]
  refine hK _ _ ?_
  clear hK K
  refine pwp_seq (pwp_seq ?_)
  first | refine pwp_sr ?_ | refine pwp_regionM ?_
  intro K hK
  simp (disch := first | (refine Ok.mk ?_; (try simp only [Lm, La, Lc, Ln, Lt, Ld, Lr, Li, true_or, or_true, true_and, and_true]); omega) | (simp <;> fail) | skip) [runM_nil]
  refine hK _ _ ?_
  clear hK K
  refine pwp_block ?_
  refine pwp_loopK [0, 5, 6, 7, 8, 9, 10, 11] (fun q st H' => ∃ (i p : Nat), 1 ≤ i ∧ i ≤ C.length ∧ C[i - 1]? = some p ∧ q = C.length - i ∧ H' = H ∧ st = MS 98 [(0, .lst 1 (b.map u8) o), (5, .lst 2 (L.map pcV) true), (6, .int .i64 g), (7, .int .i64 e), (8, .lst 1 es true),
      (9, .lst 1 (rowsC (ofB L 0 p)) true), (10, .bool (decide (g < p))), (11, .int .i64 i)]) (n := C.length - 1)
    ⟨_, .refl _, 1, 0, Nat.le_refl _, k5, k3, rfl, rfl, by simp [keepL_MS, keepA, getS, ofB_nil, rowsC]⟩ ?_
  rintro qq st H' ⟨i, p, hi1, hi, hp, rfl, hH, rfl⟩
  subst hH
  have hpb : p ≤ b.length := k2 p (List.mem_of_getElem? hp)
  have hpl : (ofB L 0 p).length ≤ 1000000 := by
    have := List.length_filter_le (fun q : Nat × List (List Nat) => decide (0 ≤ q.1 ∧ q.1 < p)) L
    rw [ofB, List.length_map]
    omega
  have hrl : (rowsC (ofB L 0 p)).length = (ofB L 0 p).length := by simp [rowsC]
  refine pwp_seq ?_
  by_cases hlt : i < C.length
  · obtain ⟨hlt0, hp0⟩ := List.getElem?_eq_some_iff.1 hp
    have g0 := hge (i - 1) hlt0
    have g1 := hge i hlt
    have hle : C[i - 1] ≤ C[i] := List.pairwise_iff_getElem.1 k1 (i - 1) i hlt0 hlt (by omega)
    have hcb : C[i] ≤ b.length := k2 _ (List.getElem_mem hlt)
    have hgt : C[i]? = some C[i] := List.getElem?_eq_getElem hlt
    rw [hp0] at g0 hle
    generalize C[i] = t at *
    have hj := ofB_join L hso p t hle
    have c2 := inside_ok (s := 1) (xs := b.map u8) (o := false) (b := b) rfl (.inl rfl) hw (by omega) p hpb
    have c3 := hread p t hle hcb
    have hol : (ofB L p t).length ≤ 1000000 := by
      have := List.length_filter_le (fun q : Nat × List (List Nat) => decide (p ≤ q.1 ∧ q.1 < t)) L
      rw [ofB, List.length_map]
      omega
    have hrl2 : (rowsC (ofB L p t)).length = (ofB L p t).length := by simp [rowsC]
    have hjr : rowsC (ofB L 0 p) ++ rowsC (ofB L p t) = rowsC (ofB L 0 t) := by rw [← hj]; simp [rowsC]
    generalize rowsC (ofB L p t) = X2 at *
    generalize rowsC (ofB L 0 p) = X1 at *
    have e1 : ((i : Int) - 1).toNat = i - 1 := by omega
    generalize par b p = pp at *
    first | refine pwp_sr ?_ | refine pwp_regionM ?_
    intro K hK
    simp (disch := first | (refine Ok.mk ?_; (try simp only [Lm, La, Lc, Ln, Lt, Ld, Lr, Li, true_or, or_true, true_and, and_true]); omega) | (simp <;> fail) | skip) [runM_nil, hCl]
    refine hK _ _ ?_
    clear hK K
    refine pwp_cT (by simp) (pwp_skip ?_)
    refine pwp_seq (pwp_block ?_)
    by_cases hgt2 : g < t
    · rw [if_pos hgt2] at c3
      first | refine pwp_sd hmix ?_ | refine pwp_drawM hmix ?_
      intro K hK
      simp (disch := first | (refine Ok.mk ?_; (try simp only [Lm, La, Lc, Ln, Lt, Ld, Lr, Li, true_or, or_true, true_and, and_true]); omega) | (simp <;> fail) | skip) [runM_nil, hCl, g0, g1, e1]
      refine useD (c2) ?_
      simp (disch := first | (refine Ok.mk ?_; (try simp only [Lm, La, Lc, Ln, Lt, Ld, Lr, Li, true_or, or_true, true_and, and_true]); omega) | (simp <;> fail) | skip) [runM_nil, hCl, g0, g1, e1]
      refine useD (c3) ?_
      simp (disch := first | (refine Ok.mk ?_; (try simp only [Lm, La, Lc, Ln, Lt, Ld, Lr, Li, true_or, or_true, true_and, and_true]); omega) | (simp <;> fail) | skip) [runM_nil, hCl, g0, g1, e1]
      refine hK _ _ ?_
      clear hK K
      first | refine pwp_rif ?_ | refine pwp_rifE ?_
      intro K hK
      simp (disch := first | (refine Ok.mk ?_; (try simp only [Lm, La, Lc, Ln, Lt, Ld, Lr, Li, true_or, or_true, true_and, and_true]); omega) | (simp <;> fail) | skip) [runM_nil]
      refine hK _ _ ?_
      clear hK K
      refine ifF (by simp [runM_nil]) (pwp_skip ?_)
      cases hd : decide (g < p) with
      | true =>
        first | refine pwp_sr ?_ | refine pwp_regionM ?_
        intro K hK
        simp (disch := first | (refine Ok.mk ?_; (try simp only [Lm, La, Lc, Ln, Lt, Ld, Lr, Li, true_or, or_true, true_and, and_true]); omega) | (simp <;> fail) | skip) [runM_nil]
        refine hK _ _ ?_
        clear hK K
        first | refine pwp_sr ?_ | refine pwp_regionM ?_
        intro K hK
        simp (disch := first | (refine Ok.mk ?_; (try simp only [Lm, La, Lc, Ln, Lt, Ld, Lr, Li, true_or, or_true, true_and, and_true]); omega) | (simp <;> fail) | skip) [runM_nil, hrl, hrl2, hjr]
        refine hK _ _ ?_
        clear hK K
        first | refine pwp_sr ?_ | refine pwp_regionM ?_
        intro K hK
        simp (disch := first | (refine Ok.mk ?_; (try simp only [Lm, La, Lc, Ln, Lt, Ld, Lr, Li, true_or, or_true, true_and, and_true]); omega) | (simp <;> fail) | skip) [runM_nil]
        refine hK _ _ ?_
        clear hK K
        exact ⟨C.length - (i + 1), by omega, _, .refl _, i + 1, t, by omega, by omega, by simpa using hgt, rfl, rfl, by simp [keepL_MS, keepA, getS, hjr, hgt2]⟩
      | false =>
        first | refine pwp_sr ?_ | refine pwp_regionM ?_
        intro K hK
        simp (disch := first | (refine Ok.mk ?_; (try simp only [Lm, La, Lc, Ln, Lt, Ld, Lr, Li, true_or, or_true, true_and, and_true]); omega) | (simp <;> fail) | skip) [runM_nil]
        refine hK _ _ ?_
        clear hK K
        first | refine pwp_sr ?_ | refine pwp_regionM ?_
        intro K hK
        simp (disch := first | (refine Ok.mk ?_; (try simp only [Lm, La, Lc, Ln, Lt, Ld, Lr, Li, true_or, or_true, true_and, and_true]); omega) | (simp <;> fail) | skip) [runM_nil, hrl, hrl2, hjr]
        refine hK _ _ ?_
        clear hK K
        first | refine pwp_sr ?_ | refine pwp_regionM ?_
        intro K hK
        simp (disch := first | (refine Ok.mk ?_; (try simp only [Lm, La, Lc, Ln, Lt, Ld, Lr, Li, true_or, or_true, true_and, and_true]); omega) | (simp <;> fail) | skip) [runM_nil]
        refine hK _ _ ?_
        clear hK K
        exact ⟨C.length - (i + 1), by omega, _, .refl _, i + 1, t, by omega, by omega, by simpa using hgt, rfl, rfl, by simp [keepL_MS, keepA, getS, hjr, hgt2]⟩
    · rw [if_neg hgt2] at c3
      have hgp : ¬ g < p := by omega
      first | refine pwp_sd hmix ?_ | refine pwp_drawM hmix ?_
      intro K hK
      simp (disch := first | (refine Ok.mk ?_; (try simp only [Lm, La, Lc, Ln, Lt, Ld, Lr, Li, true_or, or_true, true_and, and_true]); omega) | (simp <;> fail) | skip) [runM_nil, hCl, g0, g1, e1]
      refine useD (c2) ?_
      simp (disch := first | (refine Ok.mk ?_; (try simp only [Lm, La, Lc, Ln, Lt, Ld, Lr, Li, true_or, or_true, true_and, and_true]); omega) | (simp <;> fail) | skip) [runM_nil, hCl, g0, g1, e1]
      refine useD (c3) ?_
      simp (disch := first | (refine Ok.mk ?_; (try simp only [Lm, La, Lc, Ln, Lt, Ld, Lr, Li, true_or, or_true, true_and, and_true]); omega) | (simp <;> fail) | skip) [runM_nil, hCl, g0, g1, e1]
      refine hK _ _ ?_
      clear hK K
      first | refine pwp_rif ?_ | refine pwp_rifE ?_
      intro K hK
      simp (disch := first | (refine Ok.mk ?_; (try simp only [Lm, La, Lc, Ln, Lt, Ld, Lr, Li, true_or, or_true, true_and, and_true]); omega) | (simp <;> fail) | skip) [runM_nil]
      refine hK _ _ ?_
      clear hK K
      refine ifF (by simp [runM_nil]) (pwp_skip ?_)
      first | refine pwp_sr ?_ | refine pwp_regionM ?_
      intro K hK
      simp (disch := first | (refine Ok.mk ?_; (try simp only [Lm, La, Lc, Ln, Lt, Ld, Lr, Li, true_or, or_true, true_and, and_true]); omega) | (simp <;> fail) | skip) [runM_nil, hgp]
      refine hK _ _ ?_
      clear hK K
      first | refine pwp_sr ?_ | refine pwp_regionM ?_
      intro K hK
      simp (disch := first | (refine Ok.mk ?_; (try simp only [Lm, La, Lc, Ln, Lt, Ld, Lr, Li, true_or, or_true, true_and, and_true]); omega) | (simp <;> fail) | skip) [runM_nil, hrl, hrl2, hjr]
      refine hK _ _ ?_
      clear hK K
      first | refine pwp_sr ?_ | refine pwp_regionM ?_
      intro K hK
      simp (disch := first | (refine Ok.mk ?_; (try simp only [Lm, La, Lc, Ln, Lt, Ld, Lr, Li, true_or, or_true, true_and, and_true]); omega) | (simp <;> fail) | skip) [runM_nil]
      refine hK _ _ ?_
      clear hK K
      exact ⟨C.length - (i + 1), by omega, _, .refl _, i + 1, t, by omega, by omega, by simpa using hgt, rfl, rfl, by simp [keepL_MS, keepA, getS, hjr, hgt2]⟩
  · obtain rfl : i = C.length := by omega
    rw [k4] at hp
    obtain rfl : b.length = p := Option.some.inj hp
    have cr := recsSame_ok (l := ofB L 0 b.length) hpl (fun r hr => by have := hr50 r hr; omega) (o := false) (q := false)
    rw [hoa] at cr ⊢
    generalize rowsC (L.map (·.2)) = X at *
    first | refine pwp_sr ?_ | refine pwp_regionM ?_
    intro K hK
    simp (disch := first | (refine Ok.mk ?_; (try simp only [Lm, La, Lc, Ln, Lt, Ld, Lr, Li, true_or, or_true, true_and, and_true]); omega) | (simp <;> fail) | skip) [runM_nil, hCl]
    refine hK _ _ ?_
    clear hK K
    refine pwp_cF (by simp) (pwp_exit ?_)
    by_cases he : e = 0
    · have hgb : g = b.length := her.1 he
      subst he
      subst hgb
      first | refine pwp_sr ?_ | refine pwp_regionM ?_
      intro K hK
      simp (disch := first | (refine Ok.mk ?_; (try simp only [Lm, La, Lc, Ln, Lt, Ld, Lr, Li, true_or, or_true, true_and, and_true]); omega) | (simp <;> fail) | skip) [runM_nil]
      refine useP (ca) ?_
      simp (disch := first | (refine Ok.mk ?_; (try simp only [Lm, La, Lc, Ln, Lt, Ld, Lr, Li, true_or, or_true, true_and, and_true]); omega) | (simp <;> fail) | skip) [runM_nil]
      refine useP (hall) ?_
      simp (disch := first | (refine Ok.mk ?_; (try simp only [Lm, La, Lc, Ln, Lt, Ld, Lr, Li, true_or, or_true, true_and, and_true]); omega) | (simp <;> fail) | skip) [runM_nil]
      refine useP (cr) ?_
      simp (disch := first | (refine Ok.mk ?_; (try simp only [Lm, La, Lc, Ln, Lt, Ld, Lr, Li, true_or, or_true, true_and, and_true]); omega) | (simp <;> fail) | skip) [runM_nil]
      refine hK _ _ ?_
      clear hK K
      refine pwp_ret ⟨.inr rfl, _, _, (by simp (disch := first | (refine Ok.mk ?_; (try simp only [Lm, La, Lc, Ln, Lt, Ld, Lr, Li, true_or, or_true, true_and, and_true]); omega) | (simp <;> fail) | skip) [runM_nil, resL]; rfl), .refl _, by simp (disch := first | (refine Ok.mk ?_; (try simp only [Lm, La, Lc, Ln, Lt, Ld, Lr, Li, true_or, or_true, true_and, and_true]); omega) | (simp <;> fail) | skip) [resV], rfl⟩
    · have hgb : ¬ g = b.length := fun h => he (her.2 h)
      have hlt3 : g < b.length := by omega
      have ge : ¬ (e : Int) = 0 := by omega
      have gb : ¬ (g : Int) = b.length := by omega
      first | refine pwp_sr ?_ | refine pwp_regionM ?_
      intro K hK
      simp (disch := first | (refine Ok.mk ?_; (try simp only [Lm, La, Lc, Ln, Lt, Ld, Lr, Li, true_or, or_true, true_and, and_true]); omega) | (simp <;> fail) | skip) [runM_nil, he, ge, gb, hgb, hlt3]
      refine useP (ca) ?_
      simp (disch := first | (refine Ok.mk ?_; (try simp only [Lm, La, Lc, Ln, Lt, Ld, Lr, Li, true_or, or_true, true_and, and_true]); omega) | (simp <;> fail) | skip) [runM_nil, he, ge, gb, hgb, hlt3]
      refine useP (hall) ?_
      simp (disch := first | (refine Ok.mk ?_; (try simp only [Lm, La, Lc, Ln, Lt, Ld, Lr, Li, true_or, or_true, true_and, and_true]); omega) | (simp <;> fail) | skip) [runM_nil, he, ge, gb, hgb, hlt3]
      refine useP (cr) ?_
      simp (disch := first | (refine Ok.mk ?_; (try simp only [Lm, La, Lc, Ln, Lt, Ld, Lr, Li, true_or, or_true, true_and, and_true]); omega) | (simp <;> fail) | skip) [runM_nil, he, ge, gb, hgb, hlt3]
      refine hK _ _ ?_
      clear hK K
      refine pwp_ret ⟨.inr rfl, _, _, (by simp (disch := first | (refine Ok.mk ?_; (try simp only [Lm, La, Lc, Ln, Lt, Ld, Lr, Li, true_or, or_true, true_and, and_true]); omega) | (simp <;> fail) | skip) [runM_nil, resL]; rfl), .refl _, by simp (disch := first | (refine Ok.mk ?_; (try simp only [Lm, La, Lc, Ln, Lt, Ld, Lr, Li, true_or, or_true, true_and, and_true]); omega) | (simp <;> fail) | skip) [resV], rfl⟩
end Go.Proofs.Ytdphjapaoaokmaa.E
/- What a row hands over, as bytes and numbers. -/
namespace Go.Proofs.Ytdphjapaoaokmaa.E
open Go Go.RowKit Go.Proofs Go.ChangeShapes Go.WideShapes
set_option linter.unusedVariables false
set_option linter.unusedSimpArgs false
theorem bytes_of {xs : List PV} (h : ∀ x ∈ xs, el false (fun ps => ∃ n : Int, ps = [.int .u8 n] ∧ (Lit.int .u8 n).wf = true) x) : ∃ l : List Nat, xs = l.map u8 ∧ ∀ x ∈ l, x < 256 := by
  induction xs with
  | nil => exact ⟨[], rfl, fun c hc => by cases hc⟩
  | cons x xs ih =>
    obtain ⟨l, rfl, hl⟩ := ih fun y hy => h y (List.mem_cons_of_mem _ hy)
    obtain ⟨n, e, hn⟩ := h x (List.mem_cons_self ..)
    cases e
    have hw : 0 ≤ n ∧ n ≤ 255 := by simpa [Lit.wf, IntKind.min, IntKind.max, IntKind.signed, IntKind.bits] using hn
    refine ⟨n.toNat :: l, ?_, fun c hc => ?_⟩
    · have : ((n.toNat : Nat) : Int) = n := by omega
      simp [u8, this]
    · rcases List.mem_cons.1 hc with rfl | hc
      · omega
      · exact hl c hc
theorem openBytes : OpnV Try.prog 22 1 (fun ps => ∃ l : List Nat, ps = [.lst 1 (l.map u8) false] ∧ (∀ x ∈ l, x < 256) ∧ l.length ≤ 140737488351232) :=
  (OpnV.slice (B := 1) false Try.underlying22 (by kernel_rfl) (by kernel_rfl) (OpnV.int Try.underlying5 (by kernel_rfl)) (fun _ => rfl) (by omega)).weaken (by
    rintro _ ⟨xs, rfl, h1, _, h2⟩
    obtain ⟨l, rfl, h3⟩ := bytes_of h2
    rw [List.length_map] at h1
    exact ⟨l, rfl, h3, by omega⟩)
theorem openIntB : OpnV Try.prog 3 1 (fun ps => ∃ n : Int, ps = [.int .i64 n] ∧ -9223372036854775808 ≤ n ∧ n ≤ 9223372036854775807) := (OpnV.int Try.underlying3 (by kernel_rfl)).weaken (by
  rintro _ ⟨n, rfl, h⟩
  have hw : -9223372036854775808 ≤ n ∧ n ≤ 9223372036854775807 := by simpa [Lit.wf, IntKind.min, IntKind.max, IntKind.signed, IntKind.bits] using h
  exact ⟨n, rfl, hw⟩)
theorem bytess_of {xs : List PV} (h : ∀ x ∈ xs, el false (fun ps => ∃ l : List Nat, ps = [.lst 1 (l.map u8) false] ∧ (∀ x ∈ l, x < 256) ∧ l.length ≤ 140737488351232) x) :
    ∃ ls : List (List Nat), xs = ls.map (fun p => .lst 1 (p.map u8) false) ∧ ∀ p ∈ ls, (∀ x ∈ p, x < 256) ∧ p.length ≤ 140737488351232 := by
  induction xs with
  | nil => exact ⟨[], rfl, fun c hc => by cases hc⟩
  | cons x xs ih =>
    obtain ⟨ls, rfl, hl⟩ := ih fun y hy => h y (List.mem_cons_of_mem _ hy)
    obtain ⟨p, e, hp⟩ := h x (List.mem_cons_self ..)
    cases e
    refine ⟨p :: ls, rfl, fun c hc => ?_⟩
    rcases List.mem_cons.1 hc with rfl | hc
    · exact hp
    · exact hl c hc
end Go.Proofs.Ytdphjapaoaokmaa.E
/- What a row hands over, as rows of numbers. -/
namespace Go.Proofs.Ytdphjapaoaokmaa.E
open Go Go.RowKit Go.Proofs Go.ChangeShapes Go.WideShapes
set_option linter.unusedVariables false
set_option linter.unusedSimpArgs false
theorem ints_of {xs : List PV} (h : ∀ x ∈ xs, el false (fun ps => ∃ n : Int, ps = [.int .i64 n] ∧ -9223372036854775808 ≤ n ∧ n ≤ 9223372036854775807) x) : ∃ l : List Int, xs = l.map (fun n => PV.int .i64 n) := by
  induction xs with
  | nil => exact ⟨[], rfl⟩
  | cons x xs ih =>
    obtain ⟨l, rfl⟩ := ih fun y hy => h y (List.mem_cons_of_mem _ hy)
    obtain ⟨n, e, hn⟩ := h x (List.mem_cons_self ..)
    cases e
    exact ⟨n :: l, rfl⟩
theorem openInts : OpnV Try.prog 35 1 (fun ps => ∃ l : List Int, ps = [.lst 1 (l.map fun n => PV.int .i64 n) false] ∧ l.length ≤ 140737488351232) :=
  (OpnV.slice (B := 8) false Try.underlying35 (by kernel_rfl) (by kernel_rfl) openIntB (fun _ => rfl) (by omega)).weaken (by
    rintro _ ⟨xs, rfl, h1, _, h2⟩
    obtain ⟨l, rfl⟩ := ints_of h2
    rw [List.length_map] at h1
    exact ⟨l, rfl, by omega⟩)
end Go.Proofs.Ytdphjapaoaokmaa.E
