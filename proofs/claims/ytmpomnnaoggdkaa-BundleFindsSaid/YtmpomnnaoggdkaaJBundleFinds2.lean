/- Part 2 of the proof of BundleFinds: what the program's functions come to. -/
import Derived.Test.YtmpomnnaoggdkaaJBundleFinds1
import Derived.Test.YtmpomnnaoggdkaaL2
import Derived.Test.YtmpomnnaoggdkaaProg
/- A bundle's list, in plain terms, and its entries taken. -/
namespace Go.Proofs.Ytmpomnnaoggdkaa.E
open Go Go.RowKit Go.Proofs
set_option linter.unusedVariables false
set_option linter.unusedSimpArgs false
structure Be where
  at_ : Nat
  nm : List Nat
  lg : Nat
  deriving DecidableEq
def beV (e : Be) : PV := .agg [.int .i64 e.at_, .str (ci e.nm), .int .i64 e.lg]
def beTake (b : List Nat) : Option (List Nat × Nat × List Nat) :=
  if (vframe b 100).2.2 ≠ 0 ∨ (vframe b 100).1 = [] then none else
  if (vtake (vframe b 100).2.1).2.2 ≠ 0 ∨ 1000 < (vtake (vframe b 100).2.1).1 then none else some ((vframe b 100).1, (vtake (vframe b 100).2.1).1, (vtake (vframe b 100).2.1).2.1)
def beTakeV : Option (List Nat × Nat × List Nat) → PV
  | none => .tup [.agg [.int .i64 0, .str [], .int .i64 0], .lst 0 [] true, .int .i64 3]
  | some (nm, lg, r) => .tup [.agg [.int .i64 0, .str (ci nm), .int .i64 lg], bV r true, .int .i64 0]
theorem vframe_wf {b : List Nat} (hw : ∀ x ∈ b, x < 256) (m : Int) : (∀ x ∈ (vframe b m).1, x < 256) ∧ (∀ x ∈ (vframe b m).2.1, x < 256) ∧ (vframe b m).1.length ≤ b.length ∧ (vframe b m).2.1.length ≤ b.length := by
  have h1 := vtake_wf hw
  have h2 : (vtake b).2.1.length ≤ b.length := (vtake_rest (s := b)).1
  unfold vframe
  split
  · simp
  split
  · simp
  split
  · simp
  · refine ⟨fun x hx => h1 x (List.mem_of_mem_take hx), fun x hx => h1 x (List.mem_of_mem_drop hx), ?_, ?_⟩
    · simp only [List.length_take]; omega
    · simp only [List.length_drop]; omega
theorem take10_ok {s : Nat} {xs : List PV} {o : Bool} {b : List Nat} (hx : xs = b.map u8) (hs : s = 1 ∨ b.length = 0) (hw : ∀ x ∈ b, x < 256) (hl : b.length ≤ 1000000) :
    PSpec Try.prog 45 [.lst s xs o] (beTakeV (beTake b)) := by
  intro H
  have c1 := takeFrame_ok (o := false) hx hs hw (by omega) 100 (by omega)
  obtain ⟨w1, w2, w3, w4⟩ := vframe_wf hw 100
  have c2 := take_ok (s := 1) (xs := (vframe b 100).2.1.map u8) (o := false) rfl (.inl rfl) w2 (by omega)
  unfold beTake
  generalize vframe b 100 = F at *
  obtain ⟨f1, f2, f3⟩ := F
  dsimp only at *
  generalize vtake f2 = T at *
  obtain ⟨n, r, e⟩ := T
  dsimp only at *
  refine spec_of t45 (by simp [p45]) ?_
  simp only [p45]
  first | refine pwp_sr ?_ | refine pwp_regionM ?_
  intro K hK
  simp (disch := first | (refine Ok.mk ?_; (try simp only [Lm, La, Lc, Ln, Lt, Ld, Lr, Li, true_or, or_true, true_and, and_true]); omega) | (simp <;> fail) | skip) [runM_nil]
  intro b2 h_b2
  try simp (disch := first | (refine Ok.mk ?_; (try simp only [Lm, La, Lc, Ln, Lt, Ld, Lr, Li, true_or, or_true, true_and, and_true]); omega) | (simp <;> fail) | skip) [runM_nil]
  refine hK _ _ ?_
  clear hK K
  first | refine pwp_sr ?_ | refine pwp_regionM ?_
  intro K hK
  simp (disch := first | (refine Ok.mk ?_; (try simp only [Lm, La, Lc, Ln, Lt, Ld, Lr, Li, true_or, or_true, true_and, and_true]); omega) | (simp <;> fail) | skip) [runM_nil]
  refine useP (c1) ?_
  simp (disch := first | (refine Ok.mk ?_; (try simp only [Lm, La, Lc, Ln, Lt, Ld, Lr, Li, true_or, or_true, true_and, and_true]); omega) | (simp <;> fail) | skip) [runM_nil]
  refine hK _ _ ?_
  clear hK K
  by_cases h3 : f3 = 0
  · subst h3
    by_cases h1 : f1 = []
    · subst h1
      first | refine pwp_rif ?_ | refine pwp_rifE ?_
      intro K hK
      simp (disch := first | (refine Ok.mk ?_; (try simp only [Lm, La, Lc, Ln, Lt, Ld, Lr, Li, true_or, or_true, true_and, and_true]); omega) | (simp <;> fail) | skip) [runM_nil]
      refine hK _ _ ?_
      clear hK K
      refine ifT (by simp (disch := first | (refine Ok.mk ?_; (try simp only [Lm, La, Lc, Ln, Lt, Ld, Lr, Li, true_or, or_true, true_and, and_true]); omega) | (simp <;> fail) | skip) [runM_nil]) ?_
      first | refine pwp_sr ?_ | refine pwp_regionM ?_
      intro K hK
      simp (disch := first | (refine Ok.mk ?_; (try simp only [Lm, La, Lc, Ln, Lt, Ld, Lr, Li, true_or, or_true, true_and, and_true]); omega) | (simp <;> fail) | skip) [runM_nil]
      refine hK _ _ ?_
      clear hK K
      refine pwp_retT ⟨.inr rfl, _, _, (by simp [runM_nil, resL]; rfl), (.cons _ (.refl _)), by simp [resV, beTakeV], rfl⟩
    · have h1' : ¬ ci f1 = [] := fun h => h1 (by cases f1 <;> simp_all [ci])
      first | refine pwp_rif ?_ | refine pwp_rifE ?_
      intro K hK
      simp (disch := first | (refine Ok.mk ?_; (try simp only [Lm, La, Lc, Ln, Lt, Ld, Lr, Li, true_or, or_true, true_and, and_true]); omega) | (simp <;> fail) | skip) [runM_nil, h1, h1', strP]
      refine hK _ _ ?_
      clear hK K
      refine ifF (by simp [runM_nil, h1, h1']) (pwp_skip ?_)
      first | refine pwp_sr ?_ | refine pwp_regionM ?_
      intro K hK
      simp (disch := first | (refine Ok.mk ?_; (try simp only [Lm, La, Lc, Ln, Lt, Ld, Lr, Li, true_or, or_true, true_and, and_true]); omega) | (simp <;> fail) | skip) [runM_nil]
      refine useP (c2) ?_
      simp (disch := first | (refine Ok.mk ?_; (try simp only [Lm, La, Lc, Ln, Lt, Ld, Lr, Li, true_or, or_true, true_and, and_true]); omega) | (simp <;> fail) | skip) [runM_nil]
      refine hK _ _ ?_
      clear hK K
      by_cases h4 : e = 0
      · subst h4
        by_cases h5 : 1000 < n
        · have h5' : (1000 : Int) < n := by omega
          first | refine pwp_rif ?_ | refine pwp_rifE ?_
          intro K hK
          simp (disch := first | (refine Ok.mk ?_; (try simp only [Lm, La, Lc, Ln, Lt, Ld, Lr, Li, true_or, or_true, true_and, and_true]); omega) | (simp <;> fail) | skip) [runM_nil, h5']
          refine hK _ _ ?_
          clear hK K
          refine ifT (by simp (disch := first | (refine Ok.mk ?_; (try simp only [Lm, La, Lc, Ln, Lt, Ld, Lr, Li, true_or, or_true, true_and, and_true]); omega) | (simp <;> fail) | skip) [runM_nil]) ?_
          first | refine pwp_sr ?_ | refine pwp_regionM ?_
          intro K hK
          simp (disch := first | (refine Ok.mk ?_; (try simp only [Lm, La, Lc, Ln, Lt, Ld, Lr, Li, true_or, or_true, true_and, and_true]); omega) | (simp <;> fail) | skip) [runM_nil]
          refine hK _ _ ?_
          clear hK K
          refine pwp_retT ⟨.inr rfl, _, _, (by simp [runM_nil, resL]; rfl), (.cons _ (.refl _)), by simp [resV, beTakeV, h1, h5], rfl⟩
        · have h5' : ¬ (1000 : Int) < n := by omega
          first | refine pwp_rif ?_ | refine pwp_rifE ?_
          intro K hK
          simp (disch := first | (refine Ok.mk ?_; (try simp only [Lm, La, Lc, Ln, Lt, Ld, Lr, Li, true_or, or_true, true_and, and_true]); omega) | (simp <;> fail) | skip) [runM_nil, h5']
          refine hK _ _ ?_
          clear hK K
          refine ifF (by simp [runM_nil, h5']) (pwp_skip ?_)
          first | refine pwp_sr ?_ | refine pwp_regionM ?_
          intro K hK
          simp (disch := first | (refine Ok.mk ?_; (try simp only [Lm, La, Lc, Ln, Lt, Ld, Lr, Li, true_or, or_true, true_and, and_true]); omega) | (simp <;> fail) | skip) [runM_nil]
          refine hK _ _ ?_
          clear hK K
          refine pwp_ret ⟨.inr rfl, _, _, (by simp [runM_nil, resL]; rfl), (.cons _ (.refl _)), by simp [resV, beTakeV, h1, h5], rfl⟩
      · have h4' : ¬ (e : Int) = 0 := by omega
        first | refine pwp_rif ?_ | refine pwp_rifE ?_
        intro K hK
        simp (disch := first | (refine Ok.mk ?_; (try simp only [Lm, La, Lc, Ln, Lt, Ld, Lr, Li, true_or, or_true, true_and, and_true]); omega) | (simp <;> fail) | skip) [runM_nil, h4, h4']
        refine hK _ _ ?_
        clear hK K
        refine ifT (by simp [runM_nil, h4, h4']) ?_
        first | refine pwp_sr ?_ | refine pwp_regionM ?_
        intro K hK
        simp (disch := first | (refine Ok.mk ?_; (try simp only [Lm, La, Lc, Ln, Lt, Ld, Lr, Li, true_or, or_true, true_and, and_true]); omega) | (simp <;> fail) | skip) [runM_nil]
        refine hK _ _ ?_
        clear hK K
        refine pwp_retT ⟨.inr rfl, _, _, (by simp [runM_nil, resL]; rfl), (.cons _ (.refl _)), by simp [resV, beTakeV, h1, h4], rfl⟩
  · have h3' : ¬ (f3 : Int) = 0 := by omega
    first | refine pwp_rif ?_ | refine pwp_rifE ?_
    intro K hK
    simp (disch := first | (refine Ok.mk ?_; (try simp only [Lm, La, Lc, Ln, Lt, Ld, Lr, Li, true_or, or_true, true_and, and_true]); omega) | (simp <;> fail) | skip) [runM_nil, h3, h3']
    refine hK _ _ ?_
    clear hK K
    refine ifT (by simp [runM_nil, h3, h3']) ?_
    first | refine pwp_sr ?_ | refine pwp_regionM ?_
    intro K hK
    simp (disch := first | (refine Ok.mk ?_; (try simp only [Lm, La, Lc, Ln, Lt, Ld, Lr, Li, true_or, or_true, true_and, and_true]); omega) | (simp <;> fail) | skip) [runM_nil]
    refine hK _ _ ?_
    clear hK K
    refine pwp_retT ⟨.inr rfl, _, _, (by simp [runM_nil, resL]; rfl), (.cons _ (.refl _)), by simp [resV, beTakeV, h3], rfl⟩
end Go.Proofs.Ytmpomnnaoggdkaa.E
/- The entries of a list. -/
namespace Go.Proofs.Ytmpomnnaoggdkaa.E
open Go Go.RowKit Go.Proofs
set_option linter.unusedVariables false
set_option linter.unusedSimpArgs false
def riseB (acc : List Be) (nm : List Nat) : Bool := match acc.getLast? with
  | none => true
  | some e => lexLt (ci e.nm) (ci nm)
def entL (f all : Nat) : Nat → List Be → List Nat → Option (List Be × List Nat)
  | 0, acc, b => some (acc, b)
  | n + 1, acc, b => match beTake b with
    | none => none
    | some (nm, lg, r) => if riseB acc nm = true then entL f all n (acc ++ [⟨f + all - b.length, nm, lg⟩]) r else none
def entB (b : List Nat) (f : Nat) : List Be × Nat :=
  if (vtake b).2.2 ≠ 0 ∨ 1000 < (vtake b).1 then ([], 3) else match entL f b.length (vtake b).1 [] (vtake b).2.1 with
    | none => ([], 3)
    | some (l, r) => if r ≠ [] then ([], 3) else (l, 0)
theorem beTake_wf {b : List Nat} (hw : ∀ x ∈ b, x < 256) {nm r : List Nat} {lg : Nat} (h : beTake b = some (nm, lg, r)) : (∀ x ∈ nm, x < 256) ∧ (∀ x ∈ r, x < 256) ∧ r.length ≤ b.length ∧ lg ≤ 1000 ∧ nm.length ≤ b.length := by
  obtain ⟨w1, w2, w3, w4⟩ := vframe_wf hw 100
  have h1 := vtake_wf w2
  have h2 : (vtake (vframe b 100).2.1).2.1.length ≤ (vframe b 100).2.1.length := (vtake_rest (s := (vframe b 100).2.1)).1
  unfold beTake at h
  split at h
  · cases h
  split at h
  · cases h
  · simp only [Option.some.injEq, Prod.mk.injEq] at h
    obtain ⟨rfl, rfl, rfl⟩ := h
    exact ⟨w1, h1, by omega, by omega, w3⟩
theorem entries_ok {s : Nat} {xs : List PV} {o : Bool} {b : List Nat} (hx : xs = b.map u8) (hs : s = 1 ∨ b.length = 0) (hw : ∀ x ∈ b, x < 256) (hl : b.length ≤ 1000000) (f : Nat) (hf : f ≤ 1000000) :
    PSpec Try.prog 39 [.lst s xs o, .int .i64 f] (.tup [.lst 3 ((entB b f).1.map beV) true, .int .i64 ((entB b f).2 : Nat)]) := by
  intro H
  have hmix := mixS
  have hxl : xs.length = b.length := by rw [hx, List.length_map]
  have c1 := take_ok (o := false) hx hs hw (by omega)
  have hrw := vtake_wf hw
  have hrl : (vtake b).2.1.length ≤ b.length := (vtake_rest (s := b)).1
  unfold entB
  generalize vtake b = T at *
  obtain ⟨n, r, e⟩ := T
  dsimp only at *
  refine spec_ofU t39 (by simp [p39]) ?_
  simp only [p39]
  first | refine pwp_sr ?_ | refine pwp_regionM ?_
  intro K hK
  simp (disch := first | (refine Ok.mk ?_; (try simp only [Lm, La, Lc, Ln, Lt, Ld, Lr, Li, true_or, or_true, true_and, and_true]); omega) | (simp <;> fail) | skip) [runM_nil]
  refine hK _ _ ?_
  clear hK K
  first | refine pwp_sr ?_ | refine pwp_regionM ?_
  intro K hK
  simp (disch := first | (refine Ok.mk ?_; (try simp only [Lm, La, Lc, Ln, Lt, Ld, Lr, Li, true_or, or_true, true_and, and_true]); omega) | (simp <;> fail) | skip) [runM_nil, hxl]
  refine hK _ _ ?_
  clear hK K
  first | refine pwp_sr ?_ | refine pwp_regionM ?_
  intro K hK
  simp (disch := first | (refine Ok.mk ?_; (try simp only [Lm, La, Lc, Ln, Lt, Ld, Lr, Li, true_or, or_true, true_and, and_true]); omega) | (simp <;> fail) | skip) [runM_nil]
  refine useP (c1) ?_
  simp (disch := first | (refine Ok.mk ?_; (try simp only [Lm, La, Lc, Ln, Lt, Ld, Lr, Li, true_or, or_true, true_and, and_true]); omega) | (simp <;> fail) | skip) [runM_nil]
  refine hK _ _ ?_
  clear hK K
  by_cases h3 : e = 0
  · subst h3
    by_cases h5 : 1000 < n
    · have h5' : (1000 : Int) < n := by omega
      first | refine pwp_rif ?_ | refine pwp_rifE ?_
      intro K hK
      simp (disch := first | (refine Ok.mk ?_; (try simp only [Lm, La, Lc, Ln, Lt, Ld, Lr, Li, true_or, or_true, true_and, and_true]); omega) | (simp <;> fail) | skip) [runM_nil, h5']
      refine hK _ _ ?_
      clear hK K
      refine ifT (by simp (disch := first | (refine Ok.mk ?_; (try simp only [Lm, La, Lc, Ln, Lt, Ld, Lr, Li, true_or, or_true, true_and, and_true]); omega) | (simp <;> fail) | skip) [runM_nil]) ?_
      first | refine pwp_sr ?_ | refine pwp_regionM ?_
      intro K hK
      simp (disch := first | (refine Ok.mk ?_; (try simp only [Lm, La, Lc, Ln, Lt, Ld, Lr, Li, true_or, or_true, true_and, and_true]); omega) | (simp <;> fail) | skip) [runM_nil]
      refine hK _ _ ?_
      clear hK K
      refine pwp_retT ⟨.inr rfl, _, _, _, (by simp [runM_nil, resL]; rfl), .refl _, by simp [resV, h5], rfl, rfl⟩
    · have h5' : ¬ (1000 : Int) < n := by omega
      rw [if_neg (by omega)]
      first | refine pwp_rif ?_ | refine pwp_rifE ?_
      intro K hK
      simp (disch := first | (refine Ok.mk ?_; (try simp only [Lm, La, Lc, Ln, Lt, Ld, Lr, Li, true_or, or_true, true_and, and_true]); omega) | (simp <;> fail) | skip) [runM_nil, h5']
      refine hK _ _ ?_
      clear hK K
      refine ifF (by simp [runM_nil, h5']) (pwp_skip ?_)
      first | refine pwp_sr ?_ | refine pwp_regionM ?_
      intro K hK
      simp (disch := first | (refine Ok.mk ?_; (try simp only [Lm, La, Lc, Ln, Lt, Ld, Lr, Li, true_or, or_true, true_and, and_true]); omega) | (simp <;> fail) | skip) [runM_nil]
      refine hK _ _ ?_
      clear hK K
      refine pwp_seq (pwp_seq ?_)
      first | refine pwp_sr ?_ | refine pwp_regionM ?_
      intro K hK
      simp (disch := first | (refine Ok.mk ?_; (try simp only [Lm, La, Lc, Ln, Lt, Ld, Lr, Li, true_or, or_true, true_and, and_true]); omega) | (simp <;> fail) | skip) [runM_nil]
      refine hK _ _ ?_
      clear hK K
      refine pwp_block ?_
      refine pwp_loopU [0, 1, 6, 9, 27, 28] (fun q st H' => ∃ (i : Nat) (acc : List Be) (c : List Nat) (sz : Nat) (o1 : Bool), i ≤ n ∧ (sz = 1 ∨ c.length = 0) ∧ (∀ x ∈ c, x < 256) ∧ c.length ≤ b.length ∧ acc.length = i ∧ entL f b.length n [] r = entL f b.length (n - i) acc c ∧ q = n - i ∧ H' = H ∧
          st = MS 72 [(0, .lst sz (c.map u8) o1), (1, .int .i64 f), (6, .int .i64 b.length), (9, .lst 3 (acc.map beV) true), (27, .int .u64 n), (28, .int .u64 i)]) (n := n)
        ⟨_, _, keep_up (l' := [(0, .lst 1 (r.map u8) true), (1, .int .i64 f), (6, .int .i64 b.length), (9, .lst 3 [] true), (27, .int .u64 n), (28, .int .u64 0)]) (by simp), List.Sublist.refl _, 0, [], r, 1, true, Nat.zero_le _, .inl rfl, hrw, hrl, rfl, rfl, rfl, rfl, by simp⟩ ?_
      rintro q st H' ⟨i, acc, c, sz, o1, hi, hsz, hcw, hcl, hac, hent, rfl, hH, rfl⟩
      subst hH
      by_cases hlt : i < n
      · have hlt' : (i : Int) < n := by omega
        have ct := take10_ok (o := false) (xs := c.map u8) rfl hsz hcw (by omega)
        obtain ⟨k, hk⟩ : ∃ k, n - i = k + 1 := ⟨n - i - 1, by omega⟩
        rw [hk, entL] at hent
        have hbw := fun nm lg r2 h => beTake_wf hcw (nm := nm) (lg := lg) (r := r2) h
        first | refine pwp_sr ?_ | refine pwp_regionM ?_
        intro K hK
        simp (disch := first | (refine Ok.mk ?_; (try simp only [Lm, La, Lc, Ln, Lt, Ld, Lr, Li, true_or, or_true, true_and, and_true]); omega) | (simp <;> fail) | skip) [runM_nil, hlt']
        refine hK _ _ ?_
        clear hK K
        refine pwp_seq (pwp_cT (by simp) (pwp_skip ?_))
        refine pwp_seq (pwp_block ?_)
        generalize beTake c = B at *
        cases B with
        | none =>
          simp only [beTakeV] at ct
          dsimp only at hent
          first | refine pwp_sr ?_ | refine pwp_regionM ?_
          intro K hK
          simp (disch := first | (refine Ok.mk ?_; (try simp only [Lm, La, Lc, Ln, Lt, Ld, Lr, Li, true_or, or_true, true_and, and_true]); omega) | (simp <;> fail) | skip) [runM_nil]
          refine useP (ct) ?_
          simp (disch := first | (refine Ok.mk ?_; (try simp only [Lm, La, Lc, Ln, Lt, Ld, Lr, Li, true_or, or_true, true_and, and_true]); omega) | (simp <;> fail) | skip) [runM_nil]
          intro b10 h_b10
          try simp (disch := first | (refine Ok.mk ?_; (try simp only [Lm, La, Lc, Ln, Lt, Ld, Lr, Li, true_or, or_true, true_and, and_true]); omega) | (simp <;> fail) | skip) [runM_nil]
          refine hK _ _ ?_
          clear hK K
          refine pwp_seq ?_
          first | refine pwp_sd hmix ?_ | refine pwp_drawM hmix ?_
          intro K hK
          simp (disch := first | (refine Ok.mk ?_; (try simp only [Lm, La, Lc, Ln, Lt, Ld, Lr, Li, true_or, or_true, true_and, and_true]); omega) | (simp <;> fail) | skip) [runM_nil]
          refine hK _ _ ?_
          clear hK K
          refine pwp_cT (by simp) ?_
          first | refine pwp_sr ?_ | refine pwp_regionM ?_
          intro K hK
          simp (disch := first | (refine Ok.mk ?_; (try simp only [Lm, La, Lc, Ln, Lt, Ld, Lr, Li, true_or, or_true, true_and, and_true]); omega) | (simp <;> fail) | skip) [runM_nil]
          refine hK _ _ ?_
          clear hK K
          refine pwp_ret ⟨.inr rfl, _, _, _, (by simp [runM_nil, resL]; rfl), (.cons _ (.refl _)), by rw [hent]; simp [resV], rfl, rfl⟩
        | some v =>
          obtain ⟨nm, lg, r2⟩ := v
          obtain ⟨x1, x2, x3, x4, x5⟩ := hbw nm lg r2 rfl
          simp only [beTakeV] at ct
          dsimp only at hent
          have hat : (f : Int) + b.length - c.length = ((f + b.length - c.length : Nat) : Int) := by omega
          first | refine pwp_sr ?_ | refine pwp_regionM ?_
          intro K hK
          simp (disch := first | (refine Ok.mk ?_; (try simp only [Lm, La, Lc, Ln, Lt, Ld, Lr, Li, true_or, or_true, true_and, and_true]); omega) | (simp <;> fail) | skip) [runM_nil]
          refine useP (ct) ?_
          simp (disch := first | (refine Ok.mk ?_; (try simp only [Lm, La, Lc, Ln, Lt, Ld, Lr, Li, true_or, or_true, true_and, and_true]); omega) | (simp <;> fail) | skip) [runM_nil]
          intro b10 h_b10
          try simp (disch := first | (refine Ok.mk ?_; (try simp only [Lm, La, Lc, Ln, Lt, Ld, Lr, Li, true_or, or_true, true_and, and_true]); omega) | (simp <;> fail) | skip) [runM_nil]
          refine hK _ _ ?_
          clear hK K
          by_cases hr : riseB acc nm = true
          · rw [if_pos hr] at hent
            refine pwp_seq ?_
            rcases List.eq_nil_or_concat acc with h0 | ⟨acc', e', h0⟩
            · subst h0
              first | refine pwp_sd hmix ?_ | refine pwp_drawM hmix ?_
              intro K hK
              simp (disch := first | (refine Ok.mk ?_; (try simp only [Lm, La, Lc, Ln, Lt, Ld, Lr, Li, true_or, or_true, true_and, and_true]); omega) | (simp <;> fail) | skip) [runM_nil]
              refine hK _ _ ?_
              clear hK K
              refine pwp_cF (by simp) (pwp_skip ?_)
              first | refine pwp_sr ?_ | refine pwp_regionM ?_
              intro K hK
              simp (disch := first | (refine Ok.mk ?_; (try simp only [Lm, La, Lc, Ln, Lt, Ld, Lr, Li, true_or, or_true, true_and, and_true]); omega) | (simp <;> fail) | skip) [runM_nil, hat]
              refine hK _ _ ?_
              clear hK K
              first | refine pwp_sr ?_ | refine pwp_regionM ?_
              intro K hK
              simp (disch := first | (refine Ok.mk ?_; (try simp only [Lm, La, Lc, Ln, Lt, Ld, Lr, Li, true_or, or_true, true_and, and_true]); omega) | (simp <;> fail) | skip) [runM_nil]
              refine hK _ _ ?_
              clear hK K
              first | refine pwp_sr ?_ | refine pwp_regionM ?_
              intro K hK
              simp (disch := first | (refine Ok.mk ?_; (try simp only [Lm, La, Lc, Ln, Lt, Ld, Lr, Li, true_or, or_true, true_and, and_true]); omega) | (simp <;> fail) | skip) [runM_nil]
              refine hK _ _ ?_
              clear hK K
              refine ⟨n - (i + 1), by omega, _, _, keep_up (l' := [(0, .lst 1 (r2.map u8) false), (1, .int .i64 f), (6, .int .i64 b.length), (9, .lst 3 [beV ⟨f + b.length - c.length, nm, lg⟩] true), (27, .int .u64 n), (28, .int .u64 ((i : Int) + 1))]) (by simp [beV]), List.Sublist.cons _ (.refl _), i + 1, [⟨f + b.length - c.length, nm, lg⟩], r2, 1, false, by omega, .inl rfl, x2, by omega, (by have := hac; simp only [List.length_nil] at this; simp only [List.length_singleton]; omega), ?_, rfl, rfl, by simp⟩
              rw [hent, show n - (i + 1) = k by omega]
              rfl
            · rw [List.concat_eq_append] at h0
              subst h0
              have hlx : lexLt (ci e'.nm) (ci nm) = true := by simpa [riseB] using hr
              have hlen : (acc' ++ [e']).length = acc'.length + 1 := by simp
              have hacl : acc'.length + 1 ≤ 1000000 := by omega
              have hg9 : ((acc' ++ [e']).map beV)[acc'.length]? = some (.agg [.int .i64 e'.at_, .str (ci e'.nm), .int .i64 e'.lg]) := by simp [beV]
              have hml : ((acc' ++ [e']).map beV).length = acc'.length + 1 := by simp
              generalize hes : (acc' ++ [e']).map beV = es at *
              have p0 : (0 : Int) < (acc'.length : Int) + 1 := by omega
              have p1 : ((acc'.length : Int) + 1 - 1).toNat = acc'.length := by omega
              first | refine pwp_sd hmix ?_ | refine pwp_drawM hmix ?_
              intro K hK
              simp (disch := first | (refine Ok.mk ?_; (try simp only [Lm, La, Lc, Ln, Lt, Ld, Lr, Li, true_or, or_true, true_and, and_true]); omega) | (simp <;> fail) | skip) [runM_nil, hml, p0, p1, hg9, strP, hlx]
              refine hK _ _ ?_
              clear hK K
              refine pwp_cF (by simp) (pwp_skip ?_)
              first | refine pwp_sr ?_ | refine pwp_regionM ?_
              intro K hK
              simp (disch := first | (refine Ok.mk ?_; (try simp only [Lm, La, Lc, Ln, Lt, Ld, Lr, Li, true_or, or_true, true_and, and_true]); omega) | (simp <;> fail) | skip) [runM_nil, hat]
              refine hK _ _ ?_
              clear hK K
              first | refine pwp_sr ?_ | refine pwp_regionM ?_
              intro K hK
              simp (disch := first | (refine Ok.mk ?_; (try simp only [Lm, La, Lc, Ln, Lt, Ld, Lr, Li, true_or, or_true, true_and, and_true]); omega) | (simp <;> fail) | skip) [runM_nil, hml]
              refine hK _ _ ?_
              clear hK K
              first | refine pwp_sr ?_ | refine pwp_regionM ?_
              intro K hK
              simp (disch := first | (refine Ok.mk ?_; (try simp only [Lm, La, Lc, Ln, Lt, Ld, Lr, Li, true_or, or_true, true_and, and_true]); omega) | (simp <;> fail) | skip) [runM_nil]
              refine hK _ _ ?_
              clear hK K
              refine ⟨n - (i + 1), by omega, _, _, keep_up (l' := [(0, .lst 1 (r2.map u8) false), (1, .int .i64 f), (6, .int .i64 b.length), (9, .lst 3 (es ++ [beV ⟨f + b.length - c.length, nm, lg⟩]) true), (27, .int .u64 n), (28, .int .u64 ((i : Int) + 1))]) (by simp [beV]), List.Sublist.cons _ (.refl _), i + 1, acc' ++ [e'] ++ [⟨f + b.length - c.length, nm, lg⟩], r2, 1, false, by omega, .inl rfl, x2, by omega, by rw [List.length_append, hac]; rfl, ?_, rfl, rfl, by simp [← hes]⟩
              rw [hent, show n - (i + 1) = k by omega]
          · rw [if_neg hr] at hent
            rcases List.eq_nil_or_concat acc with h0 | ⟨acc', e', h0⟩
            · subst h0
              exact absurd rfl hr
            · rw [List.concat_eq_append] at h0
              subst h0
              have hlx : lexLt (ci e'.nm) (ci nm) = false := by simpa [riseB] using hr
              have hlen : (acc' ++ [e']).length = acc'.length + 1 := by simp
              have hacl : acc'.length + 1 ≤ 1000000 := by omega
              have hg9 : ((acc' ++ [e']).map beV)[acc'.length]? = some (.agg [.int .i64 e'.at_, .str (ci e'.nm), .int .i64 e'.lg]) := by simp [beV]
              have hml : ((acc' ++ [e']).map beV).length = acc'.length + 1 := by simp
              generalize (acc' ++ [e']).map beV = es at *
              have p0 : (0 : Int) < (acc'.length : Int) + 1 := by omega
              have p1 : ((acc'.length : Int) + 1 - 1).toNat = acc'.length := by omega
              refine pwp_seq ?_
              first | refine pwp_sd hmix ?_ | refine pwp_drawM hmix ?_
              intro K hK
              simp (disch := first | (refine Ok.mk ?_; (try simp only [Lm, La, Lc, Ln, Lt, Ld, Lr, Li, true_or, or_true, true_and, and_true]); omega) | (simp <;> fail) | skip) [runM_nil, hml, p0, p1, hg9, strP, hlx]
              refine hK _ _ ?_
              clear hK K
              refine pwp_cT (by simp) ?_
              first | refine pwp_sr ?_ | refine pwp_regionM ?_
              intro K hK
              simp (disch := first | (refine Ok.mk ?_; (try simp only [Lm, La, Lc, Ln, Lt, Ld, Lr, Li, true_or, or_true, true_and, and_true]); omega) | (simp <;> fail) | skip) [runM_nil]
              refine hK _ _ ?_
              clear hK K
              refine pwp_ret ⟨.inr rfl, _, _, _, (by simp [runM_nil, resL]; rfl), (.cons _ (.refl _)), by rw [hent]; simp [resV], rfl, rfl⟩
      · obtain rfl : i = n := by omega
        rw [Nat.sub_self, entL] at hent
        have hxc : (c.map u8).length = c.length := List.length_map _
        first | refine pwp_sr ?_ | refine pwp_regionM ?_
        intro K hK
        simp (disch := first | (refine Ok.mk ?_; (try simp only [Lm, La, Lc, Ln, Lt, Ld, Lr, Li, true_or, or_true, true_and, and_true]); omega) | (simp <;> fail) | skip) [runM_nil]
        refine hK _ _ ?_
        clear hK K
        refine pwp_seq (pwp_cF (by simp) (pwp_exit ?_))
        rw [hent]
        dsimp only
        rcases Nat.eq_zero_or_pos c.length with hc0 | hc0
        · obtain rfl : c = [] := List.eq_nil_of_length_eq_zero hc0
          first | refine pwp_rif ?_ | refine pwp_rifE ?_
          intro K hK
          simp (disch := first | (refine Ok.mk ?_; (try simp only [Lm, La, Lc, Ln, Lt, Ld, Lr, Li, true_or, or_true, true_and, and_true]); omega) | (simp <;> fail) | skip) [runM_nil]
          refine hK _ _ ?_
          clear hK K
          refine ifF (by simp [runM_nil]) (pwp_skip ?_)
          first | refine pwp_sr ?_ | refine pwp_regionM ?_
          intro K hK
          simp (disch := first | (refine Ok.mk ?_; (try simp only [Lm, La, Lc, Ln, Lt, Ld, Lr, Li, true_or, or_true, true_and, and_true]); omega) | (simp <;> fail) | skip) [runM_nil]
          refine hK _ _ ?_
          clear hK K
          refine pwp_ret ⟨.inr rfl, _, _, _, (by simp [runM_nil, resL]; rfl), .refl _, by simp [resV], rfl, rfl⟩
        · have hcn : c ≠ [] := List.length_pos_iff.1 hc0
          have hc1 : (0 : Int) < c.length := by omega
          first | refine pwp_rif ?_ | refine pwp_rifE ?_
          intro K hK
          simp (disch := first | (refine Ok.mk ?_; (try simp only [Lm, La, Lc, Ln, Lt, Ld, Lr, Li, true_or, or_true, true_and, and_true]); omega) | (simp <;> fail) | skip) [runM_nil, hc1]
          refine hK _ _ ?_
          clear hK K
          refine ifT (by simp [runM_nil, hc1]) ?_
          first | refine pwp_sr ?_ | refine pwp_regionM ?_
          intro K hK
          simp (disch := first | (refine Ok.mk ?_; (try simp only [Lm, La, Lc, Ln, Lt, Ld, Lr, Li, true_or, or_true, true_and, and_true]); omega) | (simp <;> fail) | skip) [runM_nil]
          refine hK _ _ ?_
          clear hK K
          refine pwp_retT ⟨.inr rfl, _, _, _, (by simp [runM_nil, resL]; rfl), .refl _, by simp [resV, hcn], rfl, rfl⟩
  · have h3' : ¬ (e : Int) = 0 := by omega
    first | refine pwp_rif ?_ | refine pwp_rifE ?_
    intro K hK
    simp (disch := first | (refine Ok.mk ?_; (try simp only [Lm, La, Lc, Ln, Lt, Ld, Lr, Li, true_or, or_true, true_and, and_true]); omega) | (simp <;> fail) | skip) [runM_nil, h3, h3']
    refine hK _ _ ?_
    clear hK K
    refine ifT (by simp [runM_nil, h3, h3']) ?_
    first | refine pwp_sr ?_ | refine pwp_regionM ?_
    intro K hK
    simp (disch := first | (refine Ok.mk ?_; (try simp only [Lm, La, Lc, Ln, Lt, Ld, Lr, Li, true_or, or_true, true_and, and_true]); omega) | (simp <;> fail) | skip) [runM_nil]
    refine hK _ _ ?_
    clear hK K
    refine pwp_retT ⟨.inr rfl, _, _, _, (by simp [runM_nil, resL]; rfl), .refl _, by simp [resV, h3], rfl, rfl⟩
end Go.Proofs.Ytmpomnnaoggdkaa.E
/- A bundle's list, its files, and their names. -/
namespace Go.Proofs.Ytmpomnnaoggdkaa.E
open Go Go.RowKit Go.Proofs
set_option linter.unusedVariables false
set_option linter.unusedSimpArgs false
theorem opened_wf {t s : List Nat} (hw : ∀ x ∈ s, x < 256) : (∀ x ∈ (opened t s).1, x < 256) ∧ (opened t s).1.length ≤ s.length ∧ ((opened t s).2 = 0 → (opened t s).1.length = s.length - 4) := by
  unfold opened
  split
  · simp
  · split
    · exact ⟨fun x hx => hw x (List.mem_of_mem_take hx), by simp only [List.length_take]; omega, fun _ => by simp only [List.length_take]; omega⟩
    · simp
/-- The list, where the files begin, and what is wrong. -/
def lisB (b : List Nat) : List Be × Nat × Nat :=
  if (vtake b).2.2 ≠ 0 ∨ (vtake b).2.1.length < (vtake b).1 then ([], 0, 3) else
  if (opened tbl ((vtake b).2.1.take (vtake b).1)).2 ≠ 0 then ([], 0, 3) else
  ((entB (opened tbl ((vtake b).2.1.take (vtake b).1)).1 (b.length - (vtake b).2.1.length)).1, b.length - (vtake b).2.1.length + (vtake b).1, (entB (opened tbl ((vtake b).2.1.take (vtake b).1)).1 (b.length - (vtake b).2.1.length)).2)
theorem list_ok {s : Nat} {xs : List PV} {o : Bool} {b : List Nat} (hx : xs = b.map u8) (hs : s = 1 ∨ b.length = 0) (hw : ∀ x ∈ b, x < 256) (hl : b.length ≤ 1000000) :
    PSpec Try.prog 25 [.lst s xs o] (.tup [.lst 3 ((lisB b).1.map beV) true, .int .i64 ((lisB b).2.1 : Nat), .int .i64 ((lisB b).2.2 : Nat)]) := by
  intro H
  have hmix := mixS
  have hxl : xs.length = b.length := by rw [hx, List.length_map]
  have c1 := take_ok (o := false) hx hs hw (by omega)
  have hrw := vtake_wf hw
  have hrl : (vtake b).2.1.length ≤ b.length := (vtake_rest (s := b)).1
  unfold lisB
  generalize vtake b = T at *
  obtain ⟨n, r, e⟩ := T
  dsimp only at *
  refine spec_ofU t25 (by simp [p25]) ?_
  simp only [p25]
  first | refine pwp_sr ?_ | refine pwp_regionM ?_
  intro K hK
  simp (disch := first | (refine Ok.mk ?_; (try simp only [Lm, La, Lc, Ln, Lt, Ld, Lr, Li, true_or, or_true, true_and, and_true]); omega) | (simp <;> fail) | skip) [runM_nil]
  refine hK _ _ ?_
  clear hK K
  first | refine pwp_sr ?_ | refine pwp_regionM ?_
  intro K hK
  simp (disch := first | (refine Ok.mk ?_; (try simp only [Lm, La, Lc, Ln, Lt, Ld, Lr, Li, true_or, or_true, true_and, and_true]); omega) | (simp <;> fail) | skip) [runM_nil]
  refine useP (c1) ?_
  simp (disch := first | (refine Ok.mk ?_; (try simp only [Lm, La, Lc, Ln, Lt, Ld, Lr, Li, true_or, or_true, true_and, and_true]); omega) | (simp <;> fail) | skip) [runM_nil]
  refine hK _ _ ?_
  clear hK K
  by_cases h3 : e = 0
  · subst h3
    by_cases h5 : r.length < n
    · have h5' : (r.length : Int) < n := by omega
      first | refine pwp_rif ?_ | refine pwp_rifE ?_
      intro K hK
      simp (disch := first | (refine Ok.mk ?_; (try simp only [Lm, La, Lc, Ln, Lt, Ld, Lr, Li, true_or, or_true, true_and, and_true]); omega) | (simp <;> fail) | skip) [runM_nil, h5']
      refine hK _ _ ?_
      clear hK K
      refine ifT (by simp (disch := first | (refine Ok.mk ?_; (try simp only [Lm, La, Lc, Ln, Lt, Ld, Lr, Li, true_or, or_true, true_and, and_true]); omega) | (simp <;> fail) | skip) [runM_nil]) ?_
      first | refine pwp_sr ?_ | refine pwp_regionM ?_
      intro K hK
      simp (disch := first | (refine Ok.mk ?_; (try simp only [Lm, La, Lc, Ln, Lt, Ld, Lr, Li, true_or, or_true, true_and, and_true]); omega) | (simp <;> fail) | skip) [runM_nil]
      refine hK _ _ ?_
      clear hK K
      refine pwp_retT ⟨.inr rfl, _, _, _, (by simp [runM_nil, resL]; rfl), .refl _, by simp [resV, h5], rfl, rfl⟩
    · have h5' : ¬ (r.length : Int) < n := by omega
      rw [if_neg (by omega)]
      have htw : ∀ x ∈ r.take n, x < 256 := fun x hx => hrw x (List.mem_of_mem_take hx)
      have htl : (r.take n).length ≤ r.length := by simp; omega
      have c2 := open_ok tbl_length tbl_lt (ot := false) (o := false) (s := 1) (xs := (r.take n).map u8) rfl (.inl rfl) htw (by omega)
      have htk : (r.map u8).take n = (r.take n).map u8 := (List.map_take ..).symm
      obtain ⟨w1, w2, _⟩ := opened_wf (t := tbl) htw
      generalize r.take n = rt at *
      generalize opened tbl rt = O at *
      obtain ⟨o1, e1⟩ := O
      dsimp only at *
      first | refine pwp_rif ?_ | refine pwp_rifE ?_
      intro K hK
      simp (disch := first | (refine Ok.mk ?_; (try simp only [Lm, La, Lc, Ln, Lt, Ld, Lr, Li, true_or, or_true, true_and, and_true]); omega) | (simp <;> fail) | skip) [runM_nil, h5']
      refine hK _ _ ?_
      clear hK K
      refine ifF (by simp [runM_nil, h5']) (pwp_skip ?_)
      first | refine pwp_sd hmix ?_ | refine pwp_drawM hmix ?_
      intro K hK
      simp (disch := first | (refine Ok.mk ?_; (try simp only [Lm, La, Lc, Ln, Lt, Ld, Lr, Li, true_or, or_true, true_and, and_true]); omega) | (simp <;> fail) | skip) [runM_nil, htk]
      refine useD (table_ok) ?_
      simp (disch := first | (refine Ok.mk ?_; (try simp only [Lm, La, Lc, Ln, Lt, Ld, Lr, Li, true_or, or_true, true_and, and_true]); omega) | (simp <;> fail) | skip) [runM_nil, htk]
      refine useD (c2) ?_
      simp (disch := first | (refine Ok.mk ?_; (try simp only [Lm, La, Lc, Ln, Lt, Ld, Lr, Li, true_or, or_true, true_and, and_true]); omega) | (simp <;> fail) | skip) [runM_nil, htk]
      refine hK _ _ ?_
      clear hK K
      by_cases h6 : e1 = 0
      · subst h6
        rw [if_neg (by simp)]
        have c3 := entries_ok (s := 1) (xs := o1.map u8) (o := false) rfl (.inl rfl) w1 (by omega) (b.length - r.length) (by omega)
        have hsub : (b.length : Int) - r.length = ((b.length - r.length : Nat) : Int) := by omega
        generalize entB o1 (b.length - r.length) = E at *
        generalize hq : b.length - r.length = q at *
        first | refine pwp_rif ?_ | refine pwp_rifE ?_
        intro K hK
        simp (disch := first | (refine Ok.mk ?_; (try simp only [Lm, La, Lc, Ln, Lt, Ld, Lr, Li, true_or, or_true, true_and, and_true]); omega) | (simp <;> fail) | skip) [runM_nil]
        refine hK _ _ ?_
        clear hK K
        refine ifF (by simp [runM_nil]) (pwp_skip ?_)
        first | refine pwp_sr ?_ | refine pwp_regionM ?_
        intro K hK
        simp (disch := first | (refine Ok.mk ?_; (try simp only [Lm, La, Lc, Ln, Lt, Ld, Lr, Li, true_or, or_true, true_and, and_true]); omega) | (simp <;> fail) | skip) [runM_nil, hxl, hsub]
        refine hK _ _ ?_
        clear hK K
        first | refine pwp_sr ?_ | refine pwp_regionM ?_
        intro K hK
        simp (disch := first | (refine Ok.mk ?_; (try simp only [Lm, La, Lc, Ln, Lt, Ld, Lr, Li, true_or, or_true, true_and, and_true]); omega) | (simp <;> fail) | skip) [runM_nil]
        refine useP (c3) ?_
        simp (disch := first | (refine Ok.mk ?_; (try simp only [Lm, La, Lc, Ln, Lt, Ld, Lr, Li, true_or, or_true, true_and, and_true]); omega) | (simp <;> fail) | skip) [runM_nil]
        refine hK _ _ ?_
        clear hK K
        first | refine pwp_sr ?_ | refine pwp_regionM ?_
        intro K hK
        simp (disch := first | (refine Ok.mk ?_; (try simp only [Lm, La, Lc, Ln, Lt, Ld, Lr, Li, true_or, or_true, true_and, and_true]); omega) | (simp <;> fail) | skip) [runM_nil]
        refine hK _ _ ?_
        clear hK K
        refine pwp_ret ⟨.inr rfl, _, _, _, (by simp [runM_nil, resL]; rfl), .refl _, by simp [resV], rfl, rfl⟩
      · have h6' : ¬ (e1 : Int) = 0 := by omega
        rw [if_pos h6]
        first | refine pwp_rif ?_ | refine pwp_rifE ?_
        intro K hK
        simp (disch := first | (refine Ok.mk ?_; (try simp only [Lm, La, Lc, Ln, Lt, Ld, Lr, Li, true_or, or_true, true_and, and_true]); omega) | (simp <;> fail) | skip) [runM_nil, h6, h6']
        refine hK _ _ ?_
        clear hK K
        refine ifT (by simp [runM_nil, h6, h6']) ?_
        first | refine pwp_sr ?_ | refine pwp_regionM ?_
        intro K hK
        simp (disch := first | (refine Ok.mk ?_; (try simp only [Lm, La, Lc, Ln, Lt, Ld, Lr, Li, true_or, or_true, true_and, and_true]); omega) | (simp <;> fail) | skip) [runM_nil]
        refine hK _ _ ?_
        clear hK K
        refine pwp_retT ⟨.inr rfl, _, _, _, (by simp [runM_nil, resL]; rfl), .refl _, by simp [resV], rfl, rfl⟩
  · have h3' : ¬ (e : Int) = 0 := by omega
    first | refine pwp_rif ?_ | refine pwp_rifE ?_
    intro K hK
    simp (disch := first | (refine Ok.mk ?_; (try simp only [Lm, La, Lc, Ln, Lt, Ld, Lr, Li, true_or, or_true, true_and, and_true]); omega) | (simp <;> fail) | skip) [runM_nil, h3, h3']
    refine hK _ _ ?_
    clear hK K
    refine ifT (by simp [runM_nil, h3, h3']) ?_
    first | refine pwp_sr ?_ | refine pwp_regionM ?_
    intro K hK
    simp (disch := first | (refine Ok.mk ?_; (try simp only [Lm, La, Lc, Ln, Lt, Ld, Lr, Li, true_or, or_true, true_and, and_true]); omega) | (simp <;> fail) | skip) [runM_nil]
    refine hK _ _ ?_
    clear hK K
    refine pwp_retT ⟨.inr rfl, _, _, _, (by simp [runM_nil, resL]; rfl), .refl _, by simp [resV, h3], rfl, rfl⟩
theorem names_ok {s : Nat} {xs : List PV} {o : Bool} {b : List Nat} (hx : xs = b.map u8) (hs : s = 1 ∨ b.length = 0) (hw : ∀ x ∈ b, x < 256) (hl : b.length ≤ 1000000) (hll : (lisB b).1.length ≤ 1000000) (he0 : (lisB b).2.2 ≠ 0 → (lisB b).1 = []) :
    PSpec Try.prog 15 [.lst s xs o] (.tup [.lst 1 ((lisB b).1.map fun e => .str (ci e.nm)) true, .lst 1 ((lisB b).1.map fun e => .int .i64 e.lg) true, .int .i64 ((lisB b).2.2 : Nat)]) := by
  intro H
  have hmix := mixS
  have c1 := list_ok (o := false) hx hs hw hl
  generalize lisB b = L at *
  obtain ⟨l, at_, e⟩ := L
  dsimp only at *
  refine spec_ofU t15 (by simp [p15]) ?_
  simp only [p15]
  first | refine pwp_sr ?_ | refine pwp_regionM ?_
  intro K hK
  simp (disch := first | (refine Ok.mk ?_; (try simp only [Lm, La, Lc, Ln, Lt, Ld, Lr, Li, true_or, or_true, true_and, and_true]); omega) | (simp <;> fail) | skip) [runM_nil]
  refine hK _ _ ?_
  clear hK K
  first | refine pwp_sr ?_ | refine pwp_regionM ?_
  intro K hK
  simp (disch := first | (refine Ok.mk ?_; (try simp only [Lm, La, Lc, Ln, Lt, Ld, Lr, Li, true_or, or_true, true_and, and_true]); omega) | (simp <;> fail) | skip) [runM_nil]
  refine useP (c1) ?_
  simp (disch := first | (refine Ok.mk ?_; (try simp only [Lm, La, Lc, Ln, Lt, Ld, Lr, Li, true_or, or_true, true_and, and_true]); omega) | (simp <;> fail) | skip) [runM_nil]
  refine hK _ _ ?_
  clear hK K
  by_cases h3 : e = 0
  · subst h3
    have hge : ∀ i (h : i < l.length), (l.map beV)[i]? = some (.agg [.int .i64 l[i].at_, .str (ci l[i].nm), .int .i64 l[i].lg]) := fun i h => by rw [List.getElem?_map, List.getElem?_eq_getElem h]; rfl
    have hml : (l.map beV).length = l.length := List.length_map _
    first | refine pwp_rif ?_ | refine pwp_rifE ?_
    intro K hK
    simp (disch := first | (refine Ok.mk ?_; (try simp only [Lm, La, Lc, Ln, Lt, Ld, Lr, Li, true_or, or_true, true_and, and_true]); omega) | (simp <;> fail) | skip) [runM_nil]
    refine hK _ _ ?_
    clear hK K
    refine ifF (by simp [runM_nil]) (pwp_skip ?_)
    generalize l.map beV = es at *
    first | refine pwp_sr ?_ | refine pwp_regionM ?_
    intro K hK
    simp (disch := first | (refine Ok.mk ?_; (try simp only [Lm, La, Lc, Ln, Lt, Ld, Lr, Li, true_or, or_true, true_and, and_true]); omega) | (simp <;> fail) | skip) [runM_nil]
    refine hK _ _ ?_
    clear hK K
    first | refine pwp_sr ?_ | refine pwp_regionM ?_
    intro K hK
    simp (disch := first | (refine Ok.mk ?_; (try simp only [Lm, La, Lc, Ln, Lt, Ld, Lr, Li, true_or, or_true, true_and, and_true]); omega) | (simp <;> fail) | skip) [runM_nil]
    refine hK _ _ ?_
    clear hK K
    refine pwp_seq (pwp_seq ?_)
    first | refine pwp_sr ?_ | refine pwp_regionM ?_
    intro K hK
    simp (disch := first | (refine Ok.mk ?_; (try simp only [Lm, La, Lc, Ln, Lt, Ld, Lr, Li, true_or, or_true, true_and, and_true]); omega) | (simp <;> fail) | skip) [runM_nil, hml]
    refine hK _ _ ?_
    clear hK K
    refine pwp_block ?_
    refine pwp_loopU [8, 9, 21, 22, 23] (fun q st H' => ∃ i : Nat, i ≤ l.length ∧ q = l.length - i ∧ H' = H ∧ st = MS 40 [(8, .lst 1 ((l.take i).map fun e => .str (ci e.nm)) true), (9, .lst 1 ((l.take i).map fun e => .int .i64 e.lg) true), (21, .lst 3 es false), (22, .int .i64 l.length), (23, .int .i64 i)]) (n := l.length)
      ⟨_, _, keep_up (l' := [(8, .lst 1 [] true), (9, .lst 1 [] true), (21, .lst 3 es false), (22, .int .i64 l.length), (23, .int .i64 0)]) (by simp), List.Sublist.refl _, 0, Nat.zero_le _, rfl, rfl, by simp⟩ ?_
    rintro q st H' ⟨i, hi, rfl, hH, rfl⟩
    subst hH
    by_cases hlt : i < l.length
    · have hg := hge i hlt
      have hts := List.take_succ_eq_append_getElem hlt
      have hlt' : (i : Int) < l.length := by omega
      have htl : (l.take i).length = i := by simp; omega
      generalize l[i] = e at *
      first | refine pwp_sr ?_ | refine pwp_regionM ?_
      intro K hK
      simp (disch := first | (refine Ok.mk ?_; (try simp only [Lm, La, Lc, Ln, Lt, Ld, Lr, Li, true_or, or_true, true_and, and_true]); omega) | (simp <;> fail) | skip) [runM_nil, hlt']
      refine hK _ _ ?_
      clear hK K
      refine pwp_seq (pwp_cT (by simp) (pwp_skip ?_))
      refine pwp_seq (pwp_block ?_)
      first | refine pwp_sr ?_ | refine pwp_regionM ?_
      intro K hK
      simp (disch := first | (refine Ok.mk ?_; (try simp only [Lm, La, Lc, Ln, Lt, Ld, Lr, Li, true_or, or_true, true_and, and_true]); omega) | (simp <;> fail) | skip) [runM_nil, hg, hml]
      intro b11 h_b11
      try simp (disch := first | (refine Ok.mk ?_; (try simp only [Lm, La, Lc, Ln, Lt, Ld, Lr, Li, true_or, or_true, true_and, and_true]); omega) | (simp <;> fail) | skip) [runM_nil, hg, hml]
      refine hK _ _ ?_
      clear hK K
      first | refine pwp_sd hmix ?_ | refine pwp_drawM hmix ?_
      intro K hK
      simp (disch := first | (refine Ok.mk ?_; (try simp only [Lm, La, Lc, Ln, Lt, Ld, Lr, Li, true_or, or_true, true_and, and_true]); omega) | (simp <;> fail) | skip) [runM_nil, htl]
      refine hK _ _ ?_
      clear hK K
      first | refine pwp_sr ?_ | refine pwp_regionM ?_
      intro K hK
      simp (disch := first | (refine Ok.mk ?_; (try simp only [Lm, La, Lc, Ln, Lt, Ld, Lr, Li, true_or, or_true, true_and, and_true]); omega) | (simp <;> fail) | skip) [runM_nil]
      refine hK _ _ ?_
      clear hK K
      refine ⟨l.length - (i + 1), by omega, _, _, keep_up (l' := [(8, .lst 1 ((l.take (i + 1)).map fun e => .str (ci e.nm)) true), (9, .lst 1 ((l.take (i + 1)).map fun e => .int .i64 e.lg) true), (21, .lst 3 es false), (22, .int .i64 l.length), (23, .int .i64 ((i : Int) + 1))]) (by simp [hts]), List.Sublist.cons _ (.refl _), i + 1, by omega, rfl, rfl, by simp⟩
    · obtain rfl : i = l.length := by omega
      rw [List.take_length]
      first | refine pwp_sr ?_ | refine pwp_regionM ?_
      intro K hK
      simp (disch := first | (refine Ok.mk ?_; (try simp only [Lm, La, Lc, Ln, Lt, Ld, Lr, Li, true_or, or_true, true_and, and_true]); omega) | (simp <;> fail) | skip) [runM_nil]
      refine hK _ _ ?_
      clear hK K
      refine pwp_seq (pwp_cF (by simp) (pwp_exit ?_))
      first | refine pwp_sr ?_ | refine pwp_regionM ?_
      intro K hK
      simp (disch := first | (refine Ok.mk ?_; (try simp only [Lm, La, Lc, Ln, Lt, Ld, Lr, Li, true_or, or_true, true_and, and_true]); omega) | (simp <;> fail) | skip) [runM_nil]
      refine hK _ _ ?_
      clear hK K
      refine pwp_ret ⟨.inr rfl, _, _, _, (by simp [runM_nil, resL]; rfl), .refl _, by simp [resV], rfl, rfl⟩
  · have h3' : ¬ (e : Int) = 0 := by omega
    rw [he0 h3]
    first | refine pwp_rif ?_ | refine pwp_rifE ?_
    intro K hK
    simp (disch := first | (refine Ok.mk ?_; (try simp only [Lm, La, Lc, Ln, Lt, Ld, Lr, Li, true_or, or_true, true_and, and_true]); omega) | (simp <;> fail) | skip) [runM_nil, h3, h3']
    refine hK _ _ ?_
    clear hK K
    refine ifT (by simp [runM_nil, h3, h3']) ?_
    first | refine pwp_sr ?_ | refine pwp_regionM ?_
    intro K hK
    simp (disch := first | (refine Ok.mk ?_; (try simp only [Lm, La, Lc, Ln, Lt, Ld, Lr, Li, true_or, or_true, true_and, and_true]); omega) | (simp <;> fail) | skip) [runM_nil]
    refine hK _ _ ?_
    clear hK K
    refine pwp_retT ⟨.inr rfl, _, _, _, (by simp [runM_nil, resL]; rfl), .refl _, by simp [resV, h3], rfl, rfl⟩
end Go.Proofs.Ytmpomnnaoggdkaa.E
/- A bundle's files, and one of them. -/
namespace Go.Proofs.Ytmpomnnaoggdkaa.E
open Go Go.RowKit Go.Proofs
set_option linter.unusedVariables false
set_option linter.unusedSimpArgs false
/-- The files from a place on, that are whole. -/
def scnL (b : List Nat) : List Be → Nat → List (Be × List Nat) × Nat × Nat
  | [], k => ([], k, if k < b.length then 3 else 0)
  | x :: l, k => if b.length < k + x.lg + 4 then ([], k, 3) else if (opened tbl ((b.drop k).take (x.lg + 4))).2 ≠ 0 then ([], k, 3) else
    ((x, (opened tbl ((b.drop k).take (x.lg + 4))).1) :: (scnL b l (k + x.lg + 4)).1, (scnL b l (k + x.lg + 4)).2)
def scnB (b : List Nat) : List (Be × List Nat) × Nat × Nat := if (lisB b).2.2 ≠ 0 then ([], 0, (lisB b).2.2) else scnL b (lisB b).1 (lisB b).2.1
def pcB (p : Be × List Nat) : PV := .agg [.int .i64 p.1.at_, .lst 1 [.lst 1 [.str (ci p.1.nm), .str (ci p.2)] false] false]
def scnV (x : List (Be × List Nat) × Nat × Nat) : PV := .tup [.lst 2 (x.1.map pcB) true, .int .i64 (x.2.1 : Nat), .int .i64 (x.2.2 : Nat)]
theorem scan10_ok {s : Nat} {xs : List PV} {o : Bool} {b : List Nat} (hx : xs = b.map u8) (hs : s = 1 ∨ b.length = 0) (hw : ∀ x ∈ b, x < 256) (hl : b.length ≤ 1000000) (hll : (lisB b).1.length ≤ 1000000) (hat : (lisB b).2.1 ≤ b.length) (hlg : ∀ e ∈ (lisB b).1, e.lg ≤ 1000) :
    PSpec Try.prog 11 [.lst s xs o] (scnV (scnB b)) := by
  intro H
  have hmix := mixS
  have hxl : xs.length = b.length := by rw [hx, List.length_map]
  have c1 := list_ok (o := false) hx hs hw hl
  unfold scnB
  generalize lisB b = L at *
  obtain ⟨l, k0, e⟩ := L
  dsimp only at *
  refine spec_ofU t11 (by simp [p11]) ?_
  simp only [p11]
  first | refine pwp_sr ?_ | refine pwp_regionM ?_
  intro K hK
  simp (disch := first | (refine Ok.mk ?_; (try simp only [Lm, La, Lc, Ln, Lt, Ld, Lr, Li, true_or, or_true, true_and, and_true]); omega) | (simp <;> fail) | skip) [runM_nil]
  refine hK _ _ ?_
  clear hK K
  first | refine pwp_sr ?_ | refine pwp_regionM ?_
  intro K hK
  simp (disch := first | (refine Ok.mk ?_; (try simp only [Lm, La, Lc, Ln, Lt, Ld, Lr, Li, true_or, or_true, true_and, and_true]); omega) | (simp <;> fail) | skip) [runM_nil]
  refine useP (c1) ?_
  simp (disch := first | (refine Ok.mk ?_; (try simp only [Lm, La, Lc, Ln, Lt, Ld, Lr, Li, true_or, or_true, true_and, and_true]); omega) | (simp <;> fail) | skip) [runM_nil]
  refine hK _ _ ?_
  clear hK K
  by_cases h3 : e = 0
  · subst h3
    rw [if_neg (by simp)]
    have hge : ∀ i (h : i < l.length), (l.map beV)[i]? = some (.agg [.int .i64 l[i].at_, .str (ci l[i].nm), .int .i64 l[i].lg]) := fun i h => by rw [List.getElem?_map, List.getElem?_eq_getElem h]; rfl
    have hml : (l.map beV).length = l.length := List.length_map _
    first | refine pwp_rif ?_ | refine pwp_rifE ?_
    intro K hK
    simp (disch := first | (refine Ok.mk ?_; (try simp only [Lm, La, Lc, Ln, Lt, Ld, Lr, Li, true_or, or_true, true_and, and_true]); omega) | (simp <;> fail) | skip) [runM_nil]
    refine hK _ _ ?_
    clear hK K
    refine ifF (by simp [runM_nil]) (pwp_skip ?_)
    generalize l.map beV = es at *
    first | refine pwp_sr ?_ | refine pwp_regionM ?_
    intro K hK
    simp (disch := first | (refine Ok.mk ?_; (try simp only [Lm, La, Lc, Ln, Lt, Ld, Lr, Li, true_or, or_true, true_and, and_true]); omega) | (simp <;> fail) | skip) [runM_nil]
    refine hK _ _ ?_
    clear hK K
    first | refine pwp_sr ?_ | refine pwp_regionM ?_
    intro K hK
    simp (disch := first | (refine Ok.mk ?_; (try simp only [Lm, La, Lc, Ln, Lt, Ld, Lr, Li, true_or, or_true, true_and, and_true]); omega) | (simp <;> fail) | skip) [runM_nil]
    refine useP (table_ok) ?_
    simp (disch := first | (refine Ok.mk ?_; (try simp only [Lm, La, Lc, Ln, Lt, Ld, Lr, Li, true_or, or_true, true_and, and_true]); omega) | (simp <;> fail) | skip) [runM_nil]
    refine hK _ _ ?_
    clear hK K
    refine pwp_seq (pwp_seq ?_)
    first | refine pwp_sr ?_ | refine pwp_regionM ?_
    intro K hK
    simp (disch := first | (refine Ok.mk ?_; (try simp only [Lm, La, Lc, Ln, Lt, Ld, Lr, Li, true_or, or_true, true_and, and_true]); omega) | (simp <;> fail) | skip) [runM_nil, hml]
    refine hK _ _ ?_
    clear hK K
    refine pwp_block ?_
    refine pwp_loopU [0, 6, 8, 9, 25, 26, 27] (fun q st H' => ∃ (i k : Nat) (acc : List (Be × List Nat)), i ≤ l.length ∧ k ≤ b.length ∧ acc.length = i ∧ scnL b l k0 = (acc ++ (scnL b (l.drop i) k).1, (scnL b (l.drop i) k).2) ∧ q = l.length - i ∧ H' = H ∧
        st = MS 77 [(0, .lst s xs o), (6, .int .i64 k), (8, .lst 2 (acc.map pcB) true), (9, .lst 1 (tbl.map u32) false), (25, .lst 3 es false), (26, .int .i64 l.length), (27, .int .i64 i)]) (n := l.length)
      ⟨_, _, keep_up (l' := [(0, .lst s xs o), (6, .int .i64 k0), (8, .lst 2 [] true), (9, .lst 1 (tbl.map u32) false), (25, .lst 3 es false), (26, .int .i64 l.length), (27, .int .i64 0)]) (by simp), List.Sublist.refl _, 0, k0, [], Nat.zero_le _, hat, rfl, rfl, rfl, rfl, by simp⟩ ?_
    rintro q st H' ⟨i, k, acc, hi, hk, hac, hsc, rfl, hH, rfl⟩
    subst hH
    by_cases hlt : i < l.length
    · have hg := hge i hlt
      have hlg1 := hlg _ (List.getElem_mem hlt)
      rw [List.drop_eq_getElem_cons hlt, scnL] at hsc
      have hlt' : (i : Int) < l.length := by omega
      generalize l[i] = e at *
      first | refine pwp_sr ?_ | refine pwp_regionM ?_
      intro K hK
      simp (disch := first | (refine Ok.mk ?_; (try simp only [Lm, La, Lc, Ln, Lt, Ld, Lr, Li, true_or, or_true, true_and, and_true]); omega) | (simp <;> fail) | skip) [runM_nil, hlt']
      refine hK _ _ ?_
      clear hK K
      refine pwp_seq (pwp_cT (by simp) (pwp_skip ?_))
      refine pwp_seq (pwp_block ?_)
      first | refine pwp_sr ?_ | refine pwp_regionM ?_
      intro K hK
      simp (disch := first | (refine Ok.mk ?_; (try simp only [Lm, La, Lc, Ln, Lt, Ld, Lr, Li, true_or, or_true, true_and, and_true]); omega) | (simp <;> fail) | skip) [runM_nil, hg, hml]
      intro b11 h_b11
      try simp (disch := first | (refine Ok.mk ?_; (try simp only [Lm, La, Lc, Ln, Lt, Ld, Lr, Li, true_or, or_true, true_and, and_true]); omega) | (simp <;> fail) | skip) [runM_nil, hg, hml]
      refine hK _ _ ?_
      clear hK K
      first | refine pwp_sr ?_ | refine pwp_regionM ?_
      intro K hK
      simp (disch := first | (refine Ok.mk ?_; (try simp only [Lm, La, Lc, Ln, Lt, Ld, Lr, Li, true_or, or_true, true_and, and_true]); omega) | (simp <;> fail) | skip) [runM_nil]
      refine hK _ _ ?_
      clear hK K
      by_cases h6 : b.length < k + e.lg + 4
      · have h6' : (b.length : Int) < (k : Int) + e.lg + 4 := by omega
        rw [if_pos h6, List.append_nil] at hsc
        first | refine pwp_rif ?_ | refine pwp_rifE ?_
        intro K hK
        simp (disch := first | (refine Ok.mk ?_; (try simp only [Lm, La, Lc, Ln, Lt, Ld, Lr, Li, true_or, or_true, true_and, and_true]); omega) | (simp <;> fail) | skip) [runM_nil, hxl, h6']
        refine hK _ _ ?_
        clear hK K
        refine ifT (by simp [runM_nil, hxl, h6']) ?_
        first | refine pwp_sr ?_ | refine pwp_regionM ?_
        intro K hK
        simp (disch := first | (refine Ok.mk ?_; (try simp only [Lm, La, Lc, Ln, Lt, Ld, Lr, Li, true_or, or_true, true_and, and_true]); omega) | (simp <;> fail) | skip) [runM_nil]
        refine hK _ _ ?_
        clear hK K
        refine pwp_ret ⟨.inr rfl, _, _, _, (by simp [runM_nil, resL]; rfl), (.cons _ (.refl _)), by rw [hsc]; simp [resV, scnV], rfl, rfl⟩
      · have h6' : ¬ (b.length : Int) < (k : Int) + e.lg + 4 := by omega
        rw [if_neg h6] at hsc
        have htw : ∀ x ∈ (b.drop k).take (e.lg + 4), x < 256 := fun x hx => hw x (List.mem_of_mem_drop (List.mem_of_mem_take hx))
        have htl : ((b.drop k).take (e.lg + 4)).length ≤ b.length := by simp; omega
        have hs1 : s = 1 ∨ ((b.drop k).take (e.lg + 4)).length = 0 := hs.imp id fun h => by simp; omega
        have c2 := open_ok tbl_length tbl_lt (ot := false) (o := false) (s := s) (xs := ((b.drop k).take (e.lg + 4)).map u8) rfl hs1 htw (by omega)
        have hdt : (xs.take (k + e.lg + 4)).drop k = ((b.drop k).take (e.lg + 4)).map u8 := by
          rw [hx, ← List.map_take, ← List.map_drop, List.drop_take, show k + e.lg + 4 - k = e.lg + 4 by omega]
        have htn : ((k : Int) + e.lg + 4).toNat = k + e.lg + 4 := by omega
        have hs2 : s = 1 ∨ xs.length = 0 := by rw [hxl]; exact hs
        obtain ⟨w1, w2, _⟩ := opened_wf (t := tbl) htw
        generalize (b.drop k).take (e.lg + 4) = rt at *
        generalize opened tbl rt = O at *
        obtain ⟨o1, e1⟩ := O
        dsimp only at *
        have v1 : ∀ o, cvSP (.lst 1 (o1.map u8) o) = some (.str (ci o1)) := fun o => cvS_u8 rfl (.inl rfl) w1
        first | refine pwp_rif ?_ | refine pwp_rifE ?_
        intro K hK
        simp (disch := first | (refine Ok.mk ?_; (try simp only [Lm, La, Lc, Ln, Lt, Ld, Lr, Li, true_or, or_true, true_and, and_true]); omega) | (simp <;> fail) | skip) [runM_nil, hxl, h6']
        refine hK _ _ ?_
        clear hK K
        refine ifF (by simp [runM_nil, hxl, h6']) (pwp_skip ?_)
        first | refine pwp_sr ?_ | refine pwp_regionM ?_
        intro K hK
        simp (disch := first | (refine Ok.mk ?_; (try simp only [Lm, La, Lc, Ln, Lt, Ld, Lr, Li, true_or, or_true, true_and, and_true]); omega) | (simp <;> fail) | skip) [runM_nil, htn, hdt]
        refine useP (c2) ?_
        simp (disch := first | (refine Ok.mk ?_; (try simp only [Lm, La, Lc, Ln, Lt, Ld, Lr, Li, true_or, or_true, true_and, and_true]); omega) | (simp <;> fail) | skip) [runM_nil, htn, hdt]
        refine hK _ _ ?_
        clear hK K
        by_cases h7 : e1 = 0
        · subst h7
          rw [if_neg (by simp)] at hsc
          first | refine pwp_rif ?_ | refine pwp_rifE ?_
          intro K hK
          simp (disch := first | (refine Ok.mk ?_; (try simp only [Lm, La, Lc, Ln, Lt, Ld, Lr, Li, true_or, or_true, true_and, and_true]); omega) | (simp <;> fail) | skip) [runM_nil]
          refine hK _ _ ?_
          clear hK K
          refine ifF (by simp [runM_nil]) (pwp_skip ?_)
          first | refine pwp_sr ?_ | refine pwp_regionM ?_
          intro K hK
          simp (disch := first | (refine Ok.mk ?_; (try simp only [Lm, La, Lc, Ln, Lt, Ld, Lr, Li, true_or, or_true, true_and, and_true]); omega) | (simp <;> fail) | skip) [runM_nil, v1]
          refine hK _ _ ?_
          clear hK K
          first | refine pwp_sr ?_ | refine pwp_regionM ?_
          intro K hK
          simp (disch := first | (refine Ok.mk ?_; (try simp only [Lm, La, Lc, Ln, Lt, Ld, Lr, Li, true_or, or_true, true_and, and_true]); omega) | (simp <;> fail) | skip) [runM_nil]
          refine hK _ _ ?_
          clear hK K
          refine ⟨l.length - (i + 1), by omega, _, _, keep_up (l' := [(0, .lst s xs o), (6, .int .i64 ((k : Int) + e.lg + 4)), (8, .lst 2 ((acc ++ [(e, o1)]).map pcB) true), (9, .lst 1 (tbl.map u32) false), (25, .lst 3 es false), (26, .int .i64 l.length), (27, .int .i64 ((i : Int) + 1))]) (by simp [pcB]), List.Sublist.cons _ (.refl _), i + 1, k + e.lg + 4, acc ++ [(e, o1)], by omega, by omega, by simp; omega, ?_, rfl, rfl, by simp⟩
          rw [hsc, List.append_assoc]
          rfl
        · have h7' : ¬ (e1 : Int) = 0 := by omega
          rw [if_pos h7, List.append_nil] at hsc
          first | refine pwp_rif ?_ | refine pwp_rifE ?_
          intro K hK
          simp (disch := first | (refine Ok.mk ?_; (try simp only [Lm, La, Lc, Ln, Lt, Ld, Lr, Li, true_or, or_true, true_and, and_true]); omega) | (simp <;> fail) | skip) [runM_nil, h7, h7']
          refine hK _ _ ?_
          clear hK K
          refine ifT (by simp [runM_nil, h7, h7']) ?_
          first | refine pwp_sr ?_ | refine pwp_regionM ?_
          intro K hK
          simp (disch := first | (refine Ok.mk ?_; (try simp only [Lm, La, Lc, Ln, Lt, Ld, Lr, Li, true_or, or_true, true_and, and_true]); omega) | (simp <;> fail) | skip) [runM_nil]
          refine hK _ _ ?_
          clear hK K
          refine pwp_ret ⟨.inr rfl, _, _, _, (by simp [runM_nil, resL]; rfl), (.cons _ (.refl _)), by rw [hsc]; simp [resV, scnV], rfl, rfl⟩
    · obtain rfl : i = l.length := by omega
      rw [List.drop_length, scnL, List.append_nil] at hsc
      first | refine pwp_sr ?_ | refine pwp_regionM ?_
      intro K hK
      simp (disch := first | (refine Ok.mk ?_; (try simp only [Lm, La, Lc, Ln, Lt, Ld, Lr, Li, true_or, or_true, true_and, and_true]); omega) | (simp <;> fail) | skip) [runM_nil]
      refine hK _ _ ?_
      clear hK K
      refine pwp_seq (pwp_cF (by simp) (pwp_exit ?_))
      by_cases h8 : k < b.length
      · have h8' : (k : Int) < b.length := by omega
        rw [if_pos h8] at hsc
        first | refine pwp_rif ?_ | refine pwp_rifE ?_
        intro K hK
        simp (disch := first | (refine Ok.mk ?_; (try simp only [Lm, La, Lc, Ln, Lt, Ld, Lr, Li, true_or, or_true, true_and, and_true]); omega) | (simp <;> fail) | skip) [runM_nil, hxl, h8']
        refine hK _ _ ?_
        clear hK K
        refine ifT (by simp [runM_nil, hxl, h8']) ?_
        first | refine pwp_sr ?_ | refine pwp_regionM ?_
        intro K hK
        simp (disch := first | (refine Ok.mk ?_; (try simp only [Lm, La, Lc, Ln, Lt, Ld, Lr, Li, true_or, or_true, true_and, and_true]); omega) | (simp <;> fail) | skip) [runM_nil]
        refine hK _ _ ?_
        clear hK K
        refine pwp_retT ⟨.inr rfl, _, _, _, (by simp [runM_nil, resL]; rfl), .refl _, by rw [hsc]; simp [resV, scnV], rfl, rfl⟩
      · have h8' : ¬ (k : Int) < b.length := by omega
        rw [if_neg h8] at hsc
        first | refine pwp_rif ?_ | refine pwp_rifE ?_
        intro K hK
        simp (disch := first | (refine Ok.mk ?_; (try simp only [Lm, La, Lc, Ln, Lt, Ld, Lr, Li, true_or, or_true, true_and, and_true]); omega) | (simp <;> fail) | skip) [runM_nil, hxl, h8']
        refine hK _ _ ?_
        clear hK K
        refine ifF (by simp [runM_nil, hxl, h8']) (pwp_skip ?_)
        first | refine pwp_sr ?_ | refine pwp_regionM ?_
        intro K hK
        simp (disch := first | (refine Ok.mk ?_; (try simp only [Lm, La, Lc, Ln, Lt, Ld, Lr, Li, true_or, or_true, true_and, and_true]); omega) | (simp <;> fail) | skip) [runM_nil]
        refine hK _ _ ?_
        clear hK K
        refine pwp_ret ⟨.inr rfl, _, _, _, (by simp [runM_nil, resL]; rfl), .refl _, by rw [hsc]; simp [resV, scnV], rfl, rfl⟩
  · have h3' : ¬ (e : Int) = 0 := by omega
    rw [if_pos h3]
    first | refine pwp_rif ?_ | refine pwp_rifE ?_
    intro K hK
    simp (disch := first | (refine Ok.mk ?_; (try simp only [Lm, La, Lc, Ln, Lt, Ld, Lr, Li, true_or, or_true, true_and, and_true]); omega) | (simp <;> fail) | skip) [runM_nil, h3, h3']
    refine hK _ _ ?_
    clear hK K
    refine ifT (by simp [runM_nil, h3, h3']) ?_
    first | refine pwp_sr ?_ | refine pwp_regionM ?_
    intro K hK
    simp (disch := first | (refine Ok.mk ?_; (try simp only [Lm, La, Lc, Ln, Lt, Ld, Lr, Li, true_or, or_true, true_and, and_true]); omega) | (simp <;> fail) | skip) [runM_nil]
    refine hK _ _ ?_
    clear hK K
    refine pwp_retT ⟨.inr rfl, _, _, _, (by simp [runM_nil, resL]; rfl), .refl _, by simp [resV, scnV], rfl, rfl⟩
theorem isNm_ok (e : Be) (nm : List Nat) : PSpec Try.prog 27 [beV e, .ip 1 [.str (ci nm)] 0 0] (.bool (decide (e.nm = nm))) := by
  intro H
  refine spec_of t27 (by simp [p27]) ?_
  simp only [p27, beV]
  first | refine pwp_sr ?_ | refine pwp_regionM ?_
  intro K hK
  simp (disch := first | (refine Ok.mk ?_; (try simp only [Lm, La, Lc, Ln, Lt, Ld, Lr, Li, true_or, or_true, true_and, and_true]); omega) | (simp <;> fail) | skip) [runM_nil]
  refine hK _ _ ?_
  clear hK K
  first | refine pwp_sr ?_ | refine pwp_regionM ?_
  intro K hK
  simp (disch := first | (refine Ok.mk ?_; (try simp only [Lm, La, Lc, Ln, Lt, Ld, Lr, Li, true_or, or_true, true_and, and_true]); omega) | (simp <;> fail) | skip) [runM_nil, strP]
  refine hK _ _ ?_
  clear hK K
  refine pwp_ret ⟨.inr rfl, _, _, (by simp (disch := first | (refine Ok.mk ?_; (try simp only [Lm, La, Lc, Ln, Lt, Ld, Lr, Li, true_or, or_true, true_and, and_true]); omega) | (simp <;> fail) | skip) [runM_nil, resL]; rfl), .refl _, by simp (disch := first | (refine Ok.mk ?_; (try simp only [Lm, La, Lc, Ln, Lt, Ld, Lr, Li, true_or, or_true, true_and, and_true]); omega) | (simp <;> fail) | skip) [resV], rfl⟩
/-- The place of a name. -/
def idxB (l : List Be) (nm : List Nat) : Nat := l.findIdx fun e => decide (e.nm = nm)
theorem indexFunc_ok {l : List Be} (hl : l.length ≤ 1000000) (nm : List Nat) {o : Bool} :
    PSpec Try.prog 26 [.lst 3 (l.map beV) o, .fn (.func 27) [] [.ip 1 [.str (ci nm)] 0 0]] (.int .i64 (if idxB l nm < l.length then ((idxB l nm : Nat) : Int) else -1)) := by
  intro H
  have hge : ∀ i (h : i < l.length), (l.map beV)[i]? = some (beV l[i]) := fun i h => by rw [List.getElem?_map, List.getElem?_eq_getElem h]; rfl
  have hml : (l.map beV).length = l.length := List.length_map _
  refine spec_of t26 (by simp [p26]) ?_
  simp only [p26]
  generalize l.map beV = es at *
  first | refine pwp_sr ?_ | refine pwp_regionM ?_
  intro K hK
  simp (disch := first | (refine Ok.mk ?_; (try simp only [Lm, La, Lc, Ln, Lt, Ld, Lr, Li, true_or, or_true, true_and, and_true]); omega) | (simp <;> fail) | skip) [runM_nil]
  refine hK _ _ ?_
  clear hK K
  refine pwp_seq (pwp_seq ?_)
  first | refine pwp_sr ?_ | refine pwp_regionM ?_
  intro K hK
  simp (disch := first | (refine Ok.mk ?_; (try simp only [Lm, La, Lc, Ln, Lt, Ld, Lr, Li, true_or, or_true, true_and, and_true]); omega) | (simp <;> fail) | skip) [runM_nil, hml]
  refine hK _ _ ?_
  clear hK K
  refine pwp_block ?_
  refine pwp_loopK [0, 1, 7, 8] (fun q st H' => ∃ i : Nat, i ≤ l.length ∧ i ≤ idxB l nm ∧ q = l.length - i ∧ H' = H ∧ st = MS 19 [(0, .lst 3 es o), (1, .fn (.func 27) [] [.ip 1 [.str (ci nm)] 0 0]), (7, .int .i64 l.length), (8, .int .i64 i)]) (n := l.length)
    ⟨_, .refl _, 0, Nat.zero_le _, Nat.zero_le _, rfl, rfl, by simp [keepL_MS, keepA, getS]⟩ ?_
  rintro q st H' ⟨i, hi, hix, rfl, hH, rfl⟩
  subst hH
  by_cases hlt : i < l.length
  · have hg := hge i hlt
    have hlt' : (i : Int) < l.length := by omega
    have hstep : l[i].nm = nm → idxB l nm = i := fun h => by
      refine Nat.le_antisymm ?_ hix
      refine Nat.le_of_not_lt fun hlt2 => ?_
      have := List.not_of_lt_findIdx (p := fun e : Be => decide (e.nm = nm)) (xs := l) (i := i) hlt2
      simp [h] at this
    have hnext : l[i].nm ≠ nm → i + 1 ≤ idxB l nm := fun h => by
      refine Nat.succ_le_of_lt (Nat.lt_of_le_of_ne hix fun he => ?_)
      have h1 : idxB l nm < l.length := by omega
      have := List.findIdx_getElem (p := fun e : Be => decide (e.nm = nm)) (xs := l) (w := h1)
      simp only [decide_eq_true_eq] at this
      subst he
      exact h this
    generalize l[i] = e at *
    have c := isNm_ok e nm
    first | refine pwp_sr ?_ | refine pwp_regionM ?_
    intro K hK
    simp (disch := first | (refine Ok.mk ?_; (try simp only [Lm, La, Lc, Ln, Lt, Ld, Lr, Li, true_or, or_true, true_and, and_true]); omega) | (simp <;> fail) | skip) [runM_nil, hlt']
    refine hK _ _ ?_
    clear hK K
    refine pwp_seq (pwp_cT (by simp) (pwp_skip ?_))
    refine pwp_seq (pwp_block ?_)
    first | refine pwp_sr ?_ | refine pwp_regionM ?_
    intro K hK
    simp (disch := first | (refine Ok.mk ?_; (try simp only [Lm, La, Lc, Ln, Lt, Ld, Lr, Li, true_or, or_true, true_and, and_true]); omega) | (simp <;> fail) | skip) [runM_nil]
    refine hK _ _ ?_
    clear hK K
    obtain ⟨ea, en, el⟩ := e
    simp only [beV] at hg c
    dsimp only at hstep hnext
    by_cases he : en = nm
    · have hs1 := hstep he
      rw [decide_eq_true he] at c
      first | refine pwp_rif ?_ | refine pwp_rifE ?_
      intro K hK
      simp (disch := first | (refine Ok.mk ?_; (try simp only [Lm, La, Lc, Ln, Lt, Ld, Lr, Li, true_or, or_true, true_and, and_true]); omega) | (simp <;> fail) | skip) [runM_nil, hg, hml]
      refine useP (c) ?_
      simp (disch := first | (refine Ok.mk ?_; (try simp only [Lm, La, Lc, Ln, Lt, Ld, Lr, Li, true_or, or_true, true_and, and_true]); omega) | (simp <;> fail) | skip) [runM_nil, hg, hml]
      refine hK _ _ ?_
      clear hK K
      refine ifT (by simp (disch := first | (refine Ok.mk ?_; (try simp only [Lm, La, Lc, Ln, Lt, Ld, Lr, Li, true_or, or_true, true_and, and_true]); omega) | (simp <;> fail) | skip) [runM_nil]) ?_
      first | refine pwp_sr ?_ | refine pwp_regionM ?_
      intro K hK
      simp (disch := first | (refine Ok.mk ?_; (try simp only [Lm, La, Lc, Ln, Lt, Ld, Lr, Li, true_or, or_true, true_and, and_true]); omega) | (simp <;> fail) | skip) [runM_nil]
      refine hK _ _ ?_
      clear hK K
      refine pwp_ret ⟨.inr rfl, _, _, (by simp [runM_nil, resL]; rfl), .refl _, by simp [resV, hs1, hlt], rfl⟩
    · rw [decide_eq_false he] at c
      first | refine pwp_rif ?_ | refine pwp_rifE ?_
      intro K hK
      simp (disch := first | (refine Ok.mk ?_; (try simp only [Lm, La, Lc, Ln, Lt, Ld, Lr, Li, true_or, or_true, true_and, and_true]); omega) | (simp <;> fail) | skip) [runM_nil, hg, hml]
      refine useP (c) ?_
      simp (disch := first | (refine Ok.mk ?_; (try simp only [Lm, La, Lc, Ln, Lt, Ld, Lr, Li, true_or, or_true, true_and, and_true]); omega) | (simp <;> fail) | skip) [runM_nil, hg, hml]
      refine hK _ _ ?_
      clear hK K
      refine ifF (by simp [runM_nil]) (pwp_skip ?_)
      first | refine pwp_sr ?_ | refine pwp_regionM ?_
      intro K hK
      simp (disch := first | (refine Ok.mk ?_; (try simp only [Lm, La, Lc, Ln, Lt, Ld, Lr, Li, true_or, or_true, true_and, and_true]); omega) | (simp <;> fail) | skip) [runM_nil]
      refine hK _ _ ?_
      clear hK K
      exact ⟨l.length - (i + 1), by omega, _, .refl _, i + 1, by omega, hnext he, rfl, rfl, by simp [keepL_MS, keepA, getS]⟩
  · obtain rfl : i = l.length := by omega
    have hn : ¬ idxB l nm < l.length := by omega
    first | refine pwp_sr ?_ | refine pwp_regionM ?_
    intro K hK
    simp (disch := first | (refine Ok.mk ?_; (try simp only [Lm, La, Lc, Ln, Lt, Ld, Lr, Li, true_or, or_true, true_and, and_true]); omega) | (simp <;> fail) | skip) [runM_nil]
    refine hK _ _ ?_
    clear hK K
    refine pwp_seq (pwp_cF (by simp) (pwp_exit ?_))
    first | refine pwp_sr ?_ | refine pwp_regionM ?_
    intro K hK
    simp (disch := first | (refine Ok.mk ?_; (try simp only [Lm, La, Lc, Ln, Lt, Ld, Lr, Li, true_or, or_true, true_and, and_true]); omega) | (simp <;> fail) | skip) [runM_nil]
    refine hK _ _ ?_
    clear hK K
    refine pwp_ret ⟨.inr rfl, _, _, (by simp [runM_nil, resL]; rfl), .refl _, by simp [resV, hn], rfl⟩
end Go.Proofs.Ytmpomnnaoggdkaa.E
/- A file found; what a list is. -/
namespace Go.Proofs.Ytmpomnnaoggdkaa.E
open Go Go.RowKit Go.Proofs
set_option linter.unusedVariables false
set_option linter.unusedSimpArgs false
theorem lexLt_irrefl : ∀ a : List Int, lexLt a a = false
  | [] => rfl
  | x :: a => by simp [lexLt, lexLt_irrefl a]
theorem lexLt_trans : ∀ a b c : List Int, lexLt a b = true → lexLt b c = true → lexLt a c = true
  | _, [], _, h, _ => by simp [lexLt] at h
  | _, _ :: _, [], _, h => by simp [lexLt] at h
  | [], _ :: _, _ :: _, _, _ => rfl
  | x :: a, y :: b, z :: c, h1, h2 => by
    simp only [lexLt, Bool.or_eq_true, Bool.and_eq_true, decide_eq_true_eq] at *
    rcases h1 with h1 | ⟨h1, h1'⟩ <;> rcases h2 with h2 | ⟨h2, h2'⟩
    · exact .inl (by omega)
    · exact .inl (by omega)
    · exact .inl (by omega)
    · exact .inr ⟨by omega, lexLt_trans a b c h1' h2'⟩
def RiseL (l : List Be) : Prop := l.Pairwise fun e f => lexLt (ci e.nm) (ci f.nm) = true
theorem riseL_snoc {acc : List Be} {e : Be} (h : RiseL acc) (hr : riseB acc e.nm = true) : RiseL (acc ++ [e]) := by
  refine List.pairwise_append.2 ⟨h, List.pairwise_singleton _ _, fun x hx y hy => ?_⟩
  simp only [List.mem_singleton] at hy
  subst hy
  rcases List.eq_nil_or_concat acc with h0 | ⟨a, z, h0⟩
  · subst h0; cases hx
  · rw [List.concat_eq_append] at h0
    subst h0
    have hz : lexLt (ci z.nm) (ci y.nm) = true := by simpa [riseB] using hr
    rcases List.mem_append.1 hx with hx | hx
    · exact lexLt_trans _ _ _ ((List.pairwise_append.1 h).2.2 x hx z (by simp)) hz
    · simp only [List.mem_singleton] at hx
      subst hx
      exact hz
theorem entL_facts (f all : Nat) : ∀ (n : Nat) (acc : List Be) (b : List Nat) (l : List Be) (r : List Nat), (∀ x ∈ b, x < 256) → RiseL acc → (∀ e ∈ acc, e.lg ≤ 1000) → entL f all n acc b = some (l, r) → l.length = acc.length + n ∧ RiseL l ∧ ∀ e ∈ l, e.lg ≤ 1000
  | 0, acc, b, l, r, hw, h1, h2, h => by
    simp only [entL, Option.some.injEq, Prod.mk.injEq] at h
    obtain ⟨rfl, rfl⟩ := h
    exact ⟨rfl, h1, h2⟩
  | n + 1, acc, b, l, r, hw, h1, h2, h => by
    rw [entL] at h
    split at h
    · cases h
    · rename_i nm lg r2 hb
      obtain ⟨w1, w2, w3, w4, w5⟩ := beTake_wf hw hb
      split at h
      · rename_i hr
        obtain ⟨i1, i2, i3⟩ := entL_facts f all n _ r2 l r w2 (riseL_snoc (e := ⟨f + all - b.length, nm, lg⟩) h1 hr) (fun e he => by
          rcases List.mem_append.1 he with he | he
          · exact h2 e he
          · simp only [List.mem_singleton] at he
            subst he
            exact w4) h
        rw [List.length_append, List.length_singleton] at i1
        exact ⟨by omega, i2, i3⟩
      · cases h
theorem entB_facts {b : List Nat} (hw : ∀ x ∈ b, x < 256) (f : Nat) : (entB b f).1.length ≤ 1000 ∧ RiseL (entB b f).1 ∧ (∀ e ∈ (entB b f).1, e.lg ≤ 1000) ∧ ((entB b f).2 = 0 ∨ (entB b f).1 = [] ∧ (entB b f).2 = 3) := by
  have hr := vtake_wf hw
  unfold entB
  split
  · exact ⟨by simp, .nil, by simp, .inr ⟨rfl, rfl⟩⟩
  · rename_i hn
    split
    · exact ⟨by simp, .nil, by simp, .inr ⟨rfl, rfl⟩⟩
    · rename_i l r hl
      obtain ⟨i1, i2, i3⟩ := entL_facts f b.length _ [] _ l r hr .nil (by simp) hl
      split
      · exact ⟨by simp, .nil, by simp, .inr ⟨rfl, rfl⟩⟩
      · refine ⟨?_, i2, i3, .inl rfl⟩
        simp only [List.length_nil] at i1
        dsimp only
        omega
structure LisOk (b : List Nat) : Prop where
  len : (lisB b).1.length ≤ 1000
  at_ : (lisB b).2.1 ≤ b.length
  lg : ∀ e ∈ (lisB b).1, e.lg ≤ 1000
  rise : RiseL (lisB b).1
  err : (lisB b).2.2 = 0 ∨ (lisB b).1 = [] ∧ (lisB b).2.2 = 3
theorem lisB_ok {b : List Nat} (hw : ∀ x ∈ b, x < 256) : LisOk b := by
  have hr := vtake_wf hw
  have hrl : (vtake b).2.1.length ≤ b.length := (vtake_rest (s := b)).1
  by_cases h1 : (vtake b).2.2 ≠ 0 ∨ (vtake b).2.1.length < (vtake b).1
  · have e : lisB b = ([], 0, 3) := by rw [lisB, if_pos h1]
    exact ⟨by rw [e]; simp, by rw [e]; simp, by rw [e]; simp, by rw [e]; exact .nil, by rw [e]; exact .inr ⟨rfl, rfl⟩⟩
  · by_cases h2 : (opened tbl ((vtake b).2.1.take (vtake b).1)).2 ≠ 0
    · have e : lisB b = ([], 0, 3) := by rw [lisB, if_neg h1, if_pos h2]
      exact ⟨by rw [e]; simp, by rw [e]; simp, by rw [e]; simp, by rw [e]; exact .nil, by rw [e]; exact .inr ⟨rfl, rfl⟩⟩
    · have ho := (opened_wf (t := tbl) (s := (vtake b).2.1.take (vtake b).1) fun x hx => hr x (List.mem_of_mem_take hx)).1
      obtain ⟨i1, i2, i3, i4⟩ := entB_facts ho (b.length - (vtake b).2.1.length)
      refine ⟨?_, ?_, ?_, ?_, ?_⟩ <;> rw [lisB, if_neg h1, if_neg h2]
      · exact i1
      · dsimp only; omega
      · exact i3
      · exact i2
      · exact i4
theorem scnL_len (b : List Nat) : ∀ (l : List Be) (k : Nat), (scnL b l k).1.length ≤ l.length
  | [], k => Nat.le_refl _
  | x :: l, k => by
    rw [scnL]
    split
    · simp
    · split
      · simp
      · simp only [List.length_cons]
        have := scnL_len b l (k + x.lg + 4)
        omega
/-- Each file is the entry's own, as long as it says. -/
theorem scnL_get {b : List Nat} (hw : ∀ x ∈ b, x < 256) : ∀ (l : List Be) (k : Nat) (i : Nat) (p : Be × List Nat), (scnL b l k).1[i]? = some p → l[i]? = some p.1 ∧ p.2.length = p.1.lg ∧ ∀ x ∈ p.2, x < 256
  | [], k, i, p, h => by simp [scnL] at h
  | x :: l, k, i, p, h => by
    rw [scnL] at h
    split at h
    · simp at h
    · rename_i h1
      split at h
      · simp at h
      · rename_i h2
        cases i with
        | zero =>
          simp only [List.getElem?_cons_zero, Option.some.injEq] at h
          subst h
          have hwt : ∀ y ∈ (b.drop k).take (x.lg + 4), y < 256 := fun y hy => hw y (List.mem_of_mem_drop (List.mem_of_mem_take hy))
          obtain ⟨w1, _, w3⟩ := opened_wf (t := tbl) hwt
          refine ⟨rfl, ?_, w1⟩
          rw [w3 (Decidable.not_not.1 h2), List.length_take, List.length_drop]
          dsimp only
          omega
        | succ i =>
          simp only [List.getElem?_cons_succ] at h
          exact scnL_get hw l _ i p h
def fndB (b : List Nat) (nm : List Nat) : List Nat × Nat :=
  if (lisB b).2.2 ≠ 0 then ([], (lisB b).2.2) else if ¬ idxB (lisB b).1 nm < (lisB b).1.length then ([], 6) else match (scnB b).1[idxB (lisB b).1 nm]? with
    | none => ([], 16)
    | some p => (p.2, 0)
theorem find_ok {s : Nat} {xs : List PV} {o : Bool} {b : List Nat} (hx : xs = b.map u8) (hs : s = 1 ∨ b.length = 0) (hw : ∀ x ∈ b, x < 256) (hl : b.length ≤ 1000000) (nm : List Nat) :
    PSpec Try.prog 10 [.lst s xs o, .str (ci nm)] (.tup [.str (ci (fndB b nm).1), .int .i64 ((fndB b nm).2 : Nat)]) := by
  intro H
  have hO := lisB_ok hw
  have c1 := list_ok (o := false) hx hs hw hl
  have c2 := scan10_ok (o := false) hx hs hw hl (by have := hO.len; omega) hO.at_ hO.lg
  have c3 := indexFunc_ok (l := (lisB b).1) (by have := hO.len; omega) nm (o := false)
  have hil : idxB (lisB b).1 nm ≤ (lisB b).1.length := List.findIdx_le_length
  have hlen := hO.len
  have hsl : (scnB b).1.length ≤ 1000 := by
    unfold scnB
    split
    · simp
    · have := scnL_len b (lisB b).1 (lisB b).2.1
      omega
  unfold fndB
  simp only [scnV] at c2
  generalize scnB b = S at *
  generalize lisB b = L at *
  generalize hI : idxB L.1 nm = I at *
  obtain ⟨l, k0, e⟩ := L
  obtain ⟨ps, k1, e1⟩ := S
  dsimp only at *
  refine spec_of t10 (by simp [p10]) ?_
  simp only [p10]
  first | refine pwp_sr ?_ | refine pwp_regionM ?_
  intro K hK
  simp (disch := first | (refine Ok.mk ?_; (try simp only [Lm, La, Lc, Ln, Lt, Ld, Lr, Li, true_or, or_true, true_and, and_true]); omega) | (simp <;> fail) | skip) [runM_nil]
  refine hK _ _ ?_
  clear hK K
  first | refine pwp_sr ?_ | refine pwp_regionM ?_
  intro K hK
  simp (disch := first | (refine Ok.mk ?_; (try simp only [Lm, La, Lc, Ln, Lt, Ld, Lr, Li, true_or, or_true, true_and, and_true]); omega) | (simp <;> fail) | skip) [runM_nil]
  refine useP (c1) ?_
  simp (disch := first | (refine Ok.mk ?_; (try simp only [Lm, La, Lc, Ln, Lt, Ld, Lr, Li, true_or, or_true, true_and, and_true]); omega) | (simp <;> fail) | skip) [runM_nil]
  refine hK _ _ ?_
  clear hK K
  by_cases h3 : e = 0
  · subst h3
    rw [if_neg (by simp)]
    first | refine pwp_rif ?_ | refine pwp_rifE ?_
    intro K hK
    simp (disch := first | (refine Ok.mk ?_; (try simp only [Lm, La, Lc, Ln, Lt, Ld, Lr, Li, true_or, or_true, true_and, and_true]); omega) | (simp <;> fail) | skip) [runM_nil]
    refine hK _ _ ?_
    clear hK K
    refine ifF (by simp [runM_nil]) (pwp_skip ?_)
    first | refine pwp_sr ?_ | refine pwp_regionM ?_
    intro K hK
    simp (disch := first | (refine Ok.mk ?_; (try simp only [Lm, La, Lc, Ln, Lt, Ld, Lr, Li, true_or, or_true, true_and, and_true]); omega) | (simp <;> fail) | skip) [runM_nil]
    refine useP (c2) ?_
    simp (disch := first | (refine Ok.mk ?_; (try simp only [Lm, La, Lc, Ln, Lt, Ld, Lr, Li, true_or, or_true, true_and, and_true]); omega) | (simp <;> fail) | skip) [runM_nil]
    refine hK _ _ ?_
    clear hK K
    first | refine pwp_sr ?_ | refine pwp_regionM ?_
    intro K hK
    simp (disch := first | (refine Ok.mk ?_; (try simp only [Lm, La, Lc, Ln, Lt, Ld, Lr, Li, true_or, or_true, true_and, and_true]); omega) | (simp <;> fail) | skip) [runM_nil]
    refine useP (c3) ?_
    simp (disch := first | (refine Ok.mk ?_; (try simp only [Lm, La, Lc, Ln, Lt, Ld, Lr, Li, true_or, or_true, true_and, and_true]); omega) | (simp <;> fail) | skip) [runM_nil]
    refine hK _ _ ?_
    clear hK K
    refine pwp_seq (pwp_block ?_)
    by_cases h4 : I < l.length
    · rw [if_neg (by omega), if_pos h4]
      have hg : ∀ p, ps[I]? = some p → (ps.map pcB)[I]? = some (pcB p) := fun p h => by rw [List.getElem?_map, h]; rfl
      have hml : (ps.map pcB).length = ps.length := List.length_map _
      generalize ps.map pcB = es at *
      first | refine pwp_rif ?_ | refine pwp_rifE ?_
      intro K hK
      simp (disch := first | (refine Ok.mk ?_; (try simp only [Lm, La, Lc, Ln, Lt, Ld, Lr, Li, true_or, or_true, true_and, and_true]); omega) | (simp <;> fail) | skip) [runM_nil]
      refine hK _ _ ?_
      clear hK K
      refine ifF (by simp [runM_nil]) ?_
      by_cases h5 : I < ps.length
      · have hgp : ps[I]? = some ps[I] := List.getElem?_eq_getElem h5
        have h5' : ¬ (ps.length : Int) ≤ I := by omega
        have hg1 := hg _ hgp
        rw [hgp]
        generalize ps[I] = p at *
        obtain ⟨pe, pd⟩ := p
        simp only [pcB] at hg1
        first | refine pwp_rif ?_ | refine pwp_rifE ?_
        intro K hK
        simp (disch := first | (refine Ok.mk ?_; (try simp only [Lm, La, Lc, Ln, Lt, Ld, Lr, Li, true_or, or_true, true_and, and_true]); omega) | (simp <;> fail) | skip) [runM_nil, hml, h5']
        refine hK _ _ ?_
        clear hK K
        refine ifF (by simp [runM_nil, hml, h5']) (pwp_skip ?_)
        first | refine pwp_sr ?_ | refine pwp_regionM ?_
        intro K hK
        simp (disch := first | (refine Ok.mk ?_; (try simp only [Lm, La, Lc, Ln, Lt, Ld, Lr, Li, true_or, or_true, true_and, and_true]); omega) | (simp <;> fail) | skip) [runM_nil, hg1, hml]
        refine hK _ _ ?_
        clear hK K
        refine pwp_ret ⟨.inr rfl, _, _, (by simp (disch := first | (refine Ok.mk ?_; (try simp only [Lm, La, Lc, Ln, Lt, Ld, Lr, Li, true_or, or_true, true_and, and_true]); omega) | (simp <;> fail) | skip) [runM_nil, resL]; rfl), .refl _, by simp (disch := first | (refine Ok.mk ?_; (try simp only [Lm, La, Lc, Ln, Lt, Ld, Lr, Li, true_or, or_true, true_and, and_true]); omega) | (simp <;> fail) | skip) [resV], rfl⟩
      · have hgp : ps[I]? = none := List.getElem?_eq_none (by omega)
        have h5' : (ps.length : Int) ≤ I := by omega
        rw [hgp]
        first | refine pwp_rif ?_ | refine pwp_rifE ?_
        intro K hK
        simp (disch := first | (refine Ok.mk ?_; (try simp only [Lm, La, Lc, Ln, Lt, Ld, Lr, Li, true_or, or_true, true_and, and_true]); omega) | (simp <;> fail) | skip) [runM_nil, hml, h5']
        refine hK _ _ ?_
        clear hK K
        refine ifT (by simp [runM_nil, hml, h5']) ?_
        first | refine pwp_sr ?_ | refine pwp_regionM ?_
        intro K hK
        simp (disch := first | (refine Ok.mk ?_; (try simp only [Lm, La, Lc, Ln, Lt, Ld, Lr, Li, true_or, or_true, true_and, and_true]); omega) | (simp <;> fail) | skip) [runM_nil]
        refine hK _ _ ?_
        clear hK K
        refine pwp_ret ⟨.inr rfl, _, _, (by simp [runM_nil, resL]; rfl), .refl _, by simp [resV, ci], rfl⟩
    · rw [if_pos h4, if_neg h4]
      first | refine pwp_rif ?_ | refine pwp_rifE ?_
      intro K hK
      simp (disch := first | (refine Ok.mk ?_; (try simp only [Lm, La, Lc, Ln, Lt, Ld, Lr, Li, true_or, or_true, true_and, and_true]); omega) | (simp <;> fail) | skip) [runM_nil]
      refine hK _ _ ?_
      clear hK K
      refine ifT (by simp [runM_nil]) ?_
      first | refine pwp_sr ?_ | refine pwp_regionM ?_
      intro K hK
      simp (disch := first | (refine Ok.mk ?_; (try simp only [Lm, La, Lc, Ln, Lt, Ld, Lr, Li, true_or, or_true, true_and, and_true]); omega) | (simp <;> fail) | skip) [runM_nil]
      refine hK _ _ ?_
      clear hK K
      refine pwp_ret ⟨.inr rfl, _, _, (by simp [runM_nil, resL]; rfl), .refl _, by simp [resV, ci], rfl⟩
  · have h3' : ¬ (e : Int) = 0 := by omega
    rw [if_pos h3]
    first | refine pwp_rif ?_ | refine pwp_rifE ?_
    intro K hK
    simp (disch := first | (refine Ok.mk ?_; (try simp only [Lm, La, Lc, Ln, Lt, Ld, Lr, Li, true_or, or_true, true_and, and_true]); omega) | (simp <;> fail) | skip) [runM_nil, h3, h3']
    refine hK _ _ ?_
    clear hK K
    refine ifT (by simp [runM_nil, h3, h3']) ?_
    first | refine pwp_sr ?_ | refine pwp_regionM ?_
    intro K hK
    simp (disch := first | (refine Ok.mk ?_; (try simp only [Lm, La, Lc, Ln, Lt, Ld, Lr, Li, true_or, or_true, true_and, and_true]); omega) | (simp <;> fail) | skip) [runM_nil]
    refine hK _ _ ?_
    clear hK K
    refine pwp_retT ⟨.inr rfl, _, _, (by simp [runM_nil, resL]; rfl), .refl _, by simp [resV, ci], rfl⟩
end Go.Proofs.Ytmpomnnaoggdkaa.E
/- Records as a bundle, as far as the live question goes. -/
namespace Go.Proofs.Ytmpomnnaoggdkaa.E
open Go Go.RowKit Go.Proofs
set_option linter.unusedVariables false
set_option linter.unusedSimpArgs false
abbrev Fl := List Nat × List Nat
def flV (p : Fl) : PV := .lst 1 [.str (ci p.1), .str (ci p.2)] false
def okF (p : Fl) : Prop := p.1 ≠ [] ∧ p.1.length ≤ 100 ∧ p.2.length ≤ 1000 ∧ (∀ x ∈ p.2, x < 256)
theorem isFile_ok {p : Fl} (h : okF p) {o : Bool} : PSpec Try.prog 18 [.lst 1 [.str (ci p.1), .str (ci p.2)] o] (.bool true) := by
  intro H
  obtain ⟨n, d⟩ := p
  obtain ⟨h1, h2, h3, _⟩ := h
  dsimp only at *
  have h1' : ¬ ci n = [] := fun h => h1 (by cases n <;> simp_all [ci])
  refine spec_of t18 (by simp [p18]) ?_
  simp only [p18]
  first | refine pwp_sr ?_ | refine pwp_regionM ?_
  intro K hK
  simp (disch := first | (refine Ok.mk ?_; (try simp only [Lm, La, Lc, Ln, Lt, Ld, Lr, Li, true_or, or_true, true_and, and_true]); omega) | (simp <;> fail) | skip) [runM_nil]
  refine hK _ _ ?_
  clear hK K
  first | refine pwp_sr ?_ | refine pwp_regionM ?_
  intro K hK
  simp (disch := first | (refine Ok.mk ?_; (try simp only [Lm, La, Lc, Ln, Lt, Ld, Lr, Li, true_or, or_true, true_and, and_true]); omega) | (simp <;> fail) | skip) [runM_nil, strP, h1, h1', h2, h3]
  refine hK _ _ ?_
  clear hK K
  refine pwp_ret ⟨.inr rfl, _, _, (by simp (disch := first | (refine Ok.mk ?_; (try simp only [Lm, La, Lc, Ln, Lt, Ld, Lr, Li, true_or, or_true, true_and, and_true]); omega) | (simp <;> fail) | skip) [runM_nil, resL]; rfl), .refl _, by simp (disch := first | (refine Ok.mk ?_; (try simp only [Lm, La, Lc, Ln, Lt, Ld, Lr, Li, true_or, or_true, true_and, and_true]); omega) | (simp <;> fail) | skip) [resV], rfl⟩
def hdrW (l : List Fl) : List Nat := l.flatMap fun p => vb p.1.length ++ p.1 ++ vb p.2.length
def datW (l : List Fl) : List Nat := l.flatMap fun p => sealed tbl p.2
def bytW (l : List Fl) : List Nat := vb (sealed tbl (vb l.length ++ hdrW l)).length ++ sealed tbl (vb l.length ++ hdrW l) ++ datW l
def risW (l : List Fl) (i : Nat) : Bool := i == 0 || lexLt (ci (l.getD (i - 1) ([], [])).1) (ci (l.getD i ([], [])).1)
theorem hdrW_len : ∀ l : List Fl, (∀ p ∈ l, okF p) → (hdrW l).length ≤ l.length * 120
  | [], _ => Nat.zero_le _
  | p :: l, h => by
    have h1 := hdrW_len l fun q hq => h q (List.mem_cons_of_mem _ hq)
    obtain ⟨h2, h3, h4, _⟩ := h p (List.mem_cons_self ..)
    have v1 := vb_length_le10 (n := p.1.length) (by omega)
    have v2 := vb_length_le10 (n := p.2.length) (by omega)
    have e : hdrW (p :: l) = vb p.1.length ++ p.1 ++ vb p.2.length ++ hdrW l := rfl
    rw [e, List.length_append, List.length_append, List.length_append, List.length_cons, Nat.succ_mul]
    omega
theorem datW_len : ∀ l : List Fl, (∀ p ∈ l, okF p) → (datW l).length ≤ l.length * 1004
  | [], _ => Nat.zero_le _
  | p :: l, h => by
    have h1 := datW_len l fun q hq => h q (List.mem_cons_of_mem _ hq)
    obtain ⟨h2, h3, h4, _⟩ := h p (List.mem_cons_self ..)
    have e : datW (p :: l) = sealed tbl p.2 ++ datW l := rfl
    rw [e, List.length_append, sealed_length, List.length_cons, Nat.succ_mul]
    omega
def wrV (l : List Fl) : PV := if (List.range l.length).all (risW l) = true then .tup [bV (bytW l) true, .int .i64 0] else .tup [.lst 1 [] true, .int .i64 10]
theorem write_ok {l : List Fl} (hl : l.length ≤ 100) (hF : ∀ p ∈ l, okF p) (hw : ∀ x ∈ vb l.length ++ hdrW l, x < 256) {o : Bool} : PSpec Try.prog 8 [.lst 1 (l.map flV) o] (wrV l) := by
  intro H
  have hmix := mixS
  have hge : ∀ i (h : i < l.length), (l.map flV)[i]? = some (.lst 1 [.str (ci l[i].1), .str (ci l[i].2)] false) := fun i h => by rw [List.getElem?_map, List.getElem?_eq_getElem h]; rfl
  have hml : (l.map flV).length = l.length := List.length_map _
  have hgd : ∀ i (h : i < l.length), l.getD i ([], []) = l[i] := fun i h => by rw [List.getD_eq_getElem?_getD, List.getElem?_eq_getElem h]; rfl
  have hvl := vb_length_le10 (n := l.length) (by omega)
  have cp := put_ok (s := 0) (xs := []) (o := false) (b := []) rfl (.inr rfl) l.length (by omega) (by simp)
  rw [List.nil_append] at cp
  have htF : ∀ i, ∀ p ∈ l.take i, okF p := fun i p hp => hF p (List.mem_of_mem_take hp)
  have hb1 := fun i => hdrW_len (l.take i) (htF i)
  have hb2 := fun i => datW_len (l.take i) (htF i)
  refine spec_ofU t8 (by simp [p8]) ?_
  simp only [p8]
  have hfd : ∀ i (h : i < l.length), l[i] = l[i] := fun i h => rfl
  clear hfd
  generalize hes : l.map flV = es at *
  have h1000 : ¬ (1000 : Int) < l.length := by omega
  first | refine pwp_sr ?_ | refine pwp_regionM ?_
  intro K hK
  simp (disch := first | (refine Ok.mk ?_; (try simp only [Lm, La, Lc, Ln, Lt, Ld, Lr, Li, true_or, or_true, true_and, and_true]); omega) | (simp <;> fail) | skip) [runM_nil]
  refine hK _ _ ?_
  clear hK K
  first | refine pwp_rif ?_ | refine pwp_rifE ?_
  intro K hK
  simp (disch := first | (refine Ok.mk ?_; (try simp only [Lm, La, Lc, Ln, Lt, Ld, Lr, Li, true_or, or_true, true_and, and_true]); omega) | (simp <;> fail) | skip) [runM_nil, hml, h1000]
  refine hK _ _ ?_
  clear hK K
  refine ifF (by simp [runM_nil, hml, h1000]) (pwp_skip ?_)
  first | refine pwp_sr ?_ | refine pwp_regionM ?_
  intro K hK
  simp (disch := first | (refine Ok.mk ?_; (try simp only [Lm, La, Lc, Ln, Lt, Ld, Lr, Li, true_or, or_true, true_and, and_true]); omega) | (simp <;> fail) | skip) [runM_nil, hml]
  refine useP (cp) ?_
  simp (disch := first | (refine Ok.mk ?_; (try simp only [Lm, La, Lc, Ln, Lt, Ld, Lr, Li, true_or, or_true, true_and, and_true]); omega) | (simp <;> fail) | skip) [runM_nil, hml]
  refine useP (table_ok) ?_
  simp (disch := first | (refine Ok.mk ?_; (try simp only [Lm, La, Lc, Ln, Lt, Ld, Lr, Li, true_or, or_true, true_and, and_true]); omega) | (simp <;> fail) | skip) [runM_nil, hml]
  refine hK _ _ ?_
  clear hK K
  first | refine pwp_sr ?_ | refine pwp_regionM ?_
  intro K hK
  simp (disch := first | (refine Ok.mk ?_; (try simp only [Lm, La, Lc, Ln, Lt, Ld, Lr, Li, true_or, or_true, true_and, and_true]); omega) | (simp <;> fail) | skip) [runM_nil]
  refine hK _ _ ?_
  clear hK K
  refine pwp_seq (pwp_seq ?_)
  first | refine pwp_sr ?_ | refine pwp_regionM ?_
  intro K hK
  simp (disch := first | (refine Ok.mk ?_; (try simp only [Lm, La, Lc, Ln, Lt, Ld, Lr, Li, true_or, or_true, true_and, and_true]); omega) | (simp <;> fail) | skip) [runM_nil, hml]
  refine hK _ _ ?_
  clear hK K
  refine pwp_block ?_
  refine pwp_loopU [0, 4, 5, 6, 19, 20, 21] (fun q st H' => ∃ i : Nat, i ≤ l.length ∧ (∀ j, j < i → risW l j = true) ∧ q = l.length - i ∧ H' = H ∧
      st = MS 84 [(0, .lst 1 es o), (4, bV (vb l.length ++ hdrW (l.take i)) true), (5, .lst 1 (tbl.map u32) false), (6, bV (datW (l.take i)) true), (19, .lst 1 es false), (20, .int .i64 l.length), (21, .int .i64 i)]) (n := l.length)
    ⟨_, _, keep_up (l' := [(0, .lst 1 es o), (4, bV (vb l.length) true), (5, .lst 1 (tbl.map u32) false), (6, .lst 1 [] true), (19, .lst 1 es false), (20, .int .i64 l.length), (21, .int .i64 0)]) (by simp), List.Sublist.refl _, 0, Nat.zero_le _, (fun j hj => by omega), rfl, rfl, by simp [hdrW, datW]⟩ ?_
  rintro q st H' ⟨i, hi, hri, rfl, hH, rfl⟩
  subst hH
  have hbi1 := hb1 i
  have hbi2 := hb2 i
  have htl : (l.take i).length = i := by simp; omega
  rw [htl] at hbi1 hbi2
  by_cases hlt : i < l.length
  · have hg := hge i hlt
    have hlt' : (i : Int) < l.length := by omega
    obtain ⟨f1, f2, f3, f4⟩ := hF _ (List.getElem_mem hlt)
    have cF := isFile_ok (hF _ (List.getElem_mem hlt)) (o := false)
    have hdt : hdrW (l.take (i + 1)) = hdrW (l.take i) ++ (vb l[i].1.length ++ l[i].1 ++ vb l[i].2.length) := by
      rw [List.take_succ_eq_append_getElem hlt, hdrW, hdrW, List.flatMap_append]
      simp
    have hda : datW (l.take (i + 1)) = datW (l.take i) ++ sealed tbl l[i].2 := by
      rw [List.take_succ_eq_append_getElem hlt, datW, datW, List.flatMap_append]
      simp
    have hri2 : risW l i = (i == 0 || lexLt (ci (l.getD (i - 1) ([], [])).1) (ci l[i].1)) := by rw [risW, hgd i hlt]
    generalize l[i] = p at *
    obtain ⟨n, d⟩ := p
    dsimp only at *
    have v1 := vb_length_le10 (n := n.length) (by omega)
    have v2 := vb_length_le10 (n := d.length) (by omega)
    generalize hAdef : vb l.length ++ hdrW (l.take i) = A at *
    have hAl : A.length ≤ 12010 := by rw [← hAdef, List.length_append]; omega
    have c1 := frame_ok (s := 1) (xs := A.map u8) (o := false) (b := A) rfl (.inl rfl) n (by omega)
    have c2 := put_ok (s := 1) (xs := (A ++ vb n.length ++ n).map u8) (o := false) (b := A ++ vb n.length ++ n) rfl (.inl rfl) d.length (by omega) (by simp; omega)
    have c3 := seal_ok tbl_length tbl_lt (ot := false) (o := true) (s := 1) (xs := d.map u8) rfl (.inl rfl) f4 (by omega)
    have c3' := seal_ok tbl_length tbl_lt (ot := false) (o := false) (s := 1) (xs := d.map u8) rfl (.inl rfl) f4 (by omega)
    have hsd := sealed_length tbl d
    have hA2 : vb l.length ++ hdrW (l.take (i + 1)) = A ++ vb n.length ++ n ++ vb d.length := by rw [hdt, ← hAdef]; simp
    generalize A ++ vb n.length ++ n = B at *
    generalize datW (l.take i) = D at *
    generalize sealed tbl d = Z at *
    first | refine pwp_sr ?_ | refine pwp_regionM ?_
    intro K hK
    simp (disch := first | (refine Ok.mk ?_; (try simp only [Lm, La, Lc, Ln, Lt, Ld, Lr, Li, true_or, or_true, true_and, and_true]); omega) | (simp <;> fail) | skip) [runM_nil, hlt']
    refine hK _ _ ?_
    clear hK K
    refine pwp_seq (pwp_cT (by simp) (pwp_skip ?_))
    refine pwp_seq (pwp_block ?_)
    first | refine pwp_sr ?_ | refine pwp_regionM ?_
    intro K hK
    simp (disch := first | (refine Ok.mk ?_; (try simp only [Lm, La, Lc, Ln, Lt, Ld, Lr, Li, true_or, or_true, true_and, and_true]); omega) | (simp <;> fail) | skip) [runM_nil, hg, hml]
    refine hK _ _ ?_
    clear hK K
    by_cases hr : risW l i = true
    · refine pwp_seq ?_
      have hgo : ∀ j, j < i + 1 → risW l j = true := fun j hj => by
        by_cases h : j = i
        · rw [h]; exact hr
        · exact hri j (by omega)
      rcases Nat.eq_zero_or_pos i with h0 | h0
      · subst h0
        first | refine pwp_sd hmix ?_ | refine pwp_drawM hmix ?_
        intro K hK
        simp (disch := first | (refine Ok.mk ?_; (try simp only [Lm, La, Lc, Ln, Lt, Ld, Lr, Li, true_or, or_true, true_and, and_true]); omega) | (simp <;> fail) | skip) [runM_nil]
        refine useD (cF) ?_
        simp (disch := first | (refine Ok.mk ?_; (try simp only [Lm, La, Lc, Ln, Lt, Ld, Lr, Li, true_or, or_true, true_and, and_true]); omega) | (simp <;> fail) | skip) [runM_nil]
        refine hK _ _ ?_
        clear hK K
        refine pwp_cF (by simp) (pwp_skip ?_)
        first | refine pwp_sd hmix ?_ | refine pwp_drawM hmix ?_
        intro K hK
        simp (disch := first | (refine Ok.mk ?_; (try simp only [Lm, La, Lc, Ln, Lt, Ld, Lr, Li, true_or, or_true, true_and, and_true]); omega) | (simp <;> fail) | skip) [runM_nil]
        refine useD (c1) ?_
        simp (disch := first | (refine Ok.mk ?_; (try simp only [Lm, La, Lc, Ln, Lt, Ld, Lr, Li, true_or, or_true, true_and, and_true]); omega) | (simp <;> fail) | skip) [runM_nil]
        refine useD (c2) ?_
        simp (disch := first | (refine Ok.mk ?_; (try simp only [Lm, La, Lc, Ln, Lt, Ld, Lr, Li, true_or, or_true, true_and, and_true]); omega) | (simp <;> fail) | skip) [runM_nil]
        refine hK _ _ ?_
        clear hK K
        first | refine pwp_sr ?_ | refine pwp_regionM ?_
        intro K hK
        simp (disch := first | (refine Ok.mk ?_; (try simp only [Lm, La, Lc, Ln, Lt, Ld, Lr, Li, true_or, or_true, true_and, and_true]); omega) | (simp <;> fail) | skip) [runM_nil]
        refine useP (c3') ?_
        simp (disch := first | (refine Ok.mk ?_; (try simp only [Lm, La, Lc, Ln, Lt, Ld, Lr, Li, true_or, or_true, true_and, and_true]); omega) | (simp <;> fail) | skip) [runM_nil]
        refine hK _ _ ?_
        clear hK K
        first | refine pwp_sr ?_ | refine pwp_regionM ?_
        intro K hK
        simp (disch := first | (refine Ok.mk ?_; (try simp only [Lm, La, Lc, Ln, Lt, Ld, Lr, Li, true_or, or_true, true_and, and_true]); omega) | (simp <;> fail) | skip) [runM_nil]
        refine hK _ _ ?_
        clear hK K
        first | refine pwp_sr ?_ | refine pwp_regionM ?_
        intro K hK
        simp (disch := first | (refine Ok.mk ?_; (try simp only [Lm, La, Lc, Ln, Lt, Ld, Lr, Li, true_or, or_true, true_and, and_true]); omega) | (simp <;> fail) | skip) [runM_nil]
        refine hK _ _ ?_
        clear hK K
        refine ⟨l.length - (0 + 1), by omega, _, _, keep_up (l' := [(0, .lst 1 es o), (4, bV (B ++ vb d.length) true), (5, .lst 1 (tbl.map u32) false), (6, bV (D ++ Z) true), (19, .lst 1 es false), (20, .int .i64 l.length), (21, .int .i64 1)]) (by simp), List.Sublist.refl _, 0 + 1, by omega, hgo, rfl, rfl, by rw [hA2, hda]; simp⟩
      · have hprev : i - 1 < l.length := by omega
        have hg1 := hge (i - 1) hprev
        have e1 : ((i : Int) - 1).toNat = i - 1 := by omega
        have p0 : (0 : Int) < i := by omega
        have hlx : lexLt (ci l[i - 1].1) (ci n) = true := by
          rw [hri2, hgd (i - 1) hprev] at hr
          have : ¬ i = 0 := by omega
          simpa [this] using hr
        generalize l[i - 1] = pp at *
        first | refine pwp_sd hmix ?_ | refine pwp_drawM hmix ?_
        intro K hK
        simp (disch := first | (refine Ok.mk ?_; (try simp only [Lm, La, Lc, Ln, Lt, Ld, Lr, Li, true_or, or_true, true_and, and_true]); omega) | (simp <;> fail) | skip) [runM_nil, hml, hg1, e1, p0, strP, hlx]
        refine useD (cF) ?_
        simp (disch := first | (refine Ok.mk ?_; (try simp only [Lm, La, Lc, Ln, Lt, Ld, Lr, Li, true_or, or_true, true_and, and_true]); omega) | (simp <;> fail) | skip) [runM_nil, hml, hg1, e1, p0, strP, hlx]
        refine hK _ _ ?_
        clear hK K
        refine pwp_cF (by simp) (pwp_skip ?_)
        first | refine pwp_sd hmix ?_ | refine pwp_drawM hmix ?_
        intro K hK
        simp (disch := first | (refine Ok.mk ?_; (try simp only [Lm, La, Lc, Ln, Lt, Ld, Lr, Li, true_or, or_true, true_and, and_true]); omega) | (simp <;> fail) | skip) [runM_nil]
        refine useD (c1) ?_
        simp (disch := first | (refine Ok.mk ?_; (try simp only [Lm, La, Lc, Ln, Lt, Ld, Lr, Li, true_or, or_true, true_and, and_true]); omega) | (simp <;> fail) | skip) [runM_nil]
        refine useD (c2) ?_
        simp (disch := first | (refine Ok.mk ?_; (try simp only [Lm, La, Lc, Ln, Lt, Ld, Lr, Li, true_or, or_true, true_and, and_true]); omega) | (simp <;> fail) | skip) [runM_nil]
        refine hK _ _ ?_
        clear hK K
        first | refine pwp_sr ?_ | refine pwp_regionM ?_
        intro K hK
        simp (disch := first | (refine Ok.mk ?_; (try simp only [Lm, La, Lc, Ln, Lt, Ld, Lr, Li, true_or, or_true, true_and, and_true]); omega) | (simp <;> fail) | skip) [runM_nil]
        refine useP (c3') ?_
        simp (disch := first | (refine Ok.mk ?_; (try simp only [Lm, La, Lc, Ln, Lt, Ld, Lr, Li, true_or, or_true, true_and, and_true]); omega) | (simp <;> fail) | skip) [runM_nil]
        refine hK _ _ ?_
        clear hK K
        first | refine pwp_sr ?_ | refine pwp_regionM ?_
        intro K hK
        simp (disch := first | (refine Ok.mk ?_; (try simp only [Lm, La, Lc, Ln, Lt, Ld, Lr, Li, true_or, or_true, true_and, and_true]); omega) | (simp <;> fail) | skip) [runM_nil]
        refine hK _ _ ?_
        clear hK K
        first | refine pwp_sr ?_ | refine pwp_regionM ?_
        intro K hK
        simp (disch := first | (refine Ok.mk ?_; (try simp only [Lm, La, Lc, Ln, Lt, Ld, Lr, Li, true_or, or_true, true_and, and_true]); omega) | (simp <;> fail) | skip) [runM_nil]
        refine hK _ _ ?_
        clear hK K
        refine ⟨l.length - (i + 1), by omega, _, _, keep_up (l' := [(0, .lst 1 es o), (4, bV (B ++ vb d.length) true), (5, .lst 1 (tbl.map u32) false), (6, bV (D ++ Z) true), (19, .lst 1 es false), (20, .int .i64 l.length), (21, .int .i64 ((i : Int) + 1))]) (by simp), List.Sublist.refl _, i + 1, by omega, hgo, rfl, rfl, by rw [hA2, hda]; simp⟩
    · have hwr : wrV l = .tup [.lst 1 [] true, .int .i64 10] := by
        unfold wrV
        rw [if_neg]
        intro h
        exact hr (List.all_eq_true.1 h i (List.mem_range.2 hlt))
      have h0 : i ≠ 0 := fun h => hr (by rw [risW, h]; rfl)
      have hprev : i - 1 < l.length := by omega
      have hg1 := hge (i - 1) hprev
      have e1 : ((i : Int) - 1).toNat = i - 1 := by omega
      have p0 : (0 : Int) < i := by omega
      have hlx : lexLt (ci l[i - 1].1) (ci n) = false := by
        rw [hri2, hgd (i - 1) hprev] at hr
        simpa [h0] using hr
      generalize l[i - 1] = pp at *
      rw [hwr]
      refine pwp_seq ?_
      first | refine pwp_sd hmix ?_ | refine pwp_drawM hmix ?_
      intro K hK
      simp (disch := first | (refine Ok.mk ?_; (try simp only [Lm, La, Lc, Ln, Lt, Ld, Lr, Li, true_or, or_true, true_and, and_true]); omega) | (simp <;> fail) | skip) [runM_nil, hml, hg1, e1, p0, strP, hlx]
      refine useD (cF) ?_
      simp (disch := first | (refine Ok.mk ?_; (try simp only [Lm, La, Lc, Ln, Lt, Ld, Lr, Li, true_or, or_true, true_and, and_true]); omega) | (simp <;> fail) | skip) [runM_nil, hml, hg1, e1, p0, strP, hlx]
      refine hK _ _ ?_
      clear hK K
      refine pwp_cT (by simp) ?_
      first | refine pwp_sr ?_ | refine pwp_regionM ?_
      intro K hK
      simp (disch := first | (refine Ok.mk ?_; (try simp only [Lm, La, Lc, Ln, Lt, Ld, Lr, Li, true_or, or_true, true_and, and_true]); omega) | (simp <;> fail) | skip) [runM_nil]
      refine hK _ _ ?_
      clear hK K
      refine pwp_ret ⟨.inr rfl, _, _, _, (by simp [runM_nil, resL]; rfl), .refl _, by simp [resV], rfl, rfl⟩
  · obtain rfl : i = l.length := by omega
    have hwr : wrV l = .tup [bV (bytW l) true, .int .i64 0] := by
      unfold wrV
      rw [if_pos (List.all_eq_true.2 fun j hj => hri j (List.mem_range.1 hj))]
    rw [hwr]
    rw [List.take_length] at *
    have hAl : (vb l.length ++ hdrW l).length ≤ 12010 := by rw [List.length_append]; omega
    have c1 := seal_ok tbl_length tbl_lt (ot := false) (o := false) (s := 1) (xs := (vb l.length ++ hdrW l).map u8) rfl (.inl rfl) hw (by omega)
    have hsd := sealed_length tbl (vb l.length ++ hdrW l)
    unfold bytW
    generalize vb l.length ++ hdrW l = A at *
    generalize sealed tbl A = S at *
    generalize datW l = D at *
    have v1 := vb_length_le10 (n := S.length) (by omega)
    have c2 := put_ok (s := 0) (xs := []) (o := false) (b := []) rfl (.inr rfl) S.length (by omega) (by simp)
    rw [List.nil_append] at c2
    generalize vb S.length = V at *
    have c3 := concat_ok (es := [.lst 1 (V.map u8) false, .lst 1 (S.map u8) false, .lst 1 (D.map u8) false]) (o := false) [(1, V), (1, S), (1, D)] rfl (fun p hp => by
      simp only [List.mem_cons, List.not_mem_nil, or_false] at hp
      rcases hp with rfl | rfl | rfl <;> exact .inl rfl) (by simp) (by simp; omega)
    have e3 : List.flatMap (fun x : Nat × List Nat => x.2) [(1, V), (1, S), (1, D)] = V ++ S ++ D := by simp
    rw [e3] at c3
    first | refine pwp_sr ?_ | refine pwp_regionM ?_
    intro K hK
    simp (disch := first | (refine Ok.mk ?_; (try simp only [Lm, La, Lc, Ln, Lt, Ld, Lr, Li, true_or, or_true, true_and, and_true]); omega) | (simp <;> fail) | skip) [runM_nil]
    refine hK _ _ ?_
    clear hK K
    refine pwp_seq (pwp_cF (by simp) (pwp_exit ?_))
    first | refine pwp_sr ?_ | refine pwp_regionM ?_
    intro K hK
    simp (disch := first | (refine Ok.mk ?_; (try simp only [Lm, La, Lc, Ln, Lt, Ld, Lr, Li, true_or, or_true, true_and, and_true]); omega) | (simp <;> fail) | skip) [runM_nil]
    refine useP (c1) ?_
    simp (disch := first | (refine Ok.mk ?_; (try simp only [Lm, La, Lc, Ln, Lt, Ld, Lr, Li, true_or, or_true, true_and, and_true]); omega) | (simp <;> fail) | skip) [runM_nil]
    refine hK _ _ ?_
    clear hK K
    first | refine pwp_sr ?_ | refine pwp_regionM ?_
    intro K hK
    simp (disch := first | (refine Ok.mk ?_; (try simp only [Lm, La, Lc, Ln, Lt, Ld, Lr, Li, true_or, or_true, true_and, and_true]); omega) | (simp <;> fail) | skip) [runM_nil]
    refine useP (c2) ?_
    simp (disch := first | (refine Ok.mk ?_; (try simp only [Lm, La, Lc, Ln, Lt, Ld, Lr, Li, true_or, or_true, true_and, and_true]); omega) | (simp <;> fail) | skip) [runM_nil]
    refine useP (c3) ?_
    simp (disch := first | (refine Ok.mk ?_; (try simp only [Lm, La, Lc, Ln, Lt, Ld, Lr, Li, true_or, or_true, true_and, and_true]); omega) | (simp <;> fail) | skip) [runM_nil]
    refine hK _ _ ?_
    clear hK K
    refine pwp_ret ⟨.inr rfl, _, _, _, (by simp [runM_nil, resL]; rfl), .refl _, by simp [resV], rfl, rfl⟩
end Go.Proofs.Ytmpomnnaoggdkaa.E
/- The live question; each file of the right part is found. -/
namespace Go.Proofs.Ytmpomnnaoggdkaa.E
open Go Go.RowKit Go.Proofs
set_option linter.unusedVariables false
set_option linter.unusedSimpArgs false
def Z10 : List Nat := [11, 2, 1, 97, 1, 1, 98, 0, 120, 71, 72, 139, 120, 131, 22, 220, 140, 0, 0, 0, 0]
theorem bytW_eq : bytW [([97], [120]), ([98], [])] = Z10 := by
  have eA : vb ([([97], [120]), ([98], [])] : List Fl).length ++ hdrW [([97], [120]), ([98], [])] = [2, 1, 97, 1, 1, 98, 0] := by simp [hdrW, vb_small]
  have eS : sealed tbl [2, 1, 97, 1, 1, 98, 0] = [2, 1, 97, 1, 1, 98, 0, 120, 71, 72, 139] := by decide +kernel
  have eD : datW [([97], [120]), ([98], [])] = [120, 131, 22, 220, 140, 0, 0, 0, 0] := by decide +kernel
  unfold bytW
  rw [eA, eS, eD]
  simp [vb_small, Z10]
theorem alive10_ok : PSpec Try.prog 7 [] (.bool true) := by
  intro H
  have h1 : ∀ x ∈ vb ([([97], [120]), ([98], [])] : List Fl).length ++ hdrW [([97], [120]), ([98], [])], x < 256 := by simp [hdrW, vb_small]
  have h2 : ∀ x ∈ vb ([([98], []), ([97], [])] : List Fl).length ++ hdrW [([98], []), ([97], [])], x < 256 := by simp [hdrW, vb_small]
  have c1 := write_ok (l := [([97], [120]), ([98], [])]) (by decide) (by simp [okF]) h1 (o := false)
  have c2 := write_ok (l := [([98], []), ([97], [])]) (by decide) (by simp [okF]) h2 (o := false)
  have e1 : wrV [([97], [120]), ([98], [])] = .tup [bV Z10 true, .int .i64 0] := by
    unfold wrV
    rw [if_pos (by decide), bytW_eq]
  have e2 : wrV [([98], []), ([97], [])] = .tup [.lst 1 [] true, .int .i64 10] := by
    unfold wrV
    rw [if_neg (by decide)]
  rw [e1] at c1
  rw [e2] at c2
  have c3 := find_ok (s := 1) (xs := Z10.map u8) (o := false) (b := Z10) rfl (.inl rfl) (by decide) (by decide) [97]
  have c4 := find_ok (s := 1) (xs := Z10.map u8) (o := false) (b := Z10) rfl (.inl rfl) (by decide) (by decide) [99]
  have f3 : fndB Z10 [97] = ([120], 0) := by decide +kernel
  have f4 : fndB Z10 [99] = ([], 6) := by decide +kernel
  rw [f3] at c3
  rw [f4] at c4
  generalize Z10 = Z at *
  simp [flV, ci] at c1 c2 c3 c4
  refine spec_of t7 (by simp [p7]) ?_
  simp only [p7]
  first | refine pwp_sr ?_ | refine pwp_regionM ?_
  intro K hK
  simp (disch := first | (refine Ok.mk ?_; (try simp only [Lm, La, Lc, Ln, Lt, Ld, Lr, Li, true_or, or_true, true_and, and_true]); omega) | (simp <;> fail) | skip) [runM_nil]
  refine hK _ _ ?_
  clear hK K
  first | refine pwp_sr ?_ | refine pwp_regionM ?_
  intro K hK
  simp (disch := first | (refine Ok.mk ?_; (try simp only [Lm, La, Lc, Ln, Lt, Ld, Lr, Li, true_or, or_true, true_and, and_true]); omega) | (simp <;> fail) | skip) [runM_nil]
  refine useP (c1) ?_
  simp (disch := first | (refine Ok.mk ?_; (try simp only [Lm, La, Lc, Ln, Lt, Ld, Lr, Li, true_or, or_true, true_and, and_true]); omega) | (simp <;> fail) | skip) [runM_nil]
  refine hK _ _ ?_
  clear hK K
  first | refine pwp_sr ?_ | refine pwp_regionM ?_
  intro K hK
  simp (disch := first | (refine Ok.mk ?_; (try simp only [Lm, La, Lc, Ln, Lt, Ld, Lr, Li, true_or, or_true, true_and, and_true]); omega) | (simp <;> fail) | skip) [runM_nil]
  refine useP (c3) ?_
  simp (disch := first | (refine Ok.mk ?_; (try simp only [Lm, La, Lc, Ln, Lt, Ld, Lr, Li, true_or, or_true, true_and, and_true]); omega) | (simp <;> fail) | skip) [runM_nil]
  refine hK _ _ ?_
  clear hK K
  first | refine pwp_sr ?_ | refine pwp_regionM ?_
  intro K hK
  simp (disch := first | (refine Ok.mk ?_; (try simp only [Lm, La, Lc, Ln, Lt, Ld, Lr, Li, true_or, or_true, true_and, and_true]); omega) | (simp <;> fail) | skip) [runM_nil]
  refine useP (c4) ?_
  simp (disch := first | (refine Ok.mk ?_; (try simp only [Lm, La, Lc, Ln, Lt, Ld, Lr, Li, true_or, or_true, true_and, and_true]); omega) | (simp <;> fail) | skip) [runM_nil]
  refine hK _ _ ?_
  clear hK K
  first | refine pwp_sr ?_ | refine pwp_regionM ?_
  intro K hK
  simp (disch := first | (refine Ok.mk ?_; (try simp only [Lm, La, Lc, Ln, Lt, Ld, Lr, Li, true_or, or_true, true_and, and_true]); omega) | (simp <;> fail) | skip) [runM_nil]
  refine useP (c2) ?_
  simp (disch := first | (refine Ok.mk ?_; (try simp only [Lm, La, Lc, Ln, Lt, Ld, Lr, Li, true_or, or_true, true_and, and_true]); omega) | (simp <;> fail) | skip) [runM_nil]
  refine hK _ _ ?_
  clear hK K
  first | refine pwp_sr ?_ | refine pwp_regionM ?_
  intro K hK
  simp (disch := first | (refine Ok.mk ?_; (try simp only [Lm, La, Lc, Ln, Lt, Ld, Lr, Li, true_or, or_true, true_and, and_true]); omega) | (simp <;> fail) | skip) [runM_nil, strP]
  refine hK _ _ ?_
  clear hK K
  refine pwp_ret ⟨.inr rfl, _, _, (by simp (disch := first | (refine Ok.mk ?_; (try simp only [Lm, La, Lc, Ln, Lt, Ld, Lr, Li, true_or, or_true, true_and, and_true]); omega) | (simp <;> fail) | skip) [runM_nil, resL]; rfl), .refl _, by simp (disch := first | (refine Ok.mk ?_; (try simp only [Lm, La, Lc, Ln, Lt, Ld, Lr, Li, true_or, or_true, true_and, and_true]); omega) | (simp <;> fail) | skip) [resV], rfl⟩
theorem idxB_at {l : List Be} (h : RiseL l) {i : Nat} (hi : i < l.length) : idxB l l[i].nm = i := by
  unfold idxB
  rw [List.findIdx_eq hi]
  refine ⟨by simp, fun j hj => ?_⟩
  have h1 := List.pairwise_iff_getElem.1 h j i (by omega) hi hj
  simp only [decide_eq_false_iff_not]
  intro e
  rw [e, lexLt_irrefl] at h1
  cases h1
theorem idxB_any (l : List Be) (nm : List Nat) : (idxB l nm < l.length) ↔ l.any (fun e => decide (e.nm = nm)) = true := by
  unfold idxB
  rw [List.findIdx_lt_length, List.any_eq_true]
set_option maxRecDepth 4000 in
theorem finds_ok {o : Bool} {b : List Nat} (hw : ∀ x ∈ b, x < 256) (hl0 : b.length ≤ 140737488351232) (nm : List Nat) :
    PSpec Try.prog 5 [.lst 1 (b.map u8) o, .str (ci nm)] (.bool true) := by
  intro H
  have hmix := mixS
  have ca := alive10_ok
  refine spec_of t5 (by simp [p5]) ?_
  simp only [p5]
  first | refine pwp_sr ?_ | refine pwp_regionM ?_
  intro K hK
  simp (disch := first | (refine Ok.mk ?_; (try simp only [Lm, La, Lc, Ln, Lt, Ld, Lr, Li, true_or, or_true, true_and, and_true]); omega) | (simp <;> fail) | skip) [runM_nil]
  refine hK _ _ ?_
  clear hK K
  rcases Nat.lt_or_ge 3000 b.length with h1 | h1
  · first | refine pwp_rif ?_ | refine pwp_rifE ?_
    intro K hK
    simp (disch := first | (refine Ok.mk ?_; (try simp only [Lm, La, Lc, Ln, Lt, Ld, Lr, Li, true_or, or_true, true_and, and_true]); omega) | (simp <;> fail) | skip) [runM_nil, h1]
    refine hK _ _ ?_
    clear hK K
    refine ifT (by simp (disch := first | (refine Ok.mk ?_; (try simp only [Lm, La, Lc, Ln, Lt, Ld, Lr, Li, true_or, or_true, true_and, and_true]); omega) | (simp <;> fail) | skip) [runM_nil]) ?_
    first | refine pwp_sr ?_ | refine pwp_regionM ?_
    intro K hK
    simp (disch := first | (refine Ok.mk ?_; (try simp only [Lm, La, Lc, Ln, Lt, Ld, Lr, Li, true_or, or_true, true_and, and_true]); omega) | (simp <;> fail) | skip) [runM_nil]
    refine useP (ca) ?_
    simp (disch := first | (refine Ok.mk ?_; (try simp only [Lm, La, Lc, Ln, Lt, Ld, Lr, Li, true_or, or_true, true_and, and_true]); omega) | (simp <;> fail) | skip) [runM_nil]
    refine hK _ _ ?_
    clear hK K
    refine pwp_retT ⟨.inr rfl, _, _, (by simp (disch := first | (refine Ok.mk ?_; (try simp only [Lm, La, Lc, Ln, Lt, Ld, Lr, Li, true_or, or_true, true_and, and_true]); omega) | (simp <;> fail) | skip) [runM_nil, resL]; rfl), .refl _, by simp (disch := first | (refine Ok.mk ?_; (try simp only [Lm, La, Lc, Ln, Lt, Ld, Lr, Li, true_or, or_true, true_and, and_true]); omega) | (simp <;> fail) | skip) [resV], rfl⟩
  have h2 : ¬ 3000 < b.length := by omega
  first | refine pwp_rif ?_ | refine pwp_rifE ?_
  intro K hK
  simp (disch := first | (refine Ok.mk ?_; (try simp only [Lm, La, Lc, Ln, Lt, Ld, Lr, Li, true_or, or_true, true_and, and_true]); omega) | (simp <;> fail) | skip) [runM_nil, h2]
  refine hK _ _ ?_
  clear hK K
  refine ifF (by simp (disch := first | (refine Ok.mk ?_; (try simp only [Lm, La, Lc, Ln, Lt, Ld, Lr, Li, true_or, or_true, true_and, and_true]); omega) | (simp <;> fail) | skip) [runM_nil]) (pwp_skip ?_)
  have hO := lisB_ok hw
  have c1 := scan10_ok (s := 1) (xs := b.map u8) (o := false) (b := b) rfl (.inl rfl) hw (by omega) (by have := hO.len; omega) hO.at_ hO.lg
  have c2 := names_ok (s := 1) (xs := b.map u8) (o := false) (b := b) rfl (.inl rfl) hw (by omega) (by have := hO.len; omega) (fun h => (hO.err.resolve_left h).1)
  have cf := fun m => find_ok (s := 1) (xs := b.map u8) (o := false) (b := b) rfl (.inl rfl) hw (by omega) m
  have hpl : (scnB b).1.length ≤ (lisB b).1.length := by
    unfold scnB
    split
    · simp
    · exact scnL_len b _ _
  have hpg : ∀ (i : Nat) (p : Be × List Nat), (scnB b).1[i]? = some p → (lisB b).1[i]? = some p.1 ∧ p.2.length = p.1.lg ∧ ∀ x ∈ p.2, x < 256 := fun i p h => by
    unfold scnB at h
    split at h
    · simp at h
    · exact scnL_get hw _ _ i p h
  obtain ⟨hol, _, hog, hor, hoe⟩ := hO
  have hfe : (lisB b).2.2 ≠ 0 → fndB b nm = ([], 3) := fun h => by
    rw [fndB, if_pos h, (hoe.resolve_left h).2]
  have hfi : (lisB b).2.2 = 0 → ∀ (i : Nat) (h : i < (lisB b).1.length), fndB b (lisB b).1[i].nm = match (scnB b).1[i]? with | none => ([], 16) | some p => (p.2, 0) := fun h i hi => by
    (rw [fndB, if_neg (by simp [h]), idxB_at hor hi, if_neg (by omega)]) <;> (cases (scnB b).1[i]? <;> rfl)
  have hfn : (lisB b).2.2 = 0 → ((fndB b nm).2 = 6 ↔ (lisB b).1.any (fun e => decide (e.nm = nm)) = false) := fun h => by
    rw [fndB, if_neg (by simp [h])]
    by_cases hx : idxB (lisB b).1 nm < (lisB b).1.length
    · rw [if_neg (by omega), (idxB_any _ _).1 hx]
      cases (scnB b).1[idxB (lisB b).1 nm]? <;> simp
    · rw [if_pos hx]
      have : ¬ (lisB b).1.any (fun e => decide (e.nm = nm)) = true := fun h => hx ((idxB_any _ _).2 h)
      simpa using this
  have cn := cf nm
  simp only [scnV] at c1
  generalize fndB b nm = F at *
  generalize scnB b = S at *
  generalize lisB b = L at *
  obtain ⟨l, k0, e⟩ := L
  obtain ⟨ps, k1, e1⟩ := S
  dsimp only at *
  have hpl2 : (ps.map pcB).length = ps.length := List.length_map _
  have hn2 : (l.map fun e : Be => PV.str (ci e.nm)).length = l.length := List.length_map _
  have hg2 : (l.map fun e : Be => PV.int .i64 (e.lg : Int)).length = l.length := List.length_map _
  have hnG : ∀ i (h : i < l.length), (l.map fun e : Be => PV.str (ci e.nm))[i]? = some (.str (ci l[i].nm)) := fun i h => by rw [List.getElem?_map, List.getElem?_eq_getElem h]; rfl
  have hgG : ∀ i (h : i < l.length), (l.map fun e : Be => PV.int .i64 (e.lg : Int))[i]? = some (.int .i64 l[i].lg) := fun i h => by rw [List.getElem?_map, List.getElem?_eq_getElem h]; rfl
  have hpG : ∀ i (p : Be × List Nat), ps[i]? = some p → (ps.map pcB)[i]? = some (pcB p) := fun i p h => by rw [List.getElem?_map, h]; rfl
  generalize (ps.map pcB) = pv at *
  generalize (l.map fun e : Be => PV.str (ci e.nm)) = nv at *
  generalize (l.map fun e : Be => PV.int .i64 (e.lg : Int)) = gv at *
  have hle : ¬ (l.length : Int) < ps.length := by omega
  have hel : e ≠ 0 → l.length = 0 := fun h => by rw [(hoe.resolve_left h).1]; rfl
  first | refine pwp_sr ?_ | refine pwp_regionM ?_
  intro K hK
  simp (disch := first | (refine Ok.mk ?_; (try simp only [Lm, La, Lc, Ln, Lt, Ld, Lr, Li, true_or, or_true, true_and, and_true]); omega) | (simp <;> fail) | skip) [runM_nil]
  refine useP (c1) ?_
  simp (disch := first | (refine Ok.mk ?_; (try simp only [Lm, La, Lc, Ln, Lt, Ld, Lr, Li, true_or, or_true, true_and, and_true]); omega) | (simp <;> fail) | skip) [runM_nil]
  refine hK _ _ ?_
  clear hK K
  first | refine pwp_sr ?_ | refine pwp_regionM ?_
  intro K hK
  simp (disch := first | (refine Ok.mk ?_; (try simp only [Lm, La, Lc, Ln, Lt, Ld, Lr, Li, true_or, or_true, true_and, and_true]); omega) | (simp <;> fail) | skip) [runM_nil]
  refine useP (c2) ?_
  simp (disch := first | (refine Ok.mk ?_; (try simp only [Lm, La, Lc, Ln, Lt, Ld, Lr, Li, true_or, or_true, true_and, and_true]); omega) | (simp <;> fail) | skip) [runM_nil]
  refine hK _ _ ?_
  clear hK K
  refine pwp_cut [0, 1, 5, 8, 9, 10] (fun st' H2 => H2 = H ∧ st' = MS 147 [(0, .lst 1 (b.map u8) o), (1, .str (ci nm)), (5, .lst 2 pv true), (8, .lst 1 nv true), (9, .lst 1 gv false), (10, .int .i64 e)]) ?_ ?_
  · by_cases he : e = 0
    · subst he
      first | refine pwp_rif ?_ | refine pwp_rifE ?_
      intro K hK
      simp (disch := first | (refine Ok.mk ?_; (try simp only [Lm, La, Lc, Ln, Lt, Ld, Lr, Li, true_or, or_true, true_and, and_true]); omega) | (simp <;> fail) | skip) [runM_nil, hpl2, hn2, hg2, hle]
      refine hK _ _ ?_
      clear hK K
      refine ifF (by simp [runM_nil, hpl2, hn2, hg2, hle]) (pwp_skip ?_)
      exact cut_to (by simp [keepA, getS]) (.refl _) ⟨rfl, rfl⟩
    · have he' : ¬ (e : Int) = 0 := by omega
      have hl0' := hel he
      have hps0 : ps.length = 0 := by omega
      first | refine pwp_rif ?_ | refine pwp_rifE ?_
      intro K hK
      simp (disch := first | (refine Ok.mk ?_; (try simp only [Lm, La, Lc, Ln, Lt, Ld, Lr, Li, true_or, or_true, true_and, and_true]); omega) | (simp <;> fail) | skip) [runM_nil, hpl2, hn2, hg2, hle, he, he', hl0', hps0]
      refine hK _ _ ?_
      clear hK K
      refine ifF (by simp [runM_nil, hpl2, hn2, hg2, hle, he, he', hl0', hps0]) (pwp_skip ?_)
      exact cut_to (by simp [keepA, getS]) (.refl _) ⟨rfl, rfl⟩
  rintro _ H2 ⟨hH2, rfl⟩
  subst hH2
  first | refine pwp_sr ?_ | refine pwp_regionM ?_
  intro K hK
  simp (disch := first | (refine Ok.mk ?_; (try simp only [Lm, La, Lc, Ln, Lt, Ld, Lr, Li, true_or, or_true, true_and, and_true]); omega) | (simp <;> fail) | skip) [runM_nil]
  refine hK _ _ ?_
  clear hK K
  refine pwp_seq (pwp_seq ?_)
  first | refine pwp_sr ?_ | refine pwp_regionM ?_
  intro K hK
  simp (disch := first | (refine Ok.mk ?_; (try simp only [Lm, La, Lc, Ln, Lt, Ld, Lr, Li, true_or, or_true, true_and, and_true]); omega) | (simp <;> fail) | skip) [runM_nil]
  refine hK _ _ ?_
  clear hK K
  refine pwp_block ?_
  refine pwp_loopK [0, 1, 5, 8, 9, 10, 11, 12] (fun q st H' => ∃ i : Nat, i ≤ l.length ∧ q = l.length - i ∧ H' = H2 ∧ st = MS 147 [(0, .lst 1 (b.map u8) o), (1, .str (ci nm)), (5, .lst 2 pv true), (8, .lst 1 nv true), (9, .lst 1 gv false), (10, .int .i64 e),
      (11, .bool ((l.take i).any fun e => decide (e.nm = nm))), (12, .int .i64 i)]) (n := l.length)
    ⟨_, .refl _, 0, Nat.zero_le _, rfl, rfl, by simp [keepL_MS, keepA, getS]⟩ ?_
  rintro q st H' ⟨i, hi, rfl, hH, rfl⟩
  subst hH
  refine pwp_seq ?_
  by_cases hlt : i < l.length
  · have he0 : e = 0 := Decidable.byContradiction fun h => by have := hel h; omega
    subst he0
    have hfi1 := hfi rfl i hlt
    have n1 := hnG i hlt
    have g1 := hgG i hlt
    have hgi : l[i]? = some l[i] := List.getElem?_eq_getElem hlt
    have hts : (l.take (i + 1)).any (fun e => decide (e.nm = nm)) = ((l.take i).any (fun e => decide (e.nm = nm)) || decide (l[i].nm = nm)) := by
      rw [List.take_succ_eq_append_getElem hlt, List.any_append]
      simp
    have ci1 := cf l[i].nm
    rw [hfi1] at ci1
    generalize hx : l[i] = x at *
    first | refine pwp_sr ?_ | refine pwp_regionM ?_
    intro K hK
    simp (disch := first | (refine Ok.mk ?_; (try simp only [Lm, La, Lc, Ln, Lt, Ld, Lr, Li, true_or, or_true, true_and, and_true]); omega) | (simp <;> fail) | skip) [runM_nil, hn2]
    refine hK _ _ ?_
    clear hK K
    refine pwp_cT (by simp) (pwp_skip ?_)
    refine pwp_seq (pwp_block ?_)
    generalize hM : (match ps[i]? with | none => (([] : List Nat), 16) | some p => (p.2, 0)) = M at *
    obtain ⟨mf, me⟩ := M
    dsimp only at *
    first | refine pwp_sr ?_ | refine pwp_regionM ?_
    intro K hK
    simp (disch := first | (refine Ok.mk ?_; (try simp only [Lm, La, Lc, Ln, Lt, Ld, Lr, Li, true_or, or_true, true_and, and_true]); omega) | (simp <;> fail) | skip) [runM_nil, hn2, n1]
    refine useP (ci1) ?_
    simp (disch := first | (refine Ok.mk ?_; (try simp only [Lm, La, Lc, Ln, Lt, Ld, Lr, Li, true_or, or_true, true_and, and_true]); omega) | (simp <;> fail) | skip) [runM_nil, hn2, n1]
    refine hK _ _ ?_
    clear hK K
    refine pwp_cut [0, 1, 5, 8, 9, 10, 11, 12] (fun st' H2 => H2 = H' ∧ st' = MS 147 [(0, .lst 1 (b.map u8) o), (1, .str (ci nm)), (5, .lst 2 pv true), (8, .lst 1 nv true), (9, .lst 1 gv false), (10, .int .i64 (0 : Nat)), (11, .bool ((l.take i).any fun e => decide (e.nm = nm))), (12, .int .i64 i)]) ?_ ?_
    · rcases hpi : ps[i]? with _ | p
      · rw [hpi] at hM
        simp only [Prod.mk.injEq] at hM
        obtain ⟨rfl, rfl⟩ := hM
        have hge : ps.length ≤ i := List.getElem?_eq_none_iff.1 hpi
        have q1 : ¬ (i : Int) < ps.length := by omega
        have q2 : (ps.length : Int) ≤ i := by omega
        first | refine pwp_sd hmix ?_ | refine pwp_drawM hmix ?_
        intro K hK
        simp (disch := first | (refine Ok.mk ?_; (try simp only [Lm, La, Lc, Ln, Lt, Ld, Lr, Li, true_or, or_true, true_and, and_true]); omega) | (simp <;> fail) | skip) [runM_nil, hpl2, q1, q2]
        refine hK _ _ ?_
        clear hK K
        refine pwp_cF (by simp) (pwp_skip ?_)
        exact cut_to (by simp [keepA, getS]) (.refl _) ⟨rfl, rfl⟩
      · rw [hpi] at hM
        simp only [Prod.mk.injEq] at hM
        obtain ⟨rfl, rfl⟩ := hM
        have hge := (List.getElem?_eq_some_iff.1 hpi).1
        have q1 : (i : Int) < ps.length := by omega
        have q2 : ¬ (ps.length : Int) ≤ i := by omega
        obtain ⟨r1, r2, r3⟩ := hpg i p hpi
        rw [hgi] at r1
        obtain rfl : x = p.1 := Option.some.inj r1
        have pg := hpG i p hpi
        obtain ⟨pe, pd⟩ := p
        dsimp only at *
        have cr := recsSame_ok (l := [[pe.nm, pd]]) (by simp) (by simp) (o := false) (q := false)
        simp only [rowsC, sV, List.map_cons, List.map_nil] at cr
        simp only [pcB] at pg
        have hcl : (ci pd).length = pe.lg := by simp [r2]
        first | refine pwp_sd hmix ?_ | refine pwp_drawM hmix ?_
        intro K hK
        simp (disch := first | (refine Ok.mk ?_; (try simp only [Lm, La, Lc, Ln, Lt, Ld, Lr, Li, true_or, or_true, true_and, and_true]); omega) | (simp <;> fail) | skip) [runM_nil, hpl2, hn2, hg2, q1, q2, pg, n1, g1, hcl, r2]
        refine useD (cr) ?_
        simp (disch := first | (refine Ok.mk ?_; (try simp only [Lm, La, Lc, Ln, Lt, Ld, Lr, Li, true_or, or_true, true_and, and_true]); omega) | (simp <;> fail) | skip) [runM_nil, hpl2, hn2, hg2, q1, q2, pg, n1, g1, hcl, r2]
        refine hK _ _ ?_
        clear hK K
        refine pwp_cF (by simp) (pwp_skip ?_)
        exact cut_to (by simp [keepA, getS]) (.refl _) ⟨rfl, rfl⟩
    · rintro _ H2 ⟨hH2, rfl⟩
      subst hH2
      cases ha : (l.take i).any fun e => decide (e.nm = nm) with
      | true =>
        rw [ha, Bool.true_or] at hts
        first | refine pwp_sr ?_ | refine pwp_regionM ?_
        intro K hK
        simp (disch := first | (refine Ok.mk ?_; (try simp only [Lm, La, Lc, Ln, Lt, Ld, Lr, Li, true_or, or_true, true_and, and_true]); omega) | (simp <;> fail) | skip) [runM_nil]
        refine hK _ _ ?_
        clear hK K
        first | refine pwp_sr ?_ | refine pwp_regionM ?_
        intro K hK
        simp (disch := first | (refine Ok.mk ?_; (try simp only [Lm, La, Lc, Ln, Lt, Ld, Lr, Li, true_or, or_true, true_and, and_true]); omega) | (simp <;> fail) | skip) [runM_nil]
        refine hK _ _ ?_
        clear hK K
        exact ⟨l.length - (i + 1), by omega, _, .refl _, i + 1, by omega, rfl, rfl, by simp [keepL_MS, keepA, getS, hts]⟩
      | false =>
        rw [ha, Bool.false_or] at hts
        first | refine pwp_sr ?_ | refine pwp_regionM ?_
        intro K hK
        simp (disch := first | (refine Ok.mk ?_; (try simp only [Lm, La, Lc, Ln, Lt, Ld, Lr, Li, true_or, or_true, true_and, and_true]); omega) | (simp <;> fail) | skip) [runM_nil, hn2, n1, strP]
        refine hK _ _ ?_
        clear hK K
        first | refine pwp_sr ?_ | refine pwp_regionM ?_
        intro K hK
        simp (disch := first | (refine Ok.mk ?_; (try simp only [Lm, La, Lc, Ln, Lt, Ld, Lr, Li, true_or, or_true, true_and, and_true]); omega) | (simp <;> fail) | skip) [runM_nil]
        refine hK _ _ ?_
        clear hK K
        exact ⟨l.length - (i + 1), by omega, _, .refl _, i + 1, by omega, rfl, rfl, by simp [keepL_MS, keepA, getS, hts]⟩
  · obtain rfl : i = l.length := by omega
    rw [List.take_length]
    obtain ⟨f1, f2⟩ := F
    dsimp only at *
    first | refine pwp_sr ?_ | refine pwp_regionM ?_
    intro K hK
    simp (disch := first | (refine Ok.mk ?_; (try simp only [Lm, La, Lc, Ln, Lt, Ld, Lr, Li, true_or, or_true, true_and, and_true]); omega) | (simp <;> fail) | skip) [runM_nil, hn2]
    refine hK _ _ ?_
    clear hK K
    refine pwp_cF (by simp) (pwp_exit ?_)
    by_cases he : e = 0
    · subst he
      have hf6 := hfn rfl
      cases ha : l.any fun e => decide (e.nm = nm) with
      | true =>
        rw [ha] at hf6
        have h6 : ¬ f2 = 6 := fun h => by simpa using hf6.1 h
        have h6' : ¬ (f2 : Int) = 6 := by omega
        first | refine pwp_sr ?_ | refine pwp_regionM ?_
        intro K hK
        simp (disch := first | (refine Ok.mk ?_; (try simp only [Lm, La, Lc, Ln, Lt, Ld, Lr, Li, true_or, or_true, true_and, and_true]); omega) | (simp <;> fail) | skip) [runM_nil]
        refine useP (cn) ?_
        simp (disch := first | (refine Ok.mk ?_; (try simp only [Lm, La, Lc, Ln, Lt, Ld, Lr, Li, true_or, or_true, true_and, and_true]); omega) | (simp <;> fail) | skip) [runM_nil]
        refine hK _ _ ?_
        clear hK K
        first | refine pwp_sr ?_ | refine pwp_regionM ?_
        intro K hK
        simp (disch := first | (refine Ok.mk ?_; (try simp only [Lm, La, Lc, Ln, Lt, Ld, Lr, Li, true_or, or_true, true_and, and_true]); omega) | (simp <;> fail) | skip) [runM_nil, h6, h6']
        refine useP (ca) ?_
        simp (disch := first | (refine Ok.mk ?_; (try simp only [Lm, La, Lc, Ln, Lt, Ld, Lr, Li, true_or, or_true, true_and, and_true]); omega) | (simp <;> fail) | skip) [runM_nil, h6, h6']
        refine hK _ _ ?_
        clear hK K
        refine pwp_ret ⟨.inr rfl, _, _, (by simp (disch := first | (refine Ok.mk ?_; (try simp only [Lm, La, Lc, Ln, Lt, Ld, Lr, Li, true_or, or_true, true_and, and_true]); omega) | (simp <;> fail) | skip) [runM_nil, resL]; rfl), .refl _, by simp (disch := first | (refine Ok.mk ?_; (try simp only [Lm, La, Lc, Ln, Lt, Ld, Lr, Li, true_or, or_true, true_and, and_true]); omega) | (simp <;> fail) | skip) [resV], rfl⟩
      | false =>
        rw [ha] at hf6
        obtain rfl : f2 = 6 := hf6.2 rfl
        first | refine pwp_sr ?_ | refine pwp_regionM ?_
        intro K hK
        simp (disch := first | (refine Ok.mk ?_; (try simp only [Lm, La, Lc, Ln, Lt, Ld, Lr, Li, true_or, or_true, true_and, and_true]); omega) | (simp <;> fail) | skip) [runM_nil]
        refine useP (cn) ?_
        simp (disch := first | (refine Ok.mk ?_; (try simp only [Lm, La, Lc, Ln, Lt, Ld, Lr, Li, true_or, or_true, true_and, and_true]); omega) | (simp <;> fail) | skip) [runM_nil]
        refine hK _ _ ?_
        clear hK K
        first | refine pwp_sr ?_ | refine pwp_regionM ?_
        intro K hK
        simp (disch := first | (refine Ok.mk ?_; (try simp only [Lm, La, Lc, Ln, Lt, Ld, Lr, Li, true_or, or_true, true_and, and_true]); omega) | (simp <;> fail) | skip) [runM_nil]
        refine useP (ca) ?_
        simp (disch := first | (refine Ok.mk ?_; (try simp only [Lm, La, Lc, Ln, Lt, Ld, Lr, Li, true_or, or_true, true_and, and_true]); omega) | (simp <;> fail) | skip) [runM_nil]
        refine hK _ _ ?_
        clear hK K
        refine pwp_ret ⟨.inr rfl, _, _, (by simp (disch := first | (refine Ok.mk ?_; (try simp only [Lm, La, Lc, Ln, Lt, Ld, Lr, Li, true_or, or_true, true_and, and_true]); omega) | (simp <;> fail) | skip) [runM_nil, resL]; rfl), .refl _, by simp (disch := first | (refine Ok.mk ?_; (try simp only [Lm, La, Lc, Ln, Lt, Ld, Lr, Li, true_or, or_true, true_and, and_true]); omega) | (simp <;> fail) | skip) [resV], rfl⟩
    · have he' : ¬ (e : Int) = 0 := by omega
      have hF := hfe he
      simp only [Prod.mk.injEq] at hF
      obtain ⟨rfl, rfl⟩ := hF
      first | refine pwp_sr ?_ | refine pwp_regionM ?_
      intro K hK
      simp (disch := first | (refine Ok.mk ?_; (try simp only [Lm, La, Lc, Ln, Lt, Ld, Lr, Li, true_or, or_true, true_and, and_true]); omega) | (simp <;> fail) | skip) [runM_nil]
      refine useP (cn) ?_
      simp (disch := first | (refine Ok.mk ?_; (try simp only [Lm, La, Lc, Ln, Lt, Ld, Lr, Li, true_or, or_true, true_and, and_true]); omega) | (simp <;> fail) | skip) [runM_nil]
      refine hK _ _ ?_
      clear hK K
      first | refine pwp_sr ?_ | refine pwp_regionM ?_
      intro K hK
      simp (disch := first | (refine Ok.mk ?_; (try simp only [Lm, La, Lc, Ln, Lt, Ld, Lr, Li, true_or, or_true, true_and, and_true]); omega) | (simp <;> fail) | skip) [runM_nil, he, he']
      refine useP (ca) ?_
      simp (disch := first | (refine Ok.mk ?_; (try simp only [Lm, La, Lc, Ln, Lt, Ld, Lr, Li, true_or, or_true, true_and, and_true]); omega) | (simp <;> fail) | skip) [runM_nil, he, he']
      refine hK _ _ ?_
      clear hK K
      refine pwp_ret ⟨.inr rfl, _, _, (by simp (disch := first | (refine Ok.mk ?_; (try simp only [Lm, La, Lc, Ln, Lt, Ld, Lr, Li, true_or, or_true, true_and, and_true]); omega) | (simp <;> fail) | skip) [runM_nil, resL]; rfl), .refl _, by simp (disch := first | (refine Ok.mk ?_; (try simp only [Lm, La, Lc, Ln, Lt, Ld, Lr, Li, true_or, or_true, true_and, and_true]); omega) | (simp <;> fail) | skip) [resV], rfl⟩
end Go.Proofs.Ytmpomnnaoggdkaa.E
/- What a row hands over, as bytes and numbers. -/
namespace Go.Proofs.Ytmpomnnaoggdkaa.E
open Go Go.RowKit Go.Proofs Go.ChangeShapes Go.WideShapes
set_option linter.unusedVariables false
set_option linter.unusedSimpArgs false
theorem bytes_of {xs : List PV} (h : ∀ x ∈ xs, el false (fun ps => ∃ n : Int, ps = [.int .u8 n] ∧ (Lit.int .u8 n).wf = true) x) : ∃ l : List Nat, xs = l.map u8 ∧ ∀ x ∈ l, x < 256 := by
  induction xs with
  | nil => exact ⟨[], rfl, fun c hc => by cases hc⟩
  | cons x xs ih =>
    obtain ⟨l, rfl, hl⟩ := ih fun y hy => h y (List.mem_cons_of_mem _ hy)
    obtain ⟨n, e, hn⟩ := h x (List.mem_cons_self ..)
    cases e
    have hw : 0 ≤ n ∧ n ≤ 255 := by simpa [Lit.wf, IntKind.min, IntKind.max, IntKind.signed, IntKind.bits] using hn
    refine ⟨n.toNat :: l, ?_, fun c hc => ?_⟩
    · have : ((n.toNat : Nat) : Int) = n := by omega
      simp [u8, this]
    · rcases List.mem_cons.1 hc with rfl | hc
      · omega
      · exact hl c hc
theorem openBytes : OpnV Try.prog 25 1 (fun ps => ∃ l : List Nat, ps = [.lst 1 (l.map u8) false] ∧ (∀ x ∈ l, x < 256) ∧ l.length ≤ 140737488351232) :=
  (OpnV.slice (B := 1) false Try.underlying25 (by kernel_rfl) (by kernel_rfl) (OpnV.int Try.underlying5 (by kernel_rfl)) (fun _ => rfl) (by omega)).weaken (by
    rintro _ ⟨xs, rfl, h1, _, h2⟩
    obtain ⟨l, rfl, h3⟩ := bytes_of h2
    rw [List.length_map] at h1
    exact ⟨l, rfl, h3, by omega⟩)
theorem openIntB : OpnV Try.prog 3 1 (fun ps => ∃ n : Int, ps = [.int .i64 n] ∧ -9223372036854775808 ≤ n ∧ n ≤ 9223372036854775807) := (OpnV.int Try.underlying3 (by kernel_rfl)).weaken (by
  rintro _ ⟨n, rfl, h⟩
  have hw : -9223372036854775808 ≤ n ∧ n ≤ 9223372036854775807 := by simpa [Lit.wf, IntKind.min, IntKind.max, IntKind.signed, IntKind.bits] using h
  exact ⟨n, rfl, hw⟩)
theorem bytess_of {xs : List PV} (h : ∀ x ∈ xs, el false (fun ps => ∃ l : List Nat, ps = [.lst 1 (l.map u8) false] ∧ (∀ x ∈ l, x < 256) ∧ l.length ≤ 140737488351232) x) :
    ∃ ls : List (List Nat), xs = ls.map (fun p => .lst 1 (p.map u8) false) ∧ ∀ p ∈ ls, (∀ x ∈ p, x < 256) ∧ p.length ≤ 140737488351232 := by
  induction xs with
  | nil => exact ⟨[], rfl, fun c hc => by cases hc⟩
  | cons x xs ih =>
    obtain ⟨ls, rfl, hl⟩ := ih fun y hy => h y (List.mem_cons_of_mem _ hy)
    obtain ⟨p, e, hp⟩ := h x (List.mem_cons_self ..)
    cases e
    refine ⟨p :: ls, rfl, fun c hc => ?_⟩
    rcases List.mem_cons.1 hc with rfl | hc
    · exact hp
    · exact hl c hc
end Go.Proofs.Ytmpomnnaoggdkaa.E
/- What a row hands over, as a text. -/
namespace Go.Proofs.Ytmpomnnaoggdkaa.E
open Go Go.RowKit Go.Proofs Go.ChangeShapes Go.WideShapes
set_option linter.unusedVariables false
set_option linter.unusedSimpArgs false
theorem openStr : OpnV Try.prog 9 1 (fun ps => ∃ m : List Nat, ps = [.str (ci m)] ∧ (∀ x ∈ m, x < 256) ∧ m.length ≤ 140737488351232) :=
  (OpnV.string Try.underlying9 (by kernel_rfl)).weaken (by
    rintro _ ⟨s, rfl, h⟩
    refine ⟨s.data.toList.map (·.toNat), by simp [bytesOf, ci], fun x hx => ?_, by simpa using h⟩
    obtain ⟨c, _, rfl⟩ := List.mem_map.1 hx
    exact c.toNat_lt)
end Go.Proofs.Ytmpomnnaoggdkaa.E
