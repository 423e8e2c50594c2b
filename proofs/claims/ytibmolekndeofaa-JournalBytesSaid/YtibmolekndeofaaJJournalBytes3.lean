/- Part 3 of the proof of JournalBytes: what the program's functions come to. -/
import Derived.Test.YtibmolekndeofaaJJournalBytes2
import Derived.Test.YtibmolekndeofaaL2
import Derived.Test.YtibmolekndeofaaProg
/- Rows of one number, made anew. -/
namespace Go.Proofs.Ytibmolekndeofaa.E
open Go Go.RowKit Go.Proofs
set_option linter.unusedVariables false
set_option linter.unusedSimpArgs false
def iV (n : Int) : PV := .int .i64 n
/-- A row of n numbers, of which the first i are k. -/
def repI (k : Int) (n i : Nat) : List PV := List.replicate i (.int .i64 k) ++ List.replicate (n - i) (.int .i64 0)
theorem repI_len (k : Int) {n i : Nat} (h : i ≤ n) : (repI k n i).length = n := by simp [repI]; omega
theorem repI_lend (k : Int) (n i : Nat) : lendL (repI k n i) = repI k n i := by rw [repI, lendL_append, lendL_replicate rfl, lendL_replicate rfl]
theorem repI_take (k : Int) (n i : Nat) : (repI k n i).take i = List.replicate i (.int .i64 k) := List.take_left' (List.length_replicate ..)
theorem repI_over (k : Int) (n i d : Nat) (h : i + d ≤ n) : (repI k n i).take i ++ (List.replicate d (.int .i64 k) ++ (repI k n i).drop (i + d)) = repI k n (i + d) := by
  rw [repI_take]
  have h2 : (repI k n i).drop (i + d) = List.replicate (n - (i + d)) (.int .i64 0) := by
    rw [repI, List.drop_append, List.drop_eq_nil_of_le (by simp), List.nil_append, List.length_replicate, List.drop_replicate]
    congr 1
    omega
  rw [h2, ← List.append_assoc, List.replicate_append_replicate]
  rfl
set_option maxRecDepth 8000 in
theorem repeat_ok (k : Int) (n : Nat) (hn : n ≤ 20000) {o : Bool} : PSpec Try.prog 53 [.lst 1 [.int .i64 k] o, .int .i64 n] (.xl n (List.replicate n (.int .i64 k)) (.int .i64 0)) := by
  intro H
  have cm := mulU_ok 1 n (by omega) (by omega) (by omega)
  rw [Nat.one_mul] at cm
  refine spec_of t53r (by simp [p53r]) ?_
  simp only [p53r]
  first | refine pwp_sr ?_ | refine pwp_regionM ?_
  intro K hK
  simp (disch := first | (refine Ok.mk ?_; (try simp only [Lm, La, Lc, Ln, Lt, Ld, Lr, Li, true_or, or_true, true_and, and_true]); omega) | (simp <;> fail) | skip) [runM_nil]
  refine hK _ _ ?_
  clear hK K
  first | refine pwp_rif ?_ | refine pwp_rifE ?_
  intro K hK
  simp (disch := first | (refine Ok.mk ?_; (try simp only [Lm, La, Lc, Ln, Lt, Ld, Lr, Li, true_or, or_true, true_and, and_true]); omega) | (simp <;> fail) | skip) [runM_nil]
  refine hK _ _ ?_
  clear hK K
  refine ifF (by simp (disch := first | (refine Ok.mk ?_; (try simp only [Lm, La, Lc, Ln, Lt, Ld, Lr, Li, true_or, or_true, true_and, and_true]); omega) | (simp <;> fail) | skip) [runM_nil]) (pwp_skip ?_)
  first | refine pwp_sr ?_ | refine pwp_regionM ?_
  intro K hK
  simp (disch := first | (refine Ok.mk ?_; (try simp only [Lm, La, Lc, Ln, Lt, Ld, Lr, Li, true_or, or_true, true_and, and_true]); omega) | (simp <;> fail) | skip) [runM_nil]
  refine useP (cm) ?_
  simp (disch := first | (refine Ok.mk ?_; (try simp only [Lm, La, Lc, Ln, Lt, Ld, Lr, Li, true_or, or_true, true_and, and_true]); omega) | (simp <;> fail) | skip) [runM_nil]
  refine hK _ _ ?_
  clear hK K
  first | refine pwp_rif ?_ | refine pwp_rifE ?_
  intro K hK
  simp (disch := first | (refine Ok.mk ?_; (try simp only [Lm, La, Lc, Ln, Lt, Ld, Lr, Li, true_or, or_true, true_and, and_true]); omega) | (simp <;> fail) | skip) [runM_nil]
  refine hK _ _ ?_
  clear hK K
  refine ifF (by simp (disch := first | (refine Ok.mk ?_; (try simp only [Lm, La, Lc, Ln, Lt, Ld, Lr, Li, true_or, or_true, true_and, and_true]); omega) | (simp <;> fail) | skip) [runM_nil]) (pwp_skip ?_)
  first | refine pwp_sr ?_ | refine pwp_regionM ?_
  intro K hK
  simp (disch := first | (refine Ok.mk ?_; (try simp only [Lm, La, Lc, Ln, Lt, Ld, Lr, Li, true_or, or_true, true_and, and_true]); omega) | (simp <;> fail) | skip) [runM_nil, -List.reduceReplicate]
  intro b h_b
  try simp (disch := first | (refine Ok.mk ?_; (try simp only [Lm, La, Lc, Ln, Lt, Ld, Lr, Li, true_or, or_true, true_and, and_true]); omega) | (simp <;> fail) | skip) [runM_nil, -List.reduceReplicate]
  refine hK _ _ ?_
  clear hK K
  have hG0 : List.replicate n (PV.int .i64 0) = repI k n 0 := by simp [repI]
  rw [hG0]
  have hlen := fun i h => repI_len k (n := n) (i := i) h
  have hov := repI_over k n 0 (min 1 n) (by omega)
  rw [Nat.zero_add, List.take_zero, List.nil_append] at hov
  have htk1 : ([PV.int .i64 k] : List PV).take (min 1 n) = List.replicate (min 1 n) (.int .i64 k) := by
    rcases Nat.eq_zero_or_pos n with h | h
    · subst h; rfl
    · rw [Nat.min_eq_left h]; rfl
  generalize hq : min 1 n = q at *
  have hl0 := hlen 0 (Nat.zero_le _)
  generalize repI k n 0 = G0 at *
  first | refine pwp_sr ?_ | refine pwp_regionM ?_
  intro K hK
  simp (disch := first | (refine Ok.mk ?_; (try simp only [Lm, La, Lc, Ln, Lt, Ld, Lr, Li, true_or, or_true, true_and, and_true]); omega) | (simp <;> fail) | skip) [runM_nil, hl0, hq, htk1, hov]
  refine hK _ _ ?_
  clear hK K
  have hqn : q ≤ n := by omega
  have hq0 : q = 0 → n = 0 := by omega
  refine pwp_seq (pwp_block ?_)
  refine pwp_loopK [7, 8] (fun m st H' => ∃ i, i ≤ n ∧ (i = 0 → n = 0) ∧ m = n - i ∧ H' = (b, repI k n i) :: H ∧ st = MS 48 [(7, .row b 0 n n), (8, .int .i64 i)]) (n := n - q)
    ⟨_, .refl _, q, hqn, hq0, rfl, rfl, by simp [keepL_MS, keepA, getS]⟩ ?_
  rintro m st _ ⟨i, hi, hi0, rfl, rfl, rfl⟩
  have hln := hlen i hi
  have htk := repI_take k n i
  have hle := repI_lend k n i
  by_cases hin : i < n
  · have hd := min i (n - i)
    have hov := repI_over k n i (min i (n - i)) (by omega)
    rw [htk] at hov
    have hpos : min i (n - i) ≠ 0 := by omega
    have htr : (List.replicate i (PV.int .i64 k)).take (min i (n - i)) = List.replicate (min i (n - i)) (.int .i64 k) := by rw [List.take_replicate]; congr 1; omega
    generalize hdd : min i (n - i) = d at *
    generalize repI k n i = G at *
    first | refine pwp_rif ?_ | refine pwp_rifE ?_
    intro K hK
    simp (disch := first | (refine Ok.mk ?_; (try simp only [Lm, La, Lc, Ln, Lt, Ld, Lr, Li, true_or, or_true, true_and, and_true]); omega) | (simp <;> fail) | skip) [runM_nil]
    refine hK _ _ ?_
    clear hK K
    refine ifT (by simp (disch := first | (refine Ok.mk ?_; (try simp only [Lm, La, Lc, Ln, Lt, Ld, Lr, Li, true_or, or_true, true_and, and_true]); omega) | (simp <;> fail) | skip) [runM_nil]) (pwp_skip ?_)
    refine pwp_block ?_
    have hlr : lendL (List.replicate i (PV.int .i64 k)) = List.replicate i (.int .i64 k) := lendL_replicate rfl i
    first | refine pwp_ss hmix ?_ | refine pwp_drawS hmix ?_
    intro K hK
    simp (disch := first | (refine Ok.mk ?_; (try simp only [Lm, La, Lc, Ln, Lt, Ld, Lr, Li, true_or, or_true, true_and, and_true]); omega) | (simp <;> fail) | skip) [runM_nil, planS_nil, hln, htk, hlr, hdd, htr, hov]
    refine hK _ _ ?_
    clear hK K
    exact ⟨n - (i + d), by omega, _, .refl _, i + d, by omega, by omega, rfl, by rw [← hov, ← List.append_assoc, List.replicate_append_replicate], by simp [keepL_MS, keepA, getS]⟩
  · obtain rfl : i = n := by omega
    first | refine pwp_rif ?_ | refine pwp_rifE ?_
    intro K hK
    simp (disch := first | (refine Ok.mk ?_; (try simp only [Lm, La, Lc, Ln, Lt, Ld, Lr, Li, true_or, or_true, true_and, and_true]); omega) | (simp <;> fail) | skip) [runM_nil]
    refine hK _ _ ?_
    clear hK K
    refine ifF (by simp (disch := first | (refine Ok.mk ?_; (try simp only [Lm, La, Lc, Ln, Lt, Ld, Lr, Li, true_or, or_true, true_and, and_true]); omega) | (simp <;> fail) | skip) [runM_nil]) ?_
    refine pwp_exit ?_
    first | refine pwp_sr ?_ | refine pwp_regionM ?_
    intro K hK
    simp (disch := first | (refine Ok.mk ?_; (try simp only [Lm, La, Lc, Ln, Lt, Ld, Lr, Li, true_or, or_true, true_and, and_true]); omega) | (simp <;> fail) | skip) [runM_nil]
    refine hK _ _ ?_
    clear hK K
    have hf : repI k i i = List.replicate i (.int .i64 k) ++ List.replicate 0 (.int .i64 0) := by simp [repI]
    rw [hf]
    refine pwp_packM 4 (by omega) (by simp; rfl) (Nat.le_refl _) (by omega) (lendL_replicate rfl i) rfl rfl ?_
    refine pwp_ret ⟨.inr rfl, _, _, (by simp (disch := first | (refine Ok.mk ?_; (try simp only [Lm, La, Lc, Ln, Lt, Ld, Lr, Li, true_or, or_true, true_and, and_true]); omega) | (simp <;> fail) | skip) [runM_nil, resL]; rfl), .refl _, by simp (disch := first | (refine Ok.mk ?_; (try simp only [Lm, La, Lc, Ln, Lt, Ld, Lr, Li, true_or, or_true, true_and, and_true]); omega) | (simp <;> fail) | skip) [resV], rfl⟩
end Go.Proofs.Ytibmolekndeofaa.E
/- A state of a journal: begun, and named. -/
namespace Go.Proofs.Ytibmolekndeofaa.E
open Go Go.RowKit Go.Proofs
set_option linter.unusedVariables false
set_option linter.unusedSimpArgs false
/-- A state that is not begun. -/
def stC0 : List PV := [.bool false, .int .i64 0, .int .i64 0, .lst 0 [] true, .lst 0 [] true, .lst 0 [] true, .int .i64 0, .int .i64 0]
def rowC (l : List Int) (k : Nat) : List PV := l.map iV ++ List.replicate k (.int .i64 0)
/-- .. one that is. -/
def stC (m p : Int) (bD nD cD bB nB cB bN nN cN : Nat) (en e : Int) : List PV := [.bool true, .int .i64 m, .int .i64 p, .row bD 0 nD cD, .row bB 0 nB cB, .row bN 0 nN cN, .int .i64 en, .int .i64 e]
def begX (t y : Nat) : List PV := [.bool true, .int .i64 t, .int .i64 y, .xl t (List.replicate t (.int .i64 (-1))) (.int .i64 0), .xl t (List.replicate t (.int .i64 (-1))) (.int .i64 0), .xl y (List.replicate y (.int .i64 (-1))) (.int .i64 0), .int .i64 0, .int .i64 0]
set_option maxRecDepth 8000 in
theorem begin_new {H : Heap} {b : Nat} (hb : hget H b = some stC0) (k w : Int) (t y : Nat) (ht : t ≤ 10000) (hy : y ≤ 10000) :
    SpecH Try.prog 30 H [.ptr (some (b, 0)), enV ⟨k, t, y, w⟩] (fun r H' => r = .tup [] ∧ H' = hset H b (begX t y)) := by
  have c1 := repeat_ok (-1) t (by omega) (o := false)
  have c2 := repeat_ok (-1) y (by omega) (o := false)
  simp only [stC0] at hb
  refine spec_of t30b (by simp [p30b]) ?_
  simp only [p30b]
  first | refine pwp_sr ?_ | refine pwp_regionM ?_
  intro K hK
  simp (disch := first | (refine Ok.mk ?_; (try simp only [Lm, La, Lc, Ln, Lt, Ld, Lr, Li, true_or, or_true, true_and, and_true]); omega) | (simp <;> fail) | skip) [runM_nil, enV]
  refine hK _ _ ?_
  clear hK K
  first | refine pwp_rif ?_ | refine pwp_rifE ?_
  intro K hK
  simp (disch := first | (refine Ok.mk ?_; (try simp only [Lm, La, Lc, Ln, Lt, Ld, Lr, Li, true_or, or_true, true_and, and_true]); omega) | (simp <;> fail) | skip) [runM_nil, hb]
  refine hK _ _ ?_
  clear hK K
  refine ifF (by simp (disch := first | (refine Ok.mk ?_; (try simp only [Lm, La, Lc, Ln, Lt, Ld, Lr, Li, true_or, or_true, true_and, and_true]); omega) | (simp <;> fail) | skip) [runM_nil]) (pwp_skip ?_)
  first | refine pwp_ss hmix ?_ | refine pwp_drawS hmix ?_
  intro K hK
  simp (disch := first | (refine Ok.mk ?_; (try simp only [Lm, La, Lc, Ln, Lt, Ld, Lr, Li, true_or, or_true, true_and, and_true]); omega) | (simp <;> fail) | skip) [runM_nil, planS_nil, hb, -List.reduceReplicate]
  refine useDS (c1) ?_
  simp (disch := first | (refine Ok.mk ?_; (try simp only [Lm, La, Lc, Ln, Lt, Ld, Lr, Li, true_or, or_true, true_and, and_true]); omega) | (simp <;> fail) | skip) [runM_nil, planS_nil, hb, -List.reduceReplicate]
  refine useDS (c1) ?_
  simp (disch := first | (refine Ok.mk ?_; (try simp only [Lm, La, Lc, Ln, Lt, Ld, Lr, Li, true_or, or_true, true_and, and_true]); omega) | (simp <;> fail) | skip) [runM_nil, planS_nil, hb, -List.reduceReplicate]
  refine useDS (c2) ?_
  simp (disch := first | (refine Ok.mk ?_; (try simp only [Lm, La, Lc, Ln, Lt, Ld, Lr, Li, true_or, or_true, true_and, and_true]); omega) | (simp <;> fail) | skip) [runM_nil, planS_nil, hb, -List.reduceReplicate]
  refine hK _ _ ?_
  clear hK K
  exact ⟨.inl rfl, _, _, (by simp [resL]; rfl), .refl _, rfl, by simp [begX]⟩
theorem begin_old {H : Heap} {b : Nat} {m p en e : Int} {x y z : PV} (hb : hget H b = some [.bool true, .int .i64 m, .int .i64 p, x, y, z, .int .i64 en, .int .i64 e]) (en' : En) :
    SpecH Try.prog 30 H [.ptr (some (b, 0)), enV en'] (fun r H' => r = .tup [] ∧ H' = H) := by
  refine spec_of t30b (by simp [p30b]) ?_
  simp only [p30b]
  first | refine pwp_sr ?_ | refine pwp_regionM ?_
  intro K hK
  simp (disch := first | (refine Ok.mk ?_; (try simp only [Lm, La, Lc, Ln, Lt, Ld, Lr, Li, true_or, or_true, true_and, and_true]); omega) | (simp <;> fail) | skip) [runM_nil, enV]
  refine hK _ _ ?_
  clear hK K
  first | refine pwp_rif ?_ | refine pwp_rifE ?_
  intro K hK
  simp (disch := first | (refine Ok.mk ?_; (try simp only [Lm, La, Lc, Ln, Lt, Ld, Lr, Li, true_or, or_true, true_and, and_true]); omega) | (simp <;> fail) | skip) [runM_nil, hb]
  refine hK _ _ ?_
  clear hK K
  refine ifT (by simp (disch := first | (refine Ok.mk ?_; (try simp only [Lm, La, Lc, Ln, Lt, Ld, Lr, Li, true_or, or_true, true_and, and_true]); omega) | (simp <;> fail) | skip) [runM_nil]) ?_
  exact pwp_ret ⟨.inr rfl, _, _, (by simp [resL]; rfl), .refl _, rfl, rfl⟩
end Go.Proofs.Ytibmolekndeofaa.E
/- A state of a journal: what entries do to it. -/
namespace Go.Proofs.Ytibmolekndeofaa.E
open Go Go.RowKit Go.Proofs
set_option linter.unusedVariables false
set_option linter.unusedSimpArgs false
theorem rowC_len (l : List Int) (k : Nat) : (rowC l k).length = l.length + k := by simp [rowC]
theorem rowC_get {l : List Int} {k t : Nat} {x : Int} (h : l[t]? = some x) : (rowC l k)[t]? = some (.int .i64 x) := by
  have hlt := (List.getElem?_eq_some_iff.1 h).1
  rw [rowC, List.getElem?_append_left (by rw [Lm]; exact hlt), List.getElem?_map, h]
  rfl
theorem rowC_set {l : List Int} {k t : Nat} (v : Int) (h : t < l.length) : (rowC l k).take t ++ .int .i64 v :: (rowC l k).drop (t + 1) = rowC (l.set t v) k := by
  rw [set_cell (by rw [rowC_len]; omega), rowC, List.set_append_left _ _ (by rw [Lm]; exact h), rowC, List.map_set]
  rfl
def noteL (e : En) (dn bw : List Int) : List Int × List Int :=
  if ¬ (0 ≤ e.t ∧ e.t < dn.length) then (dn, bw) else if e.k = 2 then (dn.set e.t.toNat e.y, bw.set e.t.toNat e.w)
  else if dn[e.t.toNat]? = some e.y then (dn.set e.t.toNat (-1), bw.set e.t.toNat (-1)) else (dn, bw)
theorem isMap_ok {H : Heap} {b : Nat} {m p en e : Int} {x y z : PV} (hb : hget H b = some [.bool true, .int .i64 m, .int .i64 p, x, y, z, .int .i64 en, .int .i64 e]) (n : Int) :
    SpecH Try.prog 54 H [.ptr (some (b, 0)), .int .i64 n] (fun r H' => r = .bool (decide (0 ≤ n) && decide (n < m)) ∧ H' = H) := by
  refine spec_of t54 (by simp [p54]) ?_
  simp only [p54]
  first | refine pwp_sr ?_ | refine pwp_regionM ?_
  intro K hK
  simp (disch := first | (refine Ok.mk ?_; (try simp only [Lm, La, Lc, Ln, Lt, Ld, Lr, Li, true_or, or_true, true_and, and_true]); omega) | (simp <;> fail) | skip) [runM_nil]
  refine hK _ _ ?_
  clear hK K
  by_cases h : 0 ≤ n
  · first | refine pwp_sr ?_ | refine pwp_regionM ?_
    intro K hK
    simp (disch := first | (refine Ok.mk ?_; (try simp only [Lm, La, Lc, Ln, Lt, Ld, Lr, Li, true_or, or_true, true_and, and_true]); omega) | (simp <;> fail) | skip) [runM_nil, hb, h]
    refine hK _ _ ?_
    clear hK K
    refine pwp_ret ⟨.inr rfl, _, _, (by simp (disch := first | (refine Ok.mk ?_; (try simp only [Lm, La, Lc, Ln, Lt, Ld, Lr, Li, true_or, or_true, true_and, and_true]); omega) | (simp <;> fail) | skip) [runM_nil, resL, h]; rfl), .refl _, by simp (disch := first | (refine Ok.mk ?_; (try simp only [Lm, La, Lc, Ln, Lt, Ld, Lr, Li, true_or, or_true, true_and, and_true]); omega) | (simp <;> fail) | skip) [resV, h], rfl⟩
  · first | refine pwp_sr ?_ | refine pwp_regionM ?_
    intro K hK
    simp (disch := first | (refine Ok.mk ?_; (try simp only [Lm, La, Lc, Ln, Lt, Ld, Lr, Li, true_or, or_true, true_and, and_true]); omega) | (simp <;> fail) | skip) [runM_nil, hb, h]
    refine hK _ _ ?_
    clear hK K
    refine pwp_ret ⟨.inr rfl, _, _, (by simp (disch := first | (refine Ok.mk ?_; (try simp only [Lm, La, Lc, Ln, Lt, Ld, Lr, Li, true_or, or_true, true_and, and_true]); omega) | (simp <;> fail) | skip) [runM_nil, resL, h]; rfl), .refl _, by simp (disch := first | (refine Ok.mk ?_; (try simp only [Lm, La, Lc, Ln, Lt, Ld, Lr, Li, true_or, or_true, true_and, and_true]); omega) | (simp <;> fail) | skip) [resV, h], rfl⟩
theorem isMap_new {H : Heap} {b : Nat} (hb : hget H b = some stC0) (n : Int) :
    SpecH Try.prog 54 H [.ptr (some (b, 0)), .int .i64 n] (fun r H' => r = .bool false ∧ H' = H) := by
  simp only [stC0] at hb
  refine spec_of t54 (by simp [p54]) ?_
  simp only [p54]
  first | refine pwp_sr ?_ | refine pwp_regionM ?_
  intro K hK
  simp (disch := first | (refine Ok.mk ?_; (try simp only [Lm, La, Lc, Ln, Lt, Ld, Lr, Li, true_or, or_true, true_and, and_true]); omega) | (simp <;> fail) | skip) [runM_nil]
  refine hK _ _ ?_
  clear hK K
  first | refine pwp_sr ?_ | refine pwp_regionM ?_
  intro K hK
  simp (disch := first | (refine Ok.mk ?_; (try simp only [Lm, La, Lc, Ln, Lt, Ld, Lr, Li, true_or, or_true, true_and, and_true]); omega) | (simp <;> fail) | skip) [runM_nil, hb]
  refine hK _ _ ?_
  clear hK K
  refine pwp_ret ⟨.inr rfl, _, _, (by simp (disch := first | (refine Ok.mk ?_; (try simp only [Lm, La, Lc, Ln, Lt, Ld, Lr, Li, true_or, or_true, true_and, and_true]); omega) | (simp <;> fail) | skip) [runM_nil, resL]; rfl), .refl _, by simp (disch := first | (refine Ok.mk ?_; (try simp only [Lm, La, Lc, Ln, Lt, Ld, Lr, Li, true_or, or_true, true_and, and_true]); omega) | (simp <;> fail) | skip) [resV], rfl⟩
theorem note_new {H : Heap} {b : Nat} (hb : hget H b = some stC0) (e : En) : SpecH Try.prog 31 H [.ptr (some (b, 0)), enV e] (fun r H' => r = .tup [] ∧ H' = H) := by
  have c := isMap_new hb e.t
  refine spec_of t31 (by simp [p31]) ?_
  simp only [p31]
  first | refine pwp_sr ?_ | refine pwp_regionM ?_
  intro K hK
  simp (disch := first | (refine Ok.mk ?_; (try simp only [Lm, La, Lc, Ln, Lt, Ld, Lr, Li, true_or, or_true, true_and, and_true]); omega) | (simp <;> fail) | skip) [runM_nil, enV]
  refine hK _ _ ?_
  clear hK K
  refine pwp_block ?_
  first | refine pwp_sr ?_ | refine pwp_regionM ?_
  intro K hK
  simp (disch := first | (refine Ok.mk ?_; (try simp only [Lm, La, Lc, Ln, Lt, Ld, Lr, Li, true_or, or_true, true_and, and_true]); omega) | (simp <;> fail) | skip) [runM_nil]
  refine useH c ?_
  try simp (disch := first | (refine Ok.mk ?_; (try simp only [Lm, La, Lc, Ln, Lt, Ld, Lr, Li, true_or, or_true, true_and, and_true]); omega) | (simp <;> fail) | skip) [runM_nil]
  refine hK _ _ ?_
  clear hK K
  refine pwp_cT (by simp) (pwp_skip ?_)
  exact ⟨.inl rfl, _, _, (by simp [resL]; rfl), .refl _, rfl, rfl⟩
set_option maxRecDepth 8000 in
set_option maxHeartbeats 16000000 in
theorem note_ok {H : Heap} {b bD bB bN cD cB nN cN kD kB : Nat} {p en er : Int} {dn bw : List Int} (hl : bw.length = dn.length) (hdl : dn.length ≤ 20000)
    (hb : hget H b = some (stC dn.length p bD dn.length cD bB bw.length cB bN nN cN en er)) (hD : hget H bD = some (rowC dn kD)) (hB : hget H bB = some (rowC bw kB)) (d1 : ¬ b = bD) (d2 : ¬ b = bB) (d3 : ¬ bD = bB) (e : En) :
    SpecH Try.prog 31 H [.ptr (some (b, 0)), enV e] (fun r H' => r = .tup [] ∧ H' = hset (hset H bD (rowC (noteL e dn bw).1 kD)) bB (rowC (noteL e dn bw).2 kB)) := by
  simp only [stC] at hb
  have c := isMap_ok hb e.t
  have hid : hset (hset H bD (rowC dn kD)) bB (rowC bw kB) = H := by rw [hset_same hD, hset_same hB]
  have hB2 : ∀ X, hget (hset H bD X) bB = some (rowC bw kB) := fun X => by rw [hget_hset_ne (Ne.symm d3)]; exact hB
  have hs2 : ∀ X, hget (hset H bD X) b = hget H b := fun X => hget_hset_ne d1 X H
  have hnl : noteL e dn bw = noteL e dn bw := rfl
  conv at hnl => rhs; unfold noteL
  generalize noteL e dn bw = r at *
  have hlD := rowC_len dn kD
  have hlB := rowC_len bw kB
  have gD := fun t x => rowC_get (l := dn) (k := kD) (t := t) (x := x)
  have sD := fun t v => rowC_set (l := dn) (k := kD) (t := t) v
  have sB := fun t v => rowC_set (l := bw) (k := kB) (t := t) v
  refine spec_of t31 (by simp [p31]) ?_
  simp only [p31]
  first | refine pwp_sr ?_ | refine pwp_regionM ?_
  intro K hK
  simp (disch := first | (refine Ok.mk ?_; (try simp only [Lm, La, Lc, Ln, Lt, Ld, Lr, Li, true_or, or_true, true_and, and_true]); omega) | (simp <;> fail) | skip) [runM_nil, enV]
  refine hK _ _ ?_
  clear hK K
  refine pwp_block ?_
  by_cases ht : 0 ≤ e.t ∧ e.t < dn.length
  case neg =>
    rw [if_pos ht] at hnl
    subst hnl
    have hf : (decide (0 ≤ e.t) && decide (e.t < dn.length)) = false := by
      simp only [Bool.and_eq_false_iff, decide_eq_false_iff_not]
      omega
    rw [hf] at c
    first | refine pwp_sr ?_ | refine pwp_regionM ?_
    intro K hK
    simp (disch := first | (refine Ok.mk ?_; (try simp only [Lm, La, Lc, Ln, Lt, Ld, Lr, Li, true_or, or_true, true_and, and_true]); omega) | (simp <;> fail) | skip) [runM_nil]
    refine useH c ?_
    try simp (disch := first | (refine Ok.mk ?_; (try simp only [Lm, La, Lc, Ln, Lt, Ld, Lr, Li, true_or, or_true, true_and, and_true]); omega) | (simp <;> fail) | skip) [runM_nil]
    refine hK _ _ ?_
    clear hK K
    refine pwp_cT (by simp) (pwp_skip ?_)
    exact ⟨.inl rfl, _, _, (by simp [resL]; rfl), .refl _, rfl, hid.symm⟩
  rw [if_neg (by simpa using ht)] at hnl
  have hf : (decide (0 ≤ e.t) && decide (e.t < dn.length)) = true := by simp [ht]
  rw [hf] at c
  obtain ⟨k, t, y, w⟩ := e
  simp only at *
  obtain ⟨t, rfl⟩ := Int.eq_ofNat_of_zero_le ht.1
  have htl : t < dn.length := by omega
  simp only [Int.toNat_natCast] at hnl
  have hge : dn[t]? = some dn[t] := List.getElem?_eq_getElem htl
  have gD' := gD t _ hge
  have s1 := sD t y htl
  have s2 := sB t w (by omega)
  have s3 := sD t (-1) htl
  have s4 := sB t (-1) (by omega)
  clear gD sD sB
  generalize dn[t] = q at *
  first | refine pwp_sr ?_ | refine pwp_regionM ?_
  intro K hK
  simp (disch := first | (refine Ok.mk ?_; (try simp only [Lm, La, Lc, Ln, Lt, Ld, Lr, Li, true_or, or_true, true_and, and_true]); omega) | (simp <;> fail) | skip) [runM_nil]
  refine useH c ?_
  try simp (disch := first | (refine Ok.mk ?_; (try simp only [Lm, La, Lc, Ln, Lt, Ld, Lr, Li, true_or, or_true, true_and, and_true]); omega) | (simp <;> fail) | skip) [runM_nil]
  refine hK _ _ ?_
  clear hK K
  refine pwp_cF (by simp) ?_
  by_cases hk : k = 2
  · rw [if_pos hk] at hnl
    subst hnl
    first | refine pwp_sr ?_ | refine pwp_regionM ?_
    intro K hK
    simp (disch := first | (refine Ok.mk ?_; (try simp only [Lm, La, Lc, Ln, Lt, Ld, Lr, Li, true_or, or_true, true_and, and_true]); omega) | (simp <;> fail) | skip) [runM_nil, hb, hk]
    refine hK _ _ ?_
    clear hK K
    refine pwp_cT (by simp) ?_
    first | refine pwp_ss hmix ?_ | refine pwp_drawS hmix ?_
    intro K hK
    simp (disch := first | (refine Ok.mk ?_; (try simp only [Lm, La, Lc, Ln, Lt, Ld, Lr, Li, true_or, or_true, true_and, and_true]); omega) | (simp <;> fail) | skip) [runM_nil, planS_nil, hb, hD, hB, hlD, hlB, s1, s2, hB2, hl, d1, d2, d3, Ne.symm d1, Ne.symm d2, Ne.symm d3]
    refine hK _ _ ?_
    clear hK K
    exact ⟨.inl rfl, _, _, (by simp [resL]; rfl), .refl _, rfl, rfl⟩
  rw [if_neg hk, hge] at hnl
  first | refine pwp_sr ?_ | refine pwp_regionM ?_
  intro K hK
  simp (disch := first | (refine Ok.mk ?_; (try simp only [Lm, La, Lc, Ln, Lt, Ld, Lr, Li, true_or, or_true, true_and, and_true]); omega) | (simp <;> fail) | skip) [runM_nil, hb, hk]
  refine hK _ _ ?_
  clear hK K
  refine pwp_cF (by simp) ?_
  by_cases hq : q = y
  · rw [if_pos (by rw [hq])] at hnl
    subst hnl
    first | refine pwp_ss hmix ?_ | refine pwp_drawS hmix ?_
    intro K hK
    simp (disch := first | (refine Ok.mk ?_; (try simp only [Lm, La, Lc, Ln, Lt, Ld, Lr, Li, true_or, or_true, true_and, and_true]); omega) | (simp <;> fail) | skip) [runM_nil, planS_nil, hb, hD, hB, hlD, hlB, gD', hl, hq, d1, d2, d3, Ne.symm d1, Ne.symm d2, Ne.symm d3]
    refine hK _ _ ?_
    clear hK K
    refine pwp_cT (by simp) ?_
    first | refine pwp_ss hmix ?_ | refine pwp_drawS hmix ?_
    intro K hK
    simp (disch := first | (refine Ok.mk ?_; (try simp only [Lm, La, Lc, Ln, Lt, Ld, Lr, Li, true_or, or_true, true_and, and_true]); omega) | (simp <;> fail) | skip) [runM_nil, planS_nil, hb, hD, hB, hlD, hlB, s3, s4, hB2, hl, d1, d2, d3, Ne.symm d1, Ne.symm d2, Ne.symm d3]
    refine hK _ _ ?_
    clear hK K
    exact ⟨.inl rfl, _, _, (by simp [resL]; rfl), .refl _, rfl, rfl⟩
  · rw [if_neg (by simpa using hq)] at hnl
    subst hnl
    first | refine pwp_ss hmix ?_ | refine pwp_drawS hmix ?_
    intro K hK
    simp (disch := first | (refine Ok.mk ?_; (try simp only [Lm, La, Lc, Ln, Lt, Ld, Lr, Li, true_or, or_true, true_and, and_true]); omega) | (simp <;> fail) | skip) [runM_nil, planS_nil, hb, hD, hB, hlD, hlB, gD', hl, hq, d1, d2, d3, Ne.symm d1, Ne.symm d2, Ne.symm d3]
    refine hK _ _ ?_
    clear hK K
    refine pwp_cF (by simp) (pwp_skip ?_)
    exact ⟨.inl rfl, _, _, (by simp [resL]; rfl), .refl _, rfl, hid.symm⟩
end Go.Proofs.Ytibmolekndeofaa.E
/- A state of a journal: named parts, and how it ended. -/
namespace Go.Proofs.Ytibmolekndeofaa.E
open Go Go.RowKit Go.Proofs
set_option linter.unusedVariables false
set_option linter.unusedSimpArgs false
theorem hset_hset : ∀ (H : Heap) (b : Nat) (X Y : List PV), hset (hset H b X) b Y = hset H b Y
  | [], _, _, _ => rfl
  | (c, ds) :: H, b, X, Y => by
    by_cases e : c = b
    · simp only [hset, if_pos e]
    · simp only [hset, if_neg e, hset_hset H b X Y]
def nameL (e : En) (nm : List Int) : List Int := if 0 ≤ e.t ∧ e.t < nm.length ∧ nm[e.t.toNat]? = some (-1) then nm.set e.t.toNat e.y else nm
def endL (e : En) (en er : Int) : Int × Int := if en ≠ 0 then (en, er) else (e.k, if e.k = 6 then e.y else er)
theorem name_new {H : Heap} {b : Nat} (hb : hget H b = some stC0) (e : En) : SpecH Try.prog 32 H [.ptr (some (b, 0)), enV e] (fun r H' => r = .tup [] ∧ H' = H) := by
  simp only [stC0] at hb
  refine spec_of t32 (by simp [p32]) ?_
  simp only [p32]
  first | refine pwp_sr ?_ | refine pwp_regionM ?_
  intro K hK
  simp (disch := first | (refine Ok.mk ?_; (try simp only [Lm, La, Lc, Ln, Lt, Ld, Lr, Li, true_or, or_true, true_and, and_true]); omega) | (simp <;> fail) | skip) [runM_nil, enV]
  refine hK _ _ ?_
  clear hK K
  first | refine pwp_dif hmix ?_ | refine pwp_difE hmix ?_
  intro K hK
  simp (disch := first | (refine Ok.mk ?_; (try simp only [Lm, La, Lc, Ln, Lt, Ld, Lr, Li, true_or, or_true, true_and, and_true]); omega) | (simp <;> fail) | skip) [runM_nil, hb]
  refine hK _ _ ?_
  clear hK K
  refine ifF (by simp (disch := first | (refine Ok.mk ?_; (try simp only [Lm, La, Lc, Ln, Lt, Ld, Lr, Li, true_or, or_true, true_and, and_true]); omega) | (simp <;> fail) | skip) [runM_nil]) (pwp_skip ?_)
  exact ⟨.inl rfl, _, _, (by simp [resL]; rfl), .refl _, rfl, rfl⟩
set_option maxRecDepth 8000 in
set_option maxHeartbeats 16000000 in
theorem name_ok {H : Heap} {b bD nD cD bB nB cB bN cN kN : Nat} {m en er : Int} {nm : List Int} (hdl : nm.length ≤ 20000)
    (hb : hget H b = some (stC m nm.length bD nD cD bB nB cB bN nm.length cN en er)) (hN : hget H bN = some (rowC nm kN)) (d1 : ¬ b = bN) (e : En) :
    SpecH Try.prog 32 H [.ptr (some (b, 0)), enV e] (fun r H' => r = .tup [] ∧ H' = hset H bN (rowC (nameL e nm) kN)) := by
  simp only [stC] at hb
  have hid : hset H bN (rowC nm kN) = H := hset_same hN
  have hnl : nameL e nm = nameL e nm := rfl
  conv at hnl => rhs; unfold nameL
  generalize nameL e nm = r at *
  have hlN := rowC_len nm kN
  refine spec_of t32 (by simp [p32]) ?_
  simp only [p32]
  first | refine pwp_sr ?_ | refine pwp_regionM ?_
  intro K hK
  simp (disch := first | (refine Ok.mk ?_; (try simp only [Lm, La, Lc, Ln, Lt, Ld, Lr, Li, true_or, or_true, true_and, and_true]); omega) | (simp <;> fail) | skip) [runM_nil, enV]
  refine hK _ _ ?_
  clear hK K
  by_cases h1 : 0 ≤ e.t
  case neg =>
    rw [if_neg (by omega)] at hnl
    subst hnl
    first | refine pwp_dif hmix ?_ | refine pwp_difE hmix ?_
    intro K hK
    simp (disch := first | (refine Ok.mk ?_; (try simp only [Lm, La, Lc, Ln, Lt, Ld, Lr, Li, true_or, or_true, true_and, and_true]); omega) | (simp <;> fail) | skip) [runM_nil, hb, h1]
    refine hK _ _ ?_
    clear hK K
    refine ifF (by simp (disch := first | (refine Ok.mk ?_; (try simp only [Lm, La, Lc, Ln, Lt, Ld, Lr, Li, true_or, or_true, true_and, and_true]); omega) | (simp <;> fail) | skip) [runM_nil]) (pwp_skip ?_)
    exact ⟨.inl rfl, _, _, (by simp [resL]; rfl), .refl _, rfl, hid.symm⟩
  by_cases h2 : e.t < nm.length
  case neg =>
    rw [if_neg (by omega)] at hnl
    subst hnl
    first | refine pwp_dif hmix ?_ | refine pwp_difE hmix ?_
    intro K hK
    simp (disch := first | (refine Ok.mk ?_; (try simp only [Lm, La, Lc, Ln, Lt, Ld, Lr, Li, true_or, or_true, true_and, and_true]); omega) | (simp <;> fail) | skip) [runM_nil, hb, h1, h2]
    refine hK _ _ ?_
    clear hK K
    refine ifF (by simp (disch := first | (refine Ok.mk ?_; (try simp only [Lm, La, Lc, Ln, Lt, Ld, Lr, Li, true_or, or_true, true_and, and_true]); omega) | (simp <;> fail) | skip) [runM_nil]) (pwp_skip ?_)
    exact ⟨.inl rfl, _, _, (by simp [resL]; rfl), .refl _, rfl, hid.symm⟩
  obtain ⟨k, t, y, w⟩ := e
  simp only at *
  obtain ⟨t, rfl⟩ := Int.eq_ofNat_of_zero_le h1
  have htl : t < nm.length := by omega
  simp only [Int.toNat_natCast] at hnl
  have hge : nm[t]? = some nm[t] := List.getElem?_eq_getElem htl
  have gN := rowC_get (k := kN) hge
  have s1 := rowC_set (l := nm) (k := kN) y htl
  generalize nm[t] = q at *
  by_cases hq : q = -1
  · subst hq
    rw [if_pos ⟨h1, h2, hge⟩] at hnl
    subst hnl
    first | refine pwp_dif hmix ?_ | refine pwp_difE hmix ?_
    intro K hK
    simp (disch := first | (refine Ok.mk ?_; (try simp only [Lm, La, Lc, Ln, Lt, Ld, Lr, Li, true_or, or_true, true_and, and_true]); omega) | (simp <;> fail) | skip) [runM_nil, hb, hN, gN, hlN]
    refine hK _ _ ?_
    clear hK K
    refine ifT (by simp (disch := first | (refine Ok.mk ?_; (try simp only [Lm, La, Lc, Ln, Lt, Ld, Lr, Li, true_or, or_true, true_and, and_true]); omega) | (simp <;> fail) | skip) [runM_nil]) ?_
    first | refine pwp_ss hmix ?_ | refine pwp_drawS hmix ?_
    intro K hK
    simp (disch := first | (refine Ok.mk ?_; (try simp only [Lm, La, Lc, Ln, Lt, Ld, Lr, Li, true_or, or_true, true_and, and_true]); omega) | (simp <;> fail) | skip) [runM_nil, planS_nil, hb, hN, gN, hlN, s1, d1, Ne.symm d1]
    refine hK _ _ ?_
    clear hK K
    exact ⟨.inl rfl, _, _, (by simp [resL]; rfl), .refl _, rfl, rfl⟩
  · rw [if_neg (by rw [hge]; simp [hq])] at hnl
    subst hnl
    first | refine pwp_dif hmix ?_ | refine pwp_difE hmix ?_
    intro K hK
    simp (disch := first | (refine Ok.mk ?_; (try simp only [Lm, La, Lc, Ln, Lt, Ld, Lr, Li, true_or, or_true, true_and, and_true]); omega) | (simp <;> fail) | skip) [runM_nil, hb, hN, gN, hlN, hq]
    refine hK _ _ ?_
    clear hK K
    refine ifF (by simp (disch := first | (refine Ok.mk ?_; (try simp only [Lm, La, Lc, Ln, Lt, Ld, Lr, Li, true_or, or_true, true_and, and_true]); omega) | (simp <;> fail) | skip) [runM_nil]) (pwp_skip ?_)
    exact ⟨.inl rfl, _, _, (by simp [resL]; rfl), .refl _, rfl, hid.symm⟩
theorem end_new {H : Heap} {b : Nat} (hb : hget H b = some stC0) (e : En) : SpecH Try.prog 33 H [.ptr (some (b, 0)), enV e] (fun r H' => r = .tup [] ∧ H' = H) := by
  simp only [stC0] at hb
  refine spec_of t33 (by simp [p33]) ?_
  simp only [p33]
  first | refine pwp_sr ?_ | refine pwp_regionM ?_
  intro K hK
  simp (disch := first | (refine Ok.mk ?_; (try simp only [Lm, La, Lc, Ln, Lt, Ld, Lr, Li, true_or, or_true, true_and, and_true]); omega) | (simp <;> fail) | skip) [runM_nil, enV]
  refine hK _ _ ?_
  clear hK K
  first | refine pwp_rif ?_ | refine pwp_rifE ?_
  intro K hK
  simp (disch := first | (refine Ok.mk ?_; (try simp only [Lm, La, Lc, Ln, Lt, Ld, Lr, Li, true_or, or_true, true_and, and_true]); omega) | (simp <;> fail) | skip) [runM_nil, hb]
  refine hK _ _ ?_
  clear hK K
  refine ifT (by simp (disch := first | (refine Ok.mk ?_; (try simp only [Lm, La, Lc, Ln, Lt, Ld, Lr, Li, true_or, or_true, true_and, and_true]); omega) | (simp <;> fail) | skip) [runM_nil]) ?_
  exact pwp_ret ⟨.inr rfl, _, _, (by simp [resL]; rfl), .refl _, rfl, rfl⟩
set_option maxRecDepth 8000 in
theorem end_ok {H : Heap} {b bD nD cD bB nB cB bN nN cN : Nat} {m p en er : Int}
    (hb : hget H b = some (stC m p bD nD cD bB nB cB bN nN cN en er)) (e : En) :
    SpecH Try.prog 33 H [.ptr (some (b, 0)), enV e] (fun r H' => r = .tup [] ∧ H' = hset H b (stC m p bD nD cD bB nB cB bN nN cN (endL e en er).1 (endL e en er).2)) := by
  have hid := hset_same hb
  simp only [stC] at hb
  have hs : ∀ X Y, hset (hset H b X) b Y = hset H b Y := fun X Y => hset_hset H b X Y
  have hg : ∀ X, hget (hset H b X) b = some X := fun X => hget_hset_same hb
  refine spec_of t33 (by simp [p33]) ?_
  simp only [p33]
  first | refine pwp_sr ?_ | refine pwp_regionM ?_
  intro K hK
  simp (disch := first | (refine Ok.mk ?_; (try simp only [Lm, La, Lc, Ln, Lt, Ld, Lr, Li, true_or, or_true, true_and, and_true]); omega) | (simp <;> fail) | skip) [runM_nil, enV]
  refine hK _ _ ?_
  clear hK K
  by_cases h0 : en = 0
  · subst h0
    first | refine pwp_rif ?_ | refine pwp_rifE ?_
    intro K hK
    simp (disch := first | (refine Ok.mk ?_; (try simp only [Lm, La, Lc, Ln, Lt, Ld, Lr, Li, true_or, or_true, true_and, and_true]); omega) | (simp <;> fail) | skip) [runM_nil, hb]
    refine hK _ _ ?_
    clear hK K
    refine ifF (by simp (disch := first | (refine Ok.mk ?_; (try simp only [Lm, La, Lc, Ln, Lt, Ld, Lr, Li, true_or, or_true, true_and, and_true]); omega) | (simp <;> fail) | skip) [runM_nil]) (pwp_skip ?_)
    first | refine pwp_sr ?_ | refine pwp_regionM ?_
    intro K hK
    simp (disch := first | (refine Ok.mk ?_; (try simp only [Lm, La, Lc, Ln, Lt, Ld, Lr, Li, true_or, or_true, true_and, and_true]); omega) | (simp <;> fail) | skip) [runM_nil, hb]
    refine hK _ _ ?_
    clear hK K
    by_cases h6 : e.k = 6
    · have he : endL e 0 er = (e.k, e.y) := by simp [endL, h6]
      rw [he]
      first | refine pwp_rif ?_ | refine pwp_rifE ?_
      intro K hK
      simp (disch := first | (refine Ok.mk ?_; (try simp only [Lm, La, Lc, Ln, Lt, Ld, Lr, Li, true_or, or_true, true_and, and_true]); omega) | (simp <;> fail) | skip) [runM_nil, h6]
      refine hK _ _ ?_
      clear hK K
      refine ifT (by simp (disch := first | (refine Ok.mk ?_; (try simp only [Lm, La, Lc, Ln, Lt, Ld, Lr, Li, true_or, or_true, true_and, and_true]); omega) | (simp <;> fail) | skip) [runM_nil]) ?_
      first | refine pwp_sr ?_ | refine pwp_regionM ?_
      intro K hK
      simp (disch := first | (refine Ok.mk ?_; (try simp only [Lm, La, Lc, Ln, Lt, Ld, Lr, Li, true_or, or_true, true_and, and_true]); omega) | (simp <;> fail) | skip) [runM_nil, hg, hs]
      refine hK _ _ ?_
      clear hK K
      exact ⟨.inl rfl, _, _, (by simp [resL]; rfl), .refl _, rfl, by simp [stC, h6]⟩
    · have he : endL e 0 er = (e.k, er) := by simp [endL, h6]
      rw [he]
      first | refine pwp_rif ?_ | refine pwp_rifE ?_
      intro K hK
      simp (disch := first | (refine Ok.mk ?_; (try simp only [Lm, La, Lc, Ln, Lt, Ld, Lr, Li, true_or, or_true, true_and, and_true]); omega) | (simp <;> fail) | skip) [runM_nil, h6]
      refine hK _ _ ?_
      clear hK K
      refine ifF (by simp (disch := first | (refine Ok.mk ?_; (try simp only [Lm, La, Lc, Ln, Lt, Ld, Lr, Li, true_or, or_true, true_and, and_true]); omega) | (simp <;> fail) | skip) [runM_nil]) (pwp_skip ?_)
      exact ⟨.inl rfl, _, _, (by simp [resL]; rfl), .refl _, rfl, by simp [stC]⟩
  · have he : endL e en er = (en, er) := by simp [endL, h0]
    rw [he, hid]
    first | refine pwp_rif ?_ | refine pwp_rifE ?_
    intro K hK
    simp (disch := first | (refine Ok.mk ?_; (try simp only [Lm, La, Lc, Ln, Lt, Ld, Lr, Li, true_or, or_true, true_and, and_true]); omega) | (simp <;> fail) | skip) [runM_nil, hb, h0]
    refine hK _ _ ?_
    clear hK K
    refine ifT (by simp (disch := first | (refine Ok.mk ?_; (try simp only [Lm, La, Lc, Ln, Lt, Ld, Lr, Li, true_or, or_true, true_and, and_true]); omega) | (simp <;> fail) | skip) [runM_nil]) ?_
    exact pwp_ret ⟨.inr rfl, _, _, (by simp [resL]; rfl), .refl _, rfl, rfl⟩
end Go.Proofs.Ytibmolekndeofaa.E
/- What entries come to. -/
namespace Go.Proofs.Ytibmolekndeofaa.E
open Go Go.RowKit Go.Proofs
set_option linter.unusedVariables false
set_option linter.unusedSimpArgs false
structure St where
  dn : List Int
  bw : List Int
  nm : List Int
  en : Int
  er : Int
def begJ (e : En) : St := ⟨List.replicate e.t.toNat (-1), List.replicate e.t.toNat (-1), List.replicate e.y.toNat (-1), 0, 0⟩
def noteS (e : En) (s : St) : St := ⟨(noteL e s.dn s.bw).1, (noteL e s.dn s.bw).2, s.nm, s.en, s.er⟩
def nameS (e : En) (s : St) : St := ⟨s.dn, s.bw, nameL e s.nm, s.en, s.er⟩
def endS (e : En) (s : St) : St := ⟨s.dn, s.bw, s.nm, (endL e s.en s.er).1, (endL e s.en s.er).2⟩
def stepJ (e : En) : Option St → Option St
  | none => if e.k = 1 then some (begJ e) else none
  | some s => if e.k = 1 then some s else if e.k = 2 ∨ e.k = 3 then some (noteS e s) else if e.k = 4 then some (nameS e s) else if e.k = 5 ∨ e.k = 6 then some (endS e s) else some s
def comeJ (l : List En) : Option St := l.foldl (fun s e => stepJ e s) none
def stJ : Option St → PV
  | none => .agg [.bool false, .int .i64 0, .int .i64 0, .lst 1 [] false, .lst 1 [] false, .lst 1 [] false, .int .i64 0, .int .i64 0]
  | some s => .agg [.bool true, .int .i64 s.dn.length, .int .i64 s.nm.length, .lst 1 (s.dn.map iV) false, .lst 1 (s.bw.map iV) false, .lst 1 (s.nm.map iV) false, .int .i64 s.en, .int .i64 s.er]
/-- Lengths that fit. -/
def fitS (s : St) : Prop := s.bw.length = s.dn.length ∧ s.dn.length ≤ 10000 ∧ s.nm.length ≤ 10000
def fitJ (o : Option St) : Prop := ∀ s, o = some s → fitS s
theorem noteL_len (e : En) (dn bw : List Int) : (noteL e dn bw).1.length = dn.length ∧ (noteL e dn bw).2.length = bw.length := by
  unfold noteL
  split
  · exact ⟨rfl, rfl⟩
  split
  · simp
  split
  · simp
  · exact ⟨rfl, rfl⟩
theorem nameL_len (e : En) (nm : List Int) : (nameL e nm).length = nm.length := by
  unfold nameL
  split <;> simp
theorem step_none (e : En) : stepJ e none = if e.k = 1 then some (begJ e) else none := rfl
theorem step_some (e : En) (s : St) : stepJ e (some s) = if e.k = 1 then some s else if e.k = 2 ∨ e.k = 3 then some (noteS e s) else if e.k = 4 then some (nameS e s) else if e.k = 5 ∨ e.k = 6 then some (endS e s) else some s := rfl
theorem fit_step {e : En} (hm : mayJ e = true) {o : Option St} (h : fitJ o) : fitJ (stepJ e o) := by
  intro s hs
  cases o with
  | none =>
    rw [step_none] at hs
    by_cases h1 : e.k = 1
    · rw [if_pos h1] at hs
      have hs := Option.some.inj hs
      subst hs
      obtain ⟨k, t, y, w, rfl, _, h1, h2, _⟩ := may_nats hm
      exact ⟨by simp [begJ], by simp [begJ]; exact h1, by simp [begJ]; exact h2⟩
    · rw [if_neg h1] at hs; exact absurd hs (by simp)
  | some s0 =>
    obtain ⟨f1, f2, f3⟩ := h s0 rfl
    have h1 := noteL_len e s0.dn s0.bw
    have h2 := nameL_len e s0.nm
    have a1 : fitS s0 := ⟨f1, f2, f3⟩
    have a2 : fitS (noteS e s0) := ⟨h1.2.trans (f1.trans h1.1.symm), by show (noteL e s0.dn s0.bw).1.length ≤ _; omega, f3⟩
    have a3 : fitS (nameS e s0) := ⟨f1, f2, by show (nameL e s0.nm).length ≤ _; omega⟩
    have a4 : fitS (endS e s0) := ⟨f1, f2, f3⟩
    rw [step_some] at hs
    have : ∃ x, fitS x ∧ some x = some s := by
      rw [← hs]
      by_cases c1 : e.k = 1
      · rw [if_pos c1]; exact ⟨_, a1, rfl⟩
      rw [if_neg c1]
      by_cases c2 : e.k = 2 ∨ e.k = 3
      · rw [if_pos c2]; exact ⟨_, a2, rfl⟩
      rw [if_neg c2]
      by_cases c3 : e.k = 4
      · rw [if_pos c3]; exact ⟨_, a3, rfl⟩
      rw [if_neg c3]
      by_cases c4 : e.k = 5 ∨ e.k = 6
      · rw [if_pos c4]; exact ⟨_, a4, rfl⟩
      rw [if_neg c4]
      exact ⟨_, a1, rfl⟩
    obtain ⟨x, hx, e⟩ := this
    rw [← Option.some.inj e]
    exact hx
theorem fit_come {l : List En} (hm : ∀ e ∈ l, mayJ e = true) : fitJ (comeJ l) := by
  have : ∀ (l : List En) (s : Option St), (∀ e ∈ l, mayJ e = true) → fitJ s → fitJ (l.foldl (fun s e => stepJ e s) s) := by
    intro l
    induction l with
    | nil => intro s _ h; exact h
    | cons e l ih => intro s hm h; exact ih _ (fun x hx => hm x (List.mem_cons_of_mem _ hx)) (fit_step (hm e (List.mem_cons_self ..)) h)
  exact this l none hm (fun s h => by cases h)
theorem come_snoc (l : List En) (e : En) : comeJ (l ++ [e]) = stepJ e (comeJ l) := by simp [comeJ]
theorem rowC_rowL {l : List Int} {k c : Nat} (h1 : l.length ≤ c) (h2 : c ≤ 9223372036854775807) : rowL 1 false (rowC l k) l.length c = some (.lst 1 (l.map iV) false) := by
  unfold rowL
  have hm : c ≤ maxLen := by simp only [maxLen]; omega
  rw [if_pos ⟨h1, hm, by rw [rowC_len]; omega, fun _ => rfl⟩]
  have e : (rowC l k).take (l.length * 1) = l.map iV := by rw [rowC]; exact List.take_left' (by rw [Lm]; omega)
  rw [e, lendL_map (fun a => rfl)]
  simp [elemsOf]
/-- What lies in memory. -/
def InvJ (bs b2 : Nat) (H : Heap) : Option St → Heap → Prop
  | none, H' => H' = (bs, stC0) :: (b2, stC0) :: H
  | some s, H' => ∃ bD bB bN cD cB cN kD kB kN, (¬ b2 = bD ∧ ¬ bs = bD ∧ hget H bD = none) ∧ (¬ b2 = bB ∧ ¬ bs = bB ∧ ¬ bD = bB ∧ hget H bB = none) ∧ (¬ b2 = bN ∧ ¬ bs = bN ∧ ¬ bD = bN ∧ ¬ bB = bN ∧ hget H bN = none) ∧
      (s.dn.length ≤ cD ∧ cD ≤ 9223372036854775807) ∧ (s.bw.length ≤ cB ∧ cB ≤ 9223372036854775807) ∧ (s.nm.length ≤ cN ∧ cN ≤ 9223372036854775807) ∧
      H' = (bN, rowC s.nm kN) :: (bB, rowC s.bw kB) :: (bD, rowC s.dn kD) :: (bs, stC s.dn.length s.nm.length bD s.dn.length cD bB s.bw.length cB bN s.nm.length cN s.en s.er) :: (b2, stC0) :: H
def InvP (bs b2 : Nat) (H : Heap) (s : Option St) (H' : Heap) : Prop :=
  InvJ bs b2 H s H' ∨ ∃ t y : Nat, s = some ⟨List.replicate t (-1), List.replicate t (-1), List.replicate y (-1), 0, 0⟩ ∧ H' = (bs, begX t y) :: (b2, stC0) :: H
/-- Which method it is. -/
def methJ (k : Int) : Nat := if k = 1 then 30 else if k = 2 ∨ k = 3 then 31 else if k = 4 then 32 else 33
theorem meth_ok {bs b2 b5 : Nat} {H H1 : Heap} {s : Option St} (d1 : ¬ b2 = bs) (hfit : fitJ s) (hI : InvJ bs b2 H s H1) (c5 : List PV) (h5 : hget H1 b5 = none) {e : En} (hm : mayJ e = true) :
    ∃ H2, InvP bs b2 H (stepJ e s) H2 ∧ SpecH Try.prog (methJ e.k) ((b5, c5) :: H1) [.ptr (some (bs, 0)), enV e] (fun r H' => r = .tup [] ∧ H' = (b5, c5) :: H2) := by
  have hk := (mayJ_iff.1 hm).1
  cases s with
  | none =>
    simp only [InvJ] at hI
    subst hI
    have d5 : ¬ bs = b5 := fun e => by subst e; simp [hget] at h5
    have hb : hget ((b5, c5) :: (bs, stC0) :: (b2, stC0) :: H) bs = some stC0 := by simp [hget, Ne.symm d5]
    have hst : ∀ X, hset ((b5, c5) :: (bs, stC0) :: (b2, stC0) :: H) bs X = (b5, c5) :: (bs, X) :: (b2, stC0) :: H := fun X => by simp [hset, Ne.symm d5]
    rcases (show e.k = 1 ∨ (e.k ≠ 1 ∧ (e.k = 2 ∨ e.k = 3)) ∨ (e.k ≠ 1 ∧ ¬ (e.k = 2 ∨ e.k = 3) ∧ e.k = 4) ∨ (e.k ≠ 1 ∧ ¬ (e.k = 2 ∨ e.k = 3) ∧ e.k ≠ 4) by omega) with h | ⟨h, h2⟩ | ⟨h, h2, h3⟩ | ⟨h, h2, h3⟩
    · obtain ⟨k, t, y, w, rfl, _, ht, hy, hw⟩ := may_nats hm
      have c := begin_new hb k w t y ht hy
      rw [hst] at c
      refine ⟨(bs, begX t y) :: (b2, stC0) :: H, .inr ⟨t, y, ?_, rfl⟩, ?_⟩
      · rw [step_none, if_pos h, begJ]; simp only [Int.toNat_natCast]
      · rw [methJ, if_pos h]; exact c
    · refine ⟨_, .inl (by rw [step_none, if_neg h]; rfl), ?_⟩
      rw [methJ, if_neg h, if_pos h2]
      exact note_new hb e
    · refine ⟨_, .inl (by rw [step_none, if_neg h]; rfl), ?_⟩
      rw [methJ, if_neg h, if_neg h2, if_pos h3]
      exact name_new hb e
    · refine ⟨_, .inl (by rw [step_none, if_neg h]; rfl), ?_⟩
      rw [methJ, if_neg h, if_neg h2, if_neg h3]
      exact end_new hb e
  | some s =>
    obtain ⟨bD, bB, bN, cD, cB, cN, kD, kB, kN, ⟨e1, e2, e3⟩, ⟨e4, e5, e6, e7⟩, ⟨e8, e9, e10, e11, e12⟩, hcD, hcB, hcN, rfl⟩ := hI
    obtain ⟨f1, f2, f3⟩ := hfit s rfl
    have q1 : ¬ bN = b5 := fun e => by subst e; simp [hget] at h5
    have q2 : ¬ bB = b5 := fun e => by subst e; simp [hget, Ne.symm e11] at h5
    have q3 : ¬ bD = b5 := fun e => by subst e; simp [hget, Ne.symm e10, Ne.symm e6] at h5
    have q4 : ¬ bs = b5 := fun e => by subst e; simp [hget, Ne.symm e9, Ne.symm e5, Ne.symm e2] at h5
    generalize hH : ((bN, rowC s.nm kN) :: (bB, rowC s.bw kB) :: (bD, rowC s.dn kD) :: (bs, stC s.dn.length s.nm.length bD s.dn.length cD bB s.bw.length cB bN s.nm.length cN s.en s.er) :: (b2, stC0) :: H : Heap) = H1 at *
    have hb : hget ((b5, c5) :: H1) bs = some (stC s.dn.length s.nm.length bD s.dn.length cD bB s.bw.length cB bN s.nm.length cN s.en s.er) := by
      rw [← hH]; simp [hget, Ne.symm q4, Ne.symm e9, Ne.symm e5, Ne.symm e2]
    have hD : hget ((b5, c5) :: H1) bD = some (rowC s.dn kD) := by rw [← hH]; simp [hget, Ne.symm q3, Ne.symm e10, Ne.symm e6]
    have hB : hget ((b5, c5) :: H1) bB = some (rowC s.bw kB) := by rw [← hH]; simp [hget, Ne.symm q2, Ne.symm e11]
    have hN : hget ((b5, c5) :: H1) bN = some (rowC s.nm kN) := by rw [← hH]; simp [hget, Ne.symm q1]
    rcases (show e.k = 1 ∨ (e.k ≠ 1 ∧ (e.k = 2 ∨ e.k = 3)) ∨ (e.k ≠ 1 ∧ ¬ (e.k = 2 ∨ e.k = 3) ∧ e.k = 4) ∨ (e.k ≠ 1 ∧ ¬ (e.k = 2 ∨ e.k = 3) ∧ e.k ≠ 4 ∧ (e.k = 5 ∨ e.k = 6)) by omega) with h | ⟨h, h2⟩ | ⟨h, h2, h3⟩ | ⟨h, h2, h3, h4⟩
    · refine ⟨H1, .inl ?_, ?_⟩
      · rw [step_some, if_pos h]
        exact ⟨bD, bB, bN, cD, cB, cN, kD, kB, kN, ⟨e1, e2, e3⟩, ⟨e4, e5, e6, e7⟩, ⟨e8, e9, e10, e11, e12⟩, hcD, hcB, hcN, hH.symm⟩
      · rw [methJ, if_pos h]; exact begin_old hb e
    · have c := note_ok f1 (by omega) hb hD hB e2 e5 e6 e
      obtain ⟨l1, l2⟩ := noteL_len e s.dn s.bw
      rw [← hH] at c
      simp [hset, q3, Ne.symm q3, q2, Ne.symm q2, e10, Ne.symm e10, e11, Ne.symm e11, e6, Ne.symm e6] at c
      rw [hH] at c
      refine ⟨_, .inl ?_, by rw [methJ, if_neg h, if_pos h2]; exact c⟩
      rw [step_some, if_neg h, if_pos h2]
      refine ⟨bD, bB, bN, cD, cB, cN, kD, kB, kN, ⟨e1, e2, e3⟩, ⟨e4, e5, e6, e7⟩, ⟨e8, e9, e10, e11, e12⟩, by simp only [noteS, l1]; exact hcD, by simp only [noteS, l2]; exact hcB, hcN, ?_⟩
      simp only [noteS, l1, l2]
    · have c := name_ok (by omega) hb hN e9 e
      have l1 := nameL_len e s.nm
      rw [← hH] at c
      simp [hset, q1, Ne.symm q1] at c
      rw [hH] at c
      refine ⟨_, .inl ?_, by rw [methJ, if_neg h, if_neg h2, if_pos h3]; exact c⟩
      rw [step_some, if_neg h, if_neg h2, if_pos h3]
      refine ⟨bD, bB, bN, cD, cB, cN, kD, kB, kN, ⟨e1, e2, e3⟩, ⟨e4, e5, e6, e7⟩, ⟨e8, e9, e10, e11, e12⟩, hcD, hcB, by simp only [nameS, l1]; exact hcN, ?_⟩
      simp only [nameS, l1]
    · have c := end_ok hb e
      rw [← hH] at c
      simp [hset, q4, Ne.symm q4, e9, Ne.symm e9, e5, Ne.symm e5, e2, Ne.symm e2] at c
      rw [hH] at c
      refine ⟨_, .inl ?_, by rw [methJ, if_neg h, if_neg h2, if_neg h3]; exact c⟩
      rw [step_some, if_neg h, if_neg h2, if_neg h3, if_pos h4]
      exact ⟨bD, bB, bN, cD, cB, cN, kD, kB, kN, ⟨e1, e2, e3⟩, ⟨e4, e5, e6, e7⟩, ⟨e8, e9, e10, e11, e12⟩, hcD, hcB, hcN, rfl⟩
end Go.Proofs.Ytibmolekndeofaa.E
/- Come. -/
namespace Go.Proofs.Ytibmolekndeofaa.E
open Go Go.RowKit Go.Proofs
set_option linter.unusedVariables false
set_option linter.unusedSimpArgs false
set_option maxRecDepth 8000 in
set_option maxHeartbeats 16000000 in
theorem come_ok {l : List En} (hm : ∀ e ∈ l, mayJ e = true) (hl : l.length ≤ 1000000000000) {o : Bool} : PSpec Try.prog 13 [.lst 4 (l.map enV) o] (stJ (comeJ l)) := by
  intro H
  refine spec_ofU t13 (by simp [p13]) ?_
  simp only [p13]
  first | refine pwp_sr ?_ | refine pwp_regionM ?_
  intro K hK
  simp (disch := first | (refine Ok.mk ?_; (try simp only [Lm, La, Lc, Ln, Lt, Ld, Lr, Li, true_or, or_true, true_and, and_true]); omega) | (simp <;> fail) | skip) [runM_nil]
  intro b2 h_b2
  try simp (disch := first | (refine Ok.mk ?_; (try simp only [Lm, La, Lc, Ln, Lt, Ld, Lr, Li, true_or, or_true, true_and, and_true]); omega) | (simp <;> fail) | skip) [runM_nil]
  refine hK _ _ ?_
  clear hK K
  first | refine pwp_sr ?_ | refine pwp_regionM ?_
  intro K hK
  simp (disch := first | (refine Ok.mk ?_; (try simp only [Lm, La, Lc, Ln, Lt, Ld, Lr, Li, true_or, or_true, true_and, and_true]); omega) | (simp <;> fail) | skip) [runM_nil]
  intro bs h_bs
  have d_bs_b2 : ¬ b2 = bs := fun e => by subst e; simp [hget] at h_bs
  try simp (disch := first | (refine Ok.mk ?_; (try simp only [Lm, La, Lc, Ln, Lt, Ld, Lr, Li, true_or, or_true, true_and, and_true]); omega) | (simp <;> fail) | skip) [runM_nil, d_bs_b2, Ne.symm d_bs_b2]
  refine hK _ _ ?_
  clear hK K
  refine pwp_seq (pwp_seq ?_)
  first | refine pwp_sr ?_ | refine pwp_regionM ?_
  intro K hK
  simp (disch := first | (refine Ok.mk ?_; (try simp only [Lm, La, Lc, Ln, Lt, Ld, Lr, Li, true_or, or_true, true_and, and_true]); omega) | (simp <;> fail) | skip) [runM_nil, d_bs_b2, Ne.symm d_bs_b2]
  refine hK _ _ ?_
  clear hK K
  refine pwp_block ?_
  have d0 := d_bs_b2
  refine pwp_loopK [2, 3, 8, 9, 10] (fun m st H' => ∃ i, i ≤ l.length ∧ m = l.length - i ∧ InvJ bs b2 H (comeJ (l.take i)) H' ∧ st = MS 42 [(2, .ptr (some (b2, 0))), (3, .ptr (some (bs, 0))), (8, .lst 4 (l.map enV) false), (9, .int .i64 l.length), (10, .int .i64 i)]) (n := l.length)
    ⟨_, .refl _, 0, Nat.zero_le _, rfl, by simp [comeJ, InvJ, stC0], by simp [keepL_MS, keepA, getS]⟩ ?_
  rintro m st H1 ⟨i, hi, rfl, hI, rfl⟩
  by_cases hlt : i < l.length
  · have hge : (l.map enV)[i]? = some (enV l[i]) := by simp [hlt]
    have hmi := hm _ (List.getElem_mem hlt)
    have hts : comeJ (l.take (i + 1)) = stepJ l[i] (comeJ (l.take i)) := by rw [List.take_succ_eq_append_getElem hlt, come_snoc]
    have hfit := fit_come (l := l.take i) fun x hx => hm x (List.mem_of_mem_take hx)
    generalize hs0 : comeJ (l.take i) = s at *
    generalize hei : l[i] = e at *
    first | refine pwp_sr ?_ | refine pwp_regionM ?_
    intro K hK
    simp (disch := first | (refine Ok.mk ?_; (try simp only [Lm, La, Lc, Ln, Lt, Ld, Lr, Li, true_or, or_true, true_and, and_true]); omega) | (simp <;> fail) | skip) [runM_nil]
    refine hK _ _ ?_
    clear hK K
    refine pwp_seq (pwp_cT (by simp) (pwp_skip ?_))
    refine pwp_cut [2, 3, 8, 9, 10] (fun st2 H2 => InvP bs b2 H (stepJ e s) H2 ∧ st2 = MS 42 [(2, .ptr (some (b2, 0))), (3, .ptr (some (bs, 0))), (8, .lst 4 (l.map enV) false), (9, .int .i64 l.length), (10, .int .i64 i)]) ?_ ?_
    · refine pwp_block ?_
      have hge2 : l[i]? = some e := by rw [List.getElem?_eq_getElem hlt, hei]
      first | refine pwp_sr ?_ | refine pwp_regionM ?_
      intro K hK
      simp (disch := first | (refine Ok.mk ?_; (try simp only [Lm, La, Lc, Ln, Lt, Ld, Lr, Li, true_or, or_true, true_and, and_true]); omega) | (simp <;> fail) | skip) [runM_nil, hge2, enV]
      intro b5 h_b5
      try simp (disch := first | (refine Ok.mk ?_; (try simp only [Lm, La, Lc, Ln, Lt, Ld, Lr, Li, true_or, or_true, true_and, and_true]); omega) | (simp <;> fail) | skip) [runM_nil, hge2, enV]
      refine hK _ _ ?_
      clear hK K
      obtain ⟨H2, hP, hc⟩ := meth_ok (b5 := b5) d0 hfit hI [.int .i64 e.k, .int .i64 e.t, .int .i64 e.y, .int .i64 e.w] h_b5 hmi
      have hk := (mayJ_iff.1 hmi).1
      simp only [enV] at hc
      first | refine pwp_sr ?_ | refine pwp_regionM ?_
      intro K hK
      simp (disch := first | (refine Ok.mk ?_; (try simp only [Lm, La, Lc, Ln, Lt, Ld, Lr, Li, true_or, or_true, true_and, and_true]); omega) | (simp <;> fail) | skip) [runM_nil]
      refine hK _ _ ?_
      clear hK K
      refine pwp_block ?_
      rcases (show e.k = 1 ∨ e.k = 2 ∨ e.k = 3 ∨ e.k = 4 ∨ e.k = 5 ∨ e.k = 6 by omega) with h | h | h | h | h | h
      all_goals simp [methJ, h] at hc
      · first | refine pwp_sr ?_ | refine pwp_regionM ?_
        intro K hK
        simp (disch := first | (refine Ok.mk ?_; (try simp only [Lm, La, Lc, Ln, Lt, Ld, Lr, Li, true_or, or_true, true_and, and_true]); omega) | (simp <;> fail) | skip) [runM_nil, h]
        refine hK _ _ ?_
        clear hK K
        refine pwp_cT (by simp) ?_
        first | refine pwp_sr ?_ | refine pwp_regionM ?_
        intro K hK
        simp (disch := first | (refine Ok.mk ?_; (try simp only [Lm, La, Lc, Ln, Lt, Ld, Lr, Li, true_or, or_true, true_and, and_true]); omega) | (simp <;> fail) | skip) [runM_nil, h]
        refine useH hc ?_
        try simp (disch := first | (refine Ok.mk ?_; (try simp only [Lm, La, Lc, Ln, Lt, Ld, Lr, Li, true_or, or_true, true_and, and_true]); omega) | (simp <;> fail) | skip) [runM_nil, h]
        refine hK _ _ ?_
        clear hK K
        exact cut_to (by simp [keepA, getS]) (.cons _ (.refl _)) ⟨hP, rfl⟩
      · first | refine pwp_sr ?_ | refine pwp_regionM ?_
        intro K hK
        simp (disch := first | (refine Ok.mk ?_; (try simp only [Lm, La, Lc, Ln, Lt, Ld, Lr, Li, true_or, or_true, true_and, and_true]); omega) | (simp <;> fail) | skip) [runM_nil, h]
        refine hK _ _ ?_
        clear hK K
        refine pwp_cF (by simp) ?_
        first | refine pwp_rif ?_ | refine pwp_rifE ?_
        intro K hK
        simp (disch := first | (refine Ok.mk ?_; (try simp only [Lm, La, Lc, Ln, Lt, Ld, Lr, Li, true_or, or_true, true_and, and_true]); omega) | (simp <;> fail) | skip) [runM_nil, h]
        refine hK _ _ ?_
        clear hK K
        refine ifT (by simp (disch := first | (refine Ok.mk ?_; (try simp only [Lm, La, Lc, Ln, Lt, Ld, Lr, Li, true_or, or_true, true_and, and_true]); omega) | (simp <;> fail) | skip) [runM_nil]) (pwp_skip ?_)
        refine pwp_cT (by simp) ?_
        first | refine pwp_sr ?_ | refine pwp_regionM ?_
        intro K hK
        simp (disch := first | (refine Ok.mk ?_; (try simp only [Lm, La, Lc, Ln, Lt, Ld, Lr, Li, true_or, or_true, true_and, and_true]); omega) | (simp <;> fail) | skip) [runM_nil, h]
        refine useH hc ?_
        try simp (disch := first | (refine Ok.mk ?_; (try simp only [Lm, La, Lc, Ln, Lt, Ld, Lr, Li, true_or, or_true, true_and, and_true]); omega) | (simp <;> fail) | skip) [runM_nil, h]
        refine hK _ _ ?_
        clear hK K
        exact cut_to (by simp [keepA, getS]) (.cons _ (.refl _)) ⟨hP, rfl⟩
      · first | refine pwp_sr ?_ | refine pwp_regionM ?_
        intro K hK
        simp (disch := first | (refine Ok.mk ?_; (try simp only [Lm, La, Lc, Ln, Lt, Ld, Lr, Li, true_or, or_true, true_and, and_true]); omega) | (simp <;> fail) | skip) [runM_nil, h]
        refine hK _ _ ?_
        clear hK K
        refine pwp_cF (by simp) ?_
        first | refine pwp_rif ?_ | refine pwp_rifE ?_
        intro K hK
        simp (disch := first | (refine Ok.mk ?_; (try simp only [Lm, La, Lc, Ln, Lt, Ld, Lr, Li, true_or, or_true, true_and, and_true]); omega) | (simp <;> fail) | skip) [runM_nil, h]
        refine hK _ _ ?_
        clear hK K
        refine ifF (by simp (disch := first | (refine Ok.mk ?_; (try simp only [Lm, La, Lc, Ln, Lt, Ld, Lr, Li, true_or, or_true, true_and, and_true]); omega) | (simp <;> fail) | skip) [runM_nil]) ?_
        first | refine pwp_sr ?_ | refine pwp_regionM ?_
        intro K hK
        simp (disch := first | (refine Ok.mk ?_; (try simp only [Lm, La, Lc, Ln, Lt, Ld, Lr, Li, true_or, or_true, true_and, and_true]); omega) | (simp <;> fail) | skip) [runM_nil, h]
        refine hK _ _ ?_
        clear hK K
        refine pwp_cT (by simp) ?_
        first | refine pwp_sr ?_ | refine pwp_regionM ?_
        intro K hK
        simp (disch := first | (refine Ok.mk ?_; (try simp only [Lm, La, Lc, Ln, Lt, Ld, Lr, Li, true_or, or_true, true_and, and_true]); omega) | (simp <;> fail) | skip) [runM_nil, h]
        refine useH hc ?_
        try simp (disch := first | (refine Ok.mk ?_; (try simp only [Lm, La, Lc, Ln, Lt, Ld, Lr, Li, true_or, or_true, true_and, and_true]); omega) | (simp <;> fail) | skip) [runM_nil, h]
        refine hK _ _ ?_
        clear hK K
        exact cut_to (by simp [keepA, getS]) (.cons _ (.refl _)) ⟨hP, rfl⟩
      · first | refine pwp_sr ?_ | refine pwp_regionM ?_
        intro K hK
        simp (disch := first | (refine Ok.mk ?_; (try simp only [Lm, La, Lc, Ln, Lt, Ld, Lr, Li, true_or, or_true, true_and, and_true]); omega) | (simp <;> fail) | skip) [runM_nil, h]
        refine hK _ _ ?_
        clear hK K
        refine pwp_cF (by simp) ?_
        first | refine pwp_rif ?_ | refine pwp_rifE ?_
        intro K hK
        simp (disch := first | (refine Ok.mk ?_; (try simp only [Lm, La, Lc, Ln, Lt, Ld, Lr, Li, true_or, or_true, true_and, and_true]); omega) | (simp <;> fail) | skip) [runM_nil, h]
        refine hK _ _ ?_
        clear hK K
        refine ifF (by simp (disch := first | (refine Ok.mk ?_; (try simp only [Lm, La, Lc, Ln, Lt, Ld, Lr, Li, true_or, or_true, true_and, and_true]); omega) | (simp <;> fail) | skip) [runM_nil]) ?_
        first | refine pwp_sr ?_ | refine pwp_regionM ?_
        intro K hK
        simp (disch := first | (refine Ok.mk ?_; (try simp only [Lm, La, Lc, Ln, Lt, Ld, Lr, Li, true_or, or_true, true_and, and_true]); omega) | (simp <;> fail) | skip) [runM_nil, h]
        refine hK _ _ ?_
        clear hK K
        refine pwp_cF (by simp) ?_
        first | refine pwp_sr ?_ | refine pwp_regionM ?_
        intro K hK
        simp (disch := first | (refine Ok.mk ?_; (try simp only [Lm, La, Lc, Ln, Lt, Ld, Lr, Li, true_or, or_true, true_and, and_true]); omega) | (simp <;> fail) | skip) [runM_nil, h]
        refine hK _ _ ?_
        clear hK K
        refine pwp_cT (by simp) ?_
        first | refine pwp_sr ?_ | refine pwp_regionM ?_
        intro K hK
        simp (disch := first | (refine Ok.mk ?_; (try simp only [Lm, La, Lc, Ln, Lt, Ld, Lr, Li, true_or, or_true, true_and, and_true]); omega) | (simp <;> fail) | skip) [runM_nil, h]
        refine useH hc ?_
        try simp (disch := first | (refine Ok.mk ?_; (try simp only [Lm, La, Lc, Ln, Lt, Ld, Lr, Li, true_or, or_true, true_and, and_true]); omega) | (simp <;> fail) | skip) [runM_nil, h]
        refine hK _ _ ?_
        clear hK K
        exact cut_to (by simp [keepA, getS]) (.cons _ (.refl _)) ⟨hP, rfl⟩
      · first | refine pwp_sr ?_ | refine pwp_regionM ?_
        intro K hK
        simp (disch := first | (refine Ok.mk ?_; (try simp only [Lm, La, Lc, Ln, Lt, Ld, Lr, Li, true_or, or_true, true_and, and_true]); omega) | (simp <;> fail) | skip) [runM_nil, h]
        refine hK _ _ ?_
        clear hK K
        refine pwp_cF (by simp) ?_
        first | refine pwp_rif ?_ | refine pwp_rifE ?_
        intro K hK
        simp (disch := first | (refine Ok.mk ?_; (try simp only [Lm, La, Lc, Ln, Lt, Ld, Lr, Li, true_or, or_true, true_and, and_true]); omega) | (simp <;> fail) | skip) [runM_nil, h]
        refine hK _ _ ?_
        clear hK K
        refine ifF (by simp (disch := first | (refine Ok.mk ?_; (try simp only [Lm, La, Lc, Ln, Lt, Ld, Lr, Li, true_or, or_true, true_and, and_true]); omega) | (simp <;> fail) | skip) [runM_nil]) ?_
        first | refine pwp_sr ?_ | refine pwp_regionM ?_
        intro K hK
        simp (disch := first | (refine Ok.mk ?_; (try simp only [Lm, La, Lc, Ln, Lt, Ld, Lr, Li, true_or, or_true, true_and, and_true]); omega) | (simp <;> fail) | skip) [runM_nil, h]
        refine hK _ _ ?_
        clear hK K
        refine pwp_cF (by simp) ?_
        first | refine pwp_sr ?_ | refine pwp_regionM ?_
        intro K hK
        simp (disch := first | (refine Ok.mk ?_; (try simp only [Lm, La, Lc, Ln, Lt, Ld, Lr, Li, true_or, or_true, true_and, and_true]); omega) | (simp <;> fail) | skip) [runM_nil, h]
        refine hK _ _ ?_
        clear hK K
        refine pwp_cF (by simp) ?_
        first | refine pwp_rif ?_ | refine pwp_rifE ?_
        intro K hK
        simp (disch := first | (refine Ok.mk ?_; (try simp only [Lm, La, Lc, Ln, Lt, Ld, Lr, Li, true_or, or_true, true_and, and_true]); omega) | (simp <;> fail) | skip) [runM_nil, h]
        refine hK _ _ ?_
        clear hK K
        refine ifT (by simp (disch := first | (refine Ok.mk ?_; (try simp only [Lm, La, Lc, Ln, Lt, Ld, Lr, Li, true_or, or_true, true_and, and_true]); omega) | (simp <;> fail) | skip) [runM_nil]) (pwp_skip ?_)
        refine pwp_cT (by simp) ?_
        first | refine pwp_sr ?_ | refine pwp_regionM ?_
        intro K hK
        simp (disch := first | (refine Ok.mk ?_; (try simp only [Lm, La, Lc, Ln, Lt, Ld, Lr, Li, true_or, or_true, true_and, and_true]); omega) | (simp <;> fail) | skip) [runM_nil, h]
        refine useH hc ?_
        try simp (disch := first | (refine Ok.mk ?_; (try simp only [Lm, La, Lc, Ln, Lt, Ld, Lr, Li, true_or, or_true, true_and, and_true]); omega) | (simp <;> fail) | skip) [runM_nil, h]
        refine hK _ _ ?_
        clear hK K
        exact cut_to (by simp [keepA, getS]) (.cons _ (.refl _)) ⟨hP, rfl⟩
      · first | refine pwp_sr ?_ | refine pwp_regionM ?_
        intro K hK
        simp (disch := first | (refine Ok.mk ?_; (try simp only [Lm, La, Lc, Ln, Lt, Ld, Lr, Li, true_or, or_true, true_and, and_true]); omega) | (simp <;> fail) | skip) [runM_nil, h]
        refine hK _ _ ?_
        clear hK K
        refine pwp_cF (by simp) ?_
        first | refine pwp_rif ?_ | refine pwp_rifE ?_
        intro K hK
        simp (disch := first | (refine Ok.mk ?_; (try simp only [Lm, La, Lc, Ln, Lt, Ld, Lr, Li, true_or, or_true, true_and, and_true]); omega) | (simp <;> fail) | skip) [runM_nil, h]
        refine hK _ _ ?_
        clear hK K
        refine ifF (by simp (disch := first | (refine Ok.mk ?_; (try simp only [Lm, La, Lc, Ln, Lt, Ld, Lr, Li, true_or, or_true, true_and, and_true]); omega) | (simp <;> fail) | skip) [runM_nil]) ?_
        first | refine pwp_sr ?_ | refine pwp_regionM ?_
        intro K hK
        simp (disch := first | (refine Ok.mk ?_; (try simp only [Lm, La, Lc, Ln, Lt, Ld, Lr, Li, true_or, or_true, true_and, and_true]); omega) | (simp <;> fail) | skip) [runM_nil, h]
        refine hK _ _ ?_
        clear hK K
        refine pwp_cF (by simp) ?_
        first | refine pwp_sr ?_ | refine pwp_regionM ?_
        intro K hK
        simp (disch := first | (refine Ok.mk ?_; (try simp only [Lm, La, Lc, Ln, Lt, Ld, Lr, Li, true_or, or_true, true_and, and_true]); omega) | (simp <;> fail) | skip) [runM_nil, h]
        refine hK _ _ ?_
        clear hK K
        refine pwp_cF (by simp) ?_
        first | refine pwp_rif ?_ | refine pwp_rifE ?_
        intro K hK
        simp (disch := first | (refine Ok.mk ?_; (try simp only [Lm, La, Lc, Ln, Lt, Ld, Lr, Li, true_or, or_true, true_and, and_true]); omega) | (simp <;> fail) | skip) [runM_nil, h]
        refine hK _ _ ?_
        clear hK K
        refine ifF (by simp (disch := first | (refine Ok.mk ?_; (try simp only [Lm, La, Lc, Ln, Lt, Ld, Lr, Li, true_or, or_true, true_and, and_true]); omega) | (simp <;> fail) | skip) [runM_nil]) ?_
        first | refine pwp_sr ?_ | refine pwp_regionM ?_
        intro K hK
        simp (disch := first | (refine Ok.mk ?_; (try simp only [Lm, La, Lc, Ln, Lt, Ld, Lr, Li, true_or, or_true, true_and, and_true]); omega) | (simp <;> fail) | skip) [runM_nil, h]
        refine hK _ _ ?_
        clear hK K
        refine pwp_cT (by simp) ?_
        first | refine pwp_sr ?_ | refine pwp_regionM ?_
        intro K hK
        simp (disch := first | (refine Ok.mk ?_; (try simp only [Lm, La, Lc, Ln, Lt, Ld, Lr, Li, true_or, or_true, true_and, and_true]); omega) | (simp <;> fail) | skip) [runM_nil, h]
        refine useH hc ?_
        try simp (disch := first | (refine Ok.mk ?_; (try simp only [Lm, La, Lc, Ln, Lt, Ld, Lr, Li, true_or, or_true, true_and, and_true]); omega) | (simp <;> fail) | skip) [runM_nil, h]
        refine hK _ _ ?_
        clear hK K
        exact cut_to (by simp [keepA, getS]) (.cons _ (.refl _)) ⟨hP, rfl⟩
    · rintro _ H2 ⟨hP, rfl⟩
      rcases hP with hP | ⟨t, y, hP, rfl⟩
      · skip
        first | refine pwp_sr ?_ | refine pwp_regionM ?_
        intro K hK
        simp (disch := first | (refine Ok.mk ?_; (try simp only [Lm, La, Lc, Ln, Lt, Ld, Lr, Li, true_or, or_true, true_and, and_true]); omega) | (simp <;> fail) | skip) [runM_nil]
        refine hK _ _ ?_
        clear hK K
        exact ⟨l.length - (i + 1), by omega, _, .refl _, i + 1, by omega, rfl, by rw [hts]; exact hP, by simp [keepL_MS, keepA, getS]⟩
      · have hlr : ∀ n : Nat, lendL (List.replicate n (PV.int .i64 (-1))) = List.replicate n (.int .i64 (-1)) := fun n => lendL_replicate rfl n
        have hmr : ∀ n : Nat, (List.replicate n (-1 : Int)).map iV = List.replicate n (.int .i64 (-1)) := fun n => by simp [iV]
        refine pwp_thawH (s := bs) (j := 3) (by simp [hget]; rfl) rfl (hlr t) rfl ?_
        intro bD cD kD hD1 hD2 hbD
        have e1 : ¬ b2 = bD := fun e => by subst e; simp [hget, Ne.symm d0, d0] at hbD
        have e2 : ¬ bs = bD := fun e => by subst e; simp [hget] at hbD
        have e3 : hget H bD = none := by simpa [hget, e1, e2] using hbD
        refine pwp_thawH (s := bs) (j := 4) (by simp [hget, hset, Ne.symm e2]; rfl) rfl (hlr t) rfl ?_
        intro bB cB kB hB1 hB2 hbB
        have e4 : ¬ b2 = bB := fun e => by subst e; simp [hget, hset, Ne.symm d0, d0, e1, e2, Ne.symm e1, Ne.symm e2] at hbB
        have e5 : ¬ bs = bB := fun e => by subst e; simp [hget, hset, e1, e2, Ne.symm e1, Ne.symm e2] at hbB
        have e6 : ¬ bD = bB := fun e => by subst e; simp [hget] at hbB
        have e7 : hget H bB = none := by simpa [hget, hset, e4, e5, e6, e2, Ne.symm e2] using hbB
        refine pwp_thawH (s := bs) (j := 5) (by simp [hget, hset, Ne.symm e2, Ne.symm e5]; rfl) rfl (hlr y) rfl ?_
        intro bN cN kN hN1 hN2 hbN
        have e8 : ¬ b2 = bN := fun e => by subst e; simp [hget, hset, Ne.symm d0, d0, e1, e2, e4, e5, Ne.symm e1, Ne.symm e2, Ne.symm e4, Ne.symm e5] at hbN
        have e9 : ¬ bs = bN := fun e => by subst e; simp [hget, hset, e2, e5, Ne.symm e2, Ne.symm e5] at hbN
        have e10 : ¬ bD = bN := fun e => by subst e; simp [hget, hset, e6, Ne.symm e6, Ne.symm e5, e5, e2, Ne.symm e2] at hbN
        have e11 : ¬ bB = bN := fun e => by subst e; simp [hget] at hbN
        have e12 : hget H bN = none := by simpa [hget, hset, e8, e9, e10, e11, e2, Ne.symm e2, e5, Ne.symm e5] using hbN
        first | refine pwp_sr ?_ | refine pwp_regionM ?_
        intro K hK
        simp (disch := first | (refine Ok.mk ?_; (try simp only [Lm, La, Lc, Ln, Lt, Ld, Lr, Li, true_or, or_true, true_and, and_true]); omega) | (simp <;> fail) | skip) [runM_nil]
        refine hK _ _ ?_
        clear hK K
        refine ⟨l.length - (i + 1), by omega, _, .refl _, i + 1, by omega, rfl, ?_, by simp [keepL_MS, keepA, getS]⟩
        rw [hts, hP]
        refine ⟨bD, bB, bN, cD, cB, cN, kD, kB, kN, ⟨e1, e2, e3⟩, ⟨e4, e5, e6, e7⟩, ⟨e8, e9, e10, e11, e12⟩, ⟨by simpa using hD1, hD2⟩, ⟨by simpa using hB1, hB2⟩, ⟨by simpa using hN1, hN2⟩, ?_⟩
        simp [hset, e2, e5, Ne.symm e2, Ne.symm e5, stC, begX, rowC, iV]
  · obtain rfl : i = l.length := by omega
    rw [List.take_length] at hI
    first | refine pwp_sr ?_ | refine pwp_regionM ?_
    intro K hK
    simp (disch := first | (refine Ok.mk ?_; (try simp only [Lm, La, Lc, Ln, Lt, Ld, Lr, Li, true_or, or_true, true_and, and_true]); omega) | (simp <;> fail) | skip) [runM_nil]
    refine hK _ _ ?_
    clear hK K
    refine pwp_seq (pwp_cF (by simp) (pwp_exit ?_))
    cases hc : comeJ l with
    | none =>
      rw [hc] at hI
      simp only [InvJ] at hI
      subst hI
      first | refine pwp_sr ?_ | refine pwp_regionM ?_
      intro K hK
      simp (disch := first | (refine Ok.mk ?_; (try simp only [Lm, La, Lc, Ln, Lt, Ld, Lr, Li, true_or, or_true, true_and, and_true]); omega) | (simp <;> fail) | skip) [runM_nil, stC0, d_bs_b2, Ne.symm d_bs_b2]
      refine hK _ _ ?_
      clear hK K
      refine pwp_ret ⟨.inr rfl, _, _, _, (by simp (disch := first | (refine Ok.mk ?_; (try simp only [Lm, La, Lc, Ln, Lt, Ld, Lr, Li, true_or, or_true, true_and, and_true]); omega) | (simp <;> fail) | skip) [runM_nil, resL, stJ, d_bs_b2, Ne.symm d_bs_b2]; rfl), (.cons _ (.cons _ (.refl _))), (by simp (disch := first | (refine Ok.mk ?_; (try simp only [Lm, La, Lc, Ln, Lt, Ld, Lr, Li, true_or, or_true, true_and, and_true]); omega) | (simp <;> fail) | skip) [resV, stJ]), rfl, rfl⟩
    | some s =>
      rw [hc] at hI
      obtain ⟨bD, bB, bN, cD, cB, cN, kD, kB, kN, ⟨e1, e2, e3⟩, ⟨e4, e5, e6, e7⟩, ⟨e8, e9, e10, e11, e12⟩, hcD, hcB, hcN, rfl⟩ := hI
      have rD := rowC_rowL (k := kD) hcD.1 hcD.2
      have rB := rowC_rowL (k := kB) hcB.1 hcB.2
      have rN := rowC_rowL (k := kN) hcN.1 hcN.2
      have hbs : hget H bs = none := by simpa [hget, d0] using h_bs
      generalize hgN : rowC s.nm kN = xN at *
      generalize hgB : rowC s.bw kB = xB at *
      generalize hgD : rowC s.dn kD = xD at *
      refine pwp_freeze (b := bN) 1 false [bs] (by simp [hget]; rfl) ?_
      simp [planS_nil, stC, e8, e9, e10, e11, Ne.symm e8, Ne.symm e9, Ne.symm e10, Ne.symm e11, e5, e2, Ne.symm e5, Ne.symm e2, rN, d0, Ne.symm d0, frzH_id e12 (L := [bs]) (by simpa using hbs)]
      refine pwp_freeze (b := bB) 1 false [bs] (by simp [hget]; rfl) ?_
      simp [planS_nil, stC, e4, e5, e6, Ne.symm e4, Ne.symm e5, Ne.symm e6, e2, Ne.symm e2, rB, d0, Ne.symm d0, frzH_id e7 (L := [bs]) (by simpa using hbs)]
      refine pwp_freeze (b := bD) 1 false [bs] (by simp [hget]; rfl) ?_
      simp [planS_nil, stC, e1, e2, Ne.symm e1, Ne.symm e2, rD, d0, Ne.symm d0, frzH_id e3 (L := [bs]) (by simpa using hbs)]
      first | refine pwp_sr ?_ | refine pwp_regionM ?_
      intro K hK
      simp (disch := first | (refine Ok.mk ?_; (try simp only [Lm, La, Lc, Ln, Lt, Ld, Lr, Li, true_or, or_true, true_and, and_true]); omega) | (simp <;> fail) | skip) [runM_nil, stC0, d_bs_b2, Ne.symm d_bs_b2]
      refine hK _ _ ?_
      clear hK K
      refine pwp_ret ⟨.inr rfl, ?_⟩
      simp [runM_nil, resL, stC0, d0, Ne.symm d0]
      exact ⟨_, _, .cons _ (.cons _ (.refl _)), by simp [resV, stJ], rfl, rfl⟩
end Go.Proofs.Ytibmolekndeofaa.E
/- The laws' helpers: plain, small, says. -/
namespace Go.Proofs.Ytibmolekndeofaa.E
open Go Go.RowKit Go.Proofs
set_option linter.unusedVariables false
set_option linter.unusedSimpArgs false
theorem plain_ok (e : En) : PSpec Try.prog 17 [enV e] (enV e) := by
  intro H
  refine spec_of t17 (by simp [p17]) ?_
  simp only [p17]
  first | refine pwp_sr ?_ | refine pwp_regionM ?_
  intro K hK
  simp (disch := first | (refine Ok.mk ?_; (try simp only [Lm, La, Lc, Ln, Lt, Ld, Lr, Li, true_or, or_true, true_and, and_true]); omega) | (simp <;> fail) | skip) [runM_nil, enV]
  intro b2 h_b2
  try simp (disch := first | (refine Ok.mk ?_; (try simp only [Lm, La, Lc, Ln, Lt, Ld, Lr, Li, true_or, or_true, true_and, and_true]); omega) | (simp <;> fail) | skip) [runM_nil, enV]
  refine hK _ _ ?_
  clear hK K
  first | refine pwp_sr ?_ | refine pwp_regionM ?_
  intro K hK
  simp (disch := first | (refine Ok.mk ?_; (try simp only [Lm, La, Lc, Ln, Lt, Ld, Lr, Li, true_or, or_true, true_and, and_true]); omega) | (simp <;> fail) | skip) [runM_nil, enV]
  refine hK _ _ ?_
  clear hK K
  refine pwp_ret ⟨.inr rfl, _, _, (by simp (disch := first | (refine Ok.mk ?_; (try simp only [Lm, La, Lc, Ln, Lt, Ld, Lr, Li, true_or, or_true, true_and, and_true]); omega) | (simp <;> fail) | skip) [runM_nil, resL, enV]; rfl), (.cons _ (.refl _)), by simp (disch := first | (refine Ok.mk ?_; (try simp only [Lm, La, Lc, Ln, Lt, Ld, Lr, Li, true_or, or_true, true_and, and_true]); omega) | (simp <;> fail) | skip) [resV, enV], rfl⟩
def okS (e : En) : Bool := !(decide (e.k = 1) && (decide (1000 < e.t) || decide (1000 < e.y))) && mayJ e
def smallJ (l : List En) : Bool := decide (l.length ≤ 60) && l.all okS
theorem smallJ_iff {l : List En} : smallJ l = true ↔ l.length ≤ 60 ∧ ∀ e ∈ l, okS e = true := by simp [smallJ]
theorem small_no {l : List En} {i : Nat} (h : i < l.length) (hi : i = 60 ∨ okS l[i] = false) : smallJ l = false := by
  cases hs : smallJ l with
  | false => rfl
  | true =>
    obtain ⟨h1, h2⟩ := smallJ_iff.1 hs
    rcases hi with rfl | hi
    · omega
    · rw [h2 _ (List.getElem_mem h)] at hi; cases hi
set_option maxRecDepth 8000 in
set_option maxHeartbeats 4000000 in
theorem small_ok {l : List En} (hl : l.length ≤ 9223372036854775807) {o : Bool} : PSpec Try.prog 7 [.lst 4 (l.map enV) o] (.bool (smallJ l)) := by
  intro H
  refine spec_of t7 (by simp [p7]) ?_
  simp only [p7]
  first | refine pwp_sr ?_ | refine pwp_regionM ?_
  intro K hK
  simp (disch := first | (refine Ok.mk ?_; (try simp only [Lm, La, Lc, Ln, Lt, Ld, Lr, Li, true_or, or_true, true_and, and_true]); omega) | (simp <;> fail) | skip) [runM_nil]
  refine hK _ _ ?_
  clear hK K
  refine pwp_seq (pwp_seq ?_)
  first | refine pwp_sr ?_ | refine pwp_regionM ?_
  intro K hK
  simp (disch := first | (refine Ok.mk ?_; (try simp only [Lm, La, Lc, Ln, Lt, Ld, Lr, Li, true_or, or_true, true_and, and_true]); omega) | (simp <;> fail) | skip) [runM_nil]
  refine hK _ _ ?_
  clear hK K
  refine pwp_block ?_
  refine pwp_loopK [0, 3] (fun m st H' => ∃ i, i ≤ l.length ∧ i ≤ 60 ∧ (∀ j, (h : j < l.length) → j < i → okS l[j] = true) ∧ m = l.length - i ∧ H' = H ∧ st = MS 45 [(0, .lst 4 (l.map enV) o), (3, .int .i64 i)]) (n := l.length)
    ⟨_, .refl _, 0, Nat.zero_le _, by omega, (fun j h hj => by omega), rfl, rfl, by simp [keepL_MS, keepA, getS]⟩ ?_
  rintro m st H1 ⟨i, hi, hi60, hq, rfl, rfl, rfl⟩
  by_cases hlt : i < l.length
  · have hge2 : l[i]? = some l[i] := List.getElem?_eq_getElem hlt
    have hno := small_no hlt
    generalize hei : l[i] = e at *
    have c1 := plain_ok e
    have c2 := refMay_ok e
    refine pwp_seq ?_
    first | refine pwp_sr ?_ | refine pwp_regionM ?_
    intro K hK
    simp (disch := first | (refine Ok.mk ?_; (try simp only [Lm, La, Lc, Ln, Lt, Ld, Lr, Li, true_or, or_true, true_and, and_true]); omega) | (simp <;> fail) | skip) [runM_nil]
    refine hK _ _ ?_
    clear hK K
    refine pwp_cT (by simp) (pwp_skip ?_)
    refine pwp_seq (pwp_block ?_)
    by_cases h60 : i = 60
    · have hn := hno (.inl h60)
      subst h60
      first | refine pwp_sr ?_ | refine pwp_regionM ?_
      intro K hK
      simp (disch := first | (refine Ok.mk ?_; (try simp only [Lm, La, Lc, Ln, Lt, Ld, Lr, Li, true_or, or_true, true_and, and_true]); omega) | (simp <;> fail) | skip) [runM_nil]
      refine hK _ _ ?_
      clear hK K
      refine pwp_cT (by simp) ?_
      first | refine pwp_sr ?_ | refine pwp_regionM ?_
      intro K hK
      simp (disch := first | (refine Ok.mk ?_; (try simp only [Lm, La, Lc, Ln, Lt, Ld, Lr, Li, true_or, or_true, true_and, and_true]); omega) | (simp <;> fail) | skip) [runM_nil]
      refine hK _ _ ?_
      clear hK K
      refine pwp_ret ⟨.inr rfl, _, _, (by simp (disch := first | (refine Ok.mk ?_; (try simp only [Lm, La, Lc, Ln, Lt, Ld, Lr, Li, true_or, or_true, true_and, and_true]); omega) | (simp <;> fail) | skip) [runM_nil, resL, hn]; rfl), .refl _, by simp (disch := first | (refine Ok.mk ?_; (try simp only [Lm, La, Lc, Ln, Lt, Ld, Lr, Li, true_or, or_true, true_and, and_true]); omega) | (simp <;> fail) | skip) [resV, hn], rfl⟩
    by_cases h1 : e.k = 1
    · by_cases h2 : 1000 < e.t
      · have hn := hno (.inr (by simp [okS, h1, h2]))
        first | refine pwp_sr ?_ | refine pwp_regionM ?_
        intro K hK
        simp (disch := first | (refine Ok.mk ?_; (try simp only [Lm, La, Lc, Ln, Lt, Ld, Lr, Li, true_or, or_true, true_and, and_true]); omega) | (simp <;> fail) | skip) [runM_nil, hge2, enV, h1, h2]
        refine hK _ _ ?_
        clear hK K
        refine pwp_cT (by simp) ?_
        first | refine pwp_sr ?_ | refine pwp_regionM ?_
        intro K hK
        simp (disch := first | (refine Ok.mk ?_; (try simp only [Lm, La, Lc, Ln, Lt, Ld, Lr, Li, true_or, or_true, true_and, and_true]); omega) | (simp <;> fail) | skip) [runM_nil]
        refine hK _ _ ?_
        clear hK K
        refine pwp_ret ⟨.inr rfl, _, _, (by simp (disch := first | (refine Ok.mk ?_; (try simp only [Lm, La, Lc, Ln, Lt, Ld, Lr, Li, true_or, or_true, true_and, and_true]); omega) | (simp <;> fail) | skip) [runM_nil, resL, hn]; rfl), .refl _, by simp (disch := first | (refine Ok.mk ?_; (try simp only [Lm, La, Lc, Ln, Lt, Ld, Lr, Li, true_or, or_true, true_and, and_true]); omega) | (simp <;> fail) | skip) [resV, hn], rfl⟩
      · by_cases h3 : 1000 < e.y
        · have hn := hno (.inr (by simp [okS, h1, h2, h3]))
          first | refine pwp_sr ?_ | refine pwp_regionM ?_
          intro K hK
          simp (disch := first | (refine Ok.mk ?_; (try simp only [Lm, La, Lc, Ln, Lt, Ld, Lr, Li, true_or, or_true, true_and, and_true]); omega) | (simp <;> fail) | skip) [runM_nil, hge2, enV, h1, h2, h3]
          refine hK _ _ ?_
          clear hK K
          refine pwp_cT (by simp) ?_
          first | refine pwp_sr ?_ | refine pwp_regionM ?_
          intro K hK
          simp (disch := first | (refine Ok.mk ?_; (try simp only [Lm, La, Lc, Ln, Lt, Ld, Lr, Li, true_or, or_true, true_and, and_true]); omega) | (simp <;> fail) | skip) [runM_nil]
          refine hK _ _ ?_
          clear hK K
          refine pwp_ret ⟨.inr rfl, _, _, (by simp (disch := first | (refine Ok.mk ?_; (try simp only [Lm, La, Lc, Ln, Lt, Ld, Lr, Li, true_or, or_true, true_and, and_true]); omega) | (simp <;> fail) | skip) [runM_nil, resL, hn]; rfl), .refl _, by simp (disch := first | (refine Ok.mk ?_; (try simp only [Lm, La, Lc, Ln, Lt, Ld, Lr, Li, true_or, or_true, true_and, and_true]); omega) | (simp <;> fail) | skip) [resV, hn], rfl⟩
        · cases h4 : mayJ e with
          | false =>
            have hn := hno (.inr (by simp [okS, h4]))
            simp only [enV, h1] at c1 c2
            first | refine pwp_sr ?_ | refine pwp_regionM ?_
            intro K hK
            simp (disch := first | (refine Ok.mk ?_; (try simp only [Lm, La, Lc, Ln, Lt, Ld, Lr, Li, true_or, or_true, true_and, and_true]); omega) | (simp <;> fail) | skip) [runM_nil, hge2, enV, h1, h2, h3, h4]
            refine useP (c1) ?_
            simp (disch := first | (refine Ok.mk ?_; (try simp only [Lm, La, Lc, Ln, Lt, Ld, Lr, Li, true_or, or_true, true_and, and_true]); omega) | (simp <;> fail) | skip) [runM_nil, hge2, enV, h1, h2, h3, h4]
            refine useP (c2) ?_
            simp (disch := first | (refine Ok.mk ?_; (try simp only [Lm, La, Lc, Ln, Lt, Ld, Lr, Li, true_or, or_true, true_and, and_true]); omega) | (simp <;> fail) | skip) [runM_nil, hge2, enV, h1, h2, h3, h4]
            refine hK _ _ ?_
            clear hK K
            refine pwp_cT (by simp) ?_
            first | refine pwp_sr ?_ | refine pwp_regionM ?_
            intro K hK
            simp (disch := first | (refine Ok.mk ?_; (try simp only [Lm, La, Lc, Ln, Lt, Ld, Lr, Li, true_or, or_true, true_and, and_true]); omega) | (simp <;> fail) | skip) [runM_nil]
            refine hK _ _ ?_
            clear hK K
            refine pwp_ret ⟨.inr rfl, _, _, (by simp (disch := first | (refine Ok.mk ?_; (try simp only [Lm, La, Lc, Ln, Lt, Ld, Lr, Li, true_or, or_true, true_and, and_true]); omega) | (simp <;> fail) | skip) [runM_nil, resL, hn]; rfl), .refl _, by simp (disch := first | (refine Ok.mk ?_; (try simp only [Lm, La, Lc, Ln, Lt, Ld, Lr, Li, true_or, or_true, true_and, and_true]); omega) | (simp <;> fail) | skip) [resV, hn], rfl⟩
          | true =>
            simp only [enV, h1] at c1 c2
            first | refine pwp_sr ?_ | refine pwp_regionM ?_
            intro K hK
            simp (disch := first | (refine Ok.mk ?_; (try simp only [Lm, La, Lc, Ln, Lt, Ld, Lr, Li, true_or, or_true, true_and, and_true]); omega) | (simp <;> fail) | skip) [runM_nil, hge2, enV, h1, h2, h3, h4]
            refine useP (c1) ?_
            simp (disch := first | (refine Ok.mk ?_; (try simp only [Lm, La, Lc, Ln, Lt, Ld, Lr, Li, true_or, or_true, true_and, and_true]); omega) | (simp <;> fail) | skip) [runM_nil, hge2, enV, h1, h2, h3, h4]
            refine useP (c2) ?_
            simp (disch := first | (refine Ok.mk ?_; (try simp only [Lm, La, Lc, Ln, Lt, Ld, Lr, Li, true_or, or_true, true_and, and_true]); omega) | (simp <;> fail) | skip) [runM_nil, hge2, enV, h1, h2, h3, h4]
            refine hK _ _ ?_
            clear hK K
            refine pwp_cF (by simp) (pwp_skip ?_)
            first | refine pwp_sr ?_ | refine pwp_regionM ?_
            intro K hK
            simp (disch := first | (refine Ok.mk ?_; (try simp only [Lm, La, Lc, Ln, Lt, Ld, Lr, Li, true_or, or_true, true_and, and_true]); omega) | (simp <;> fail) | skip) [runM_nil]
            refine hK _ _ ?_
            clear hK K
            refine ⟨l.length - (i + 1), by omega, _, .refl _, i + 1, by omega, by omega, ?_, rfl, rfl, by simp [keepL_MS, keepA, getS]⟩
            intro j h hj
            rcases (show j < i ∨ j = i by omega) with q | rfl
            · exact hq j h q
            · rw [hei]; simp [okS, h1, h2, h3, h4]
    · cases h4 : mayJ e with
      | false =>
        have hn := hno (.inr (by simp [okS, h4]))
        simp only [enV] at c1 c2
        first | refine pwp_sr ?_ | refine pwp_regionM ?_
        intro K hK
        simp (disch := first | (refine Ok.mk ?_; (try simp only [Lm, La, Lc, Ln, Lt, Ld, Lr, Li, true_or, or_true, true_and, and_true]); omega) | (simp <;> fail) | skip) [runM_nil, hge2, enV, h1, h4]
        refine useP (c1) ?_
        simp (disch := first | (refine Ok.mk ?_; (try simp only [Lm, La, Lc, Ln, Lt, Ld, Lr, Li, true_or, or_true, true_and, and_true]); omega) | (simp <;> fail) | skip) [runM_nil, hge2, enV, h1, h4]
        refine useP (c2) ?_
        simp (disch := first | (refine Ok.mk ?_; (try simp only [Lm, La, Lc, Ln, Lt, Ld, Lr, Li, true_or, or_true, true_and, and_true]); omega) | (simp <;> fail) | skip) [runM_nil, hge2, enV, h1, h4]
        refine hK _ _ ?_
        clear hK K
        refine pwp_cT (by simp) ?_
        first | refine pwp_sr ?_ | refine pwp_regionM ?_
        intro K hK
        simp (disch := first | (refine Ok.mk ?_; (try simp only [Lm, La, Lc, Ln, Lt, Ld, Lr, Li, true_or, or_true, true_and, and_true]); omega) | (simp <;> fail) | skip) [runM_nil]
        refine hK _ _ ?_
        clear hK K
        refine pwp_ret ⟨.inr rfl, _, _, (by simp (disch := first | (refine Ok.mk ?_; (try simp only [Lm, La, Lc, Ln, Lt, Ld, Lr, Li, true_or, or_true, true_and, and_true]); omega) | (simp <;> fail) | skip) [runM_nil, resL, hn]; rfl), .refl _, by simp (disch := first | (refine Ok.mk ?_; (try simp only [Lm, La, Lc, Ln, Lt, Ld, Lr, Li, true_or, or_true, true_and, and_true]); omega) | (simp <;> fail) | skip) [resV, hn], rfl⟩
      | true =>
        simp only [enV] at c1 c2
        first | refine pwp_sr ?_ | refine pwp_regionM ?_
        intro K hK
        simp (disch := first | (refine Ok.mk ?_; (try simp only [Lm, La, Lc, Ln, Lt, Ld, Lr, Li, true_or, or_true, true_and, and_true]); omega) | (simp <;> fail) | skip) [runM_nil, hge2, enV, h1, h4]
        refine useP (c1) ?_
        simp (disch := first | (refine Ok.mk ?_; (try simp only [Lm, La, Lc, Ln, Lt, Ld, Lr, Li, true_or, or_true, true_and, and_true]); omega) | (simp <;> fail) | skip) [runM_nil, hge2, enV, h1, h4]
        refine useP (c2) ?_
        simp (disch := first | (refine Ok.mk ?_; (try simp only [Lm, La, Lc, Ln, Lt, Ld, Lr, Li, true_or, or_true, true_and, and_true]); omega) | (simp <;> fail) | skip) [runM_nil, hge2, enV, h1, h4]
        refine hK _ _ ?_
        clear hK K
        refine pwp_cF (by simp) (pwp_skip ?_)
        first | refine pwp_sr ?_ | refine pwp_regionM ?_
        intro K hK
        simp (disch := first | (refine Ok.mk ?_; (try simp only [Lm, La, Lc, Ln, Lt, Ld, Lr, Li, true_or, or_true, true_and, and_true]); omega) | (simp <;> fail) | skip) [runM_nil]
        refine hK _ _ ?_
        clear hK K
        refine ⟨l.length - (i + 1), by omega, _, .refl _, i + 1, by omega, by omega, ?_, rfl, rfl, by simp [keepL_MS, keepA, getS]⟩
        intro j h hj
        rcases (show j < i ∨ j = i by omega) with q | rfl
        · exact hq j h q
        · rw [hei]; simp [okS, h1, h4]
  · obtain rfl : i = l.length := by omega
    have hs : smallJ l = true := smallJ_iff.2 ⟨hi60, fun e he => by
      obtain ⟨j, hj, rfl⟩ := List.getElem_of_mem he
      exact hq j hj hj⟩
    refine pwp_seq ?_
    first | refine pwp_sr ?_ | refine pwp_regionM ?_
    intro K hK
    simp (disch := first | (refine Ok.mk ?_; (try simp only [Lm, La, Lc, Ln, Lt, Ld, Lr, Li, true_or, or_true, true_and, and_true]); omega) | (simp <;> fail) | skip) [runM_nil]
    refine hK _ _ ?_
    clear hK K
    refine pwp_cF (by simp) (pwp_exit ?_)
    first | refine pwp_sr ?_ | refine pwp_regionM ?_
    intro K hK
    simp (disch := first | (refine Ok.mk ?_; (try simp only [Lm, La, Lc, Ln, Lt, Ld, Lr, Li, true_or, or_true, true_and, and_true]); omega) | (simp <;> fail) | skip) [runM_nil]
    refine hK _ _ ?_
    clear hK K
    refine pwp_ret ⟨.inr rfl, _, _, (by simp (disch := first | (refine Ok.mk ?_; (try simp only [Lm, La, Lc, Ln, Lt, Ld, Lr, Li, true_or, or_true, true_and, and_true]); omega) | (simp <;> fail) | skip) [runM_nil, resL, hs]; rfl), .refl _, by simp (disch := first | (refine Ok.mk ?_; (try simp only [Lm, La, Lc, Ln, Lt, Ld, Lr, Li, true_or, or_true, true_and, and_true]); omega) | (simp <;> fail) | skip) [resV, hs], rfl⟩
def saysJ (l : List En) (t y : Int) : Bool := l.any fun e => decide (e.k = 2) && (decide (e.t = t) && decide (e.y = y))
set_option maxRecDepth 8000 in
set_option maxHeartbeats 4000000 in
theorem says_ok {l : List En} (hl : l.length ≤ 9223372036854775807) {o : Bool} (t y : Int) : PSpec Try.prog 14 [.lst 4 (l.map enV) o, .int .i64 t, .int .i64 y] (.bool (saysJ l t y)) := by
  intro H
  refine spec_of t14 (by simp [p14]) ?_
  simp only [p14]
  first | refine pwp_sr ?_ | refine pwp_regionM ?_
  intro K hK
  simp (disch := first | (refine Ok.mk ?_; (try simp only [Lm, La, Lc, Ln, Lt, Ld, Lr, Li, true_or, or_true, true_and, and_true]); omega) | (simp <;> fail) | skip) [runM_nil]
  refine hK _ _ ?_
  clear hK K
  refine pwp_seq (pwp_seq ?_)
  first | refine pwp_sr ?_ | refine pwp_regionM ?_
  intro K hK
  simp (disch := first | (refine Ok.mk ?_; (try simp only [Lm, La, Lc, Ln, Lt, Ld, Lr, Li, true_or, or_true, true_and, and_true]); omega) | (simp <;> fail) | skip) [runM_nil]
  refine hK _ _ ?_
  clear hK K
  refine pwp_block ?_
  refine pwp_loopK [0, 1, 2, 7] (fun m st H' => ∃ i, i ≤ l.length ∧ saysJ l t y = saysJ (l.drop i) t y ∧ m = l.length - i ∧ H' = H ∧ st = MS 38 [(0, .lst 4 (l.map enV) o), (1, .int .i64 t), (2, .int .i64 y), (7, .int .i64 i)]) (n := l.length)
    ⟨_, .refl _, 0, Nat.zero_le _, rfl, rfl, rfl, by simp [keepL_MS, keepA, getS]⟩ ?_
  rintro m st H1 ⟨i, hi, hq, rfl, rfl, rfl⟩
  by_cases hlt : i < l.length
  · have hge2 : l[i]? = some l[i] := List.getElem?_eq_getElem hlt
    have hd : l.drop i = l[i] :: l.drop (i + 1) := List.drop_eq_getElem_cons hlt
    generalize hei : l[i] = e at *
    rw [hd] at hq
    simp only [saysJ, List.any_cons] at hq
    refine pwp_seq ?_
    first | refine pwp_sr ?_ | refine pwp_regionM ?_
    intro K hK
    simp (disch := first | (refine Ok.mk ?_; (try simp only [Lm, La, Lc, Ln, Lt, Ld, Lr, Li, true_or, or_true, true_and, and_true]); omega) | (simp <;> fail) | skip) [runM_nil]
    refine hK _ _ ?_
    clear hK K
    refine pwp_cT (by simp) (pwp_skip ?_)
    refine pwp_seq (pwp_block ?_)
    by_cases h : e.k = 2 ∧ e.t = t ∧ e.y = y
    · have hn : saysJ l t y = true := by rw [saysJ, hq]; simp [h.1, h.2.1, h.2.2]
      obtain ⟨h1, h2, h3⟩ := h
      first | refine pwp_sr ?_ | refine pwp_regionM ?_
      intro K hK
      simp (disch := first | (refine Ok.mk ?_; (try simp only [Lm, La, Lc, Ln, Lt, Ld, Lr, Li, true_or, or_true, true_and, and_true]); omega) | (simp <;> fail) | skip) [runM_nil, hge2, enV, h1, h2, h3]
      refine hK _ _ ?_
      clear hK K
      refine pwp_cT (by simp) ?_
      first | refine pwp_sr ?_ | refine pwp_regionM ?_
      intro K hK
      simp (disch := first | (refine Ok.mk ?_; (try simp only [Lm, La, Lc, Ln, Lt, Ld, Lr, Li, true_or, or_true, true_and, and_true]); omega) | (simp <;> fail) | skip) [runM_nil]
      refine hK _ _ ?_
      clear hK K
      refine pwp_ret ⟨.inr rfl, _, _, (by simp (disch := first | (refine Ok.mk ?_; (try simp only [Lm, La, Lc, Ln, Lt, Ld, Lr, Li, true_or, or_true, true_and, and_true]); omega) | (simp <;> fail) | skip) [runM_nil, resL, hn]; rfl), .refl _, by simp (disch := first | (refine Ok.mk ?_; (try simp only [Lm, La, Lc, Ln, Lt, Ld, Lr, Li, true_or, or_true, true_and, and_true]); omega) | (simp <;> fail) | skip) [resV, hn], rfl⟩
    · have hg : saysJ l t y = saysJ (l.drop (i + 1)) t y := by
        rw [saysJ, hq, saysJ]
        have : (decide (e.k = 2) && (decide (e.t = t) && decide (e.y = y))) = false := by
          cases hx : (decide (e.k = 2) && (decide (e.t = t) && decide (e.y = y))) with
          | false => rfl
          | true => simp at hx; exact absurd hx h
        rw [this, Bool.false_or]
      by_cases h1 : e.k = 2
      · by_cases h2 : e.t = t
        · have h3 : ¬ e.y = y := fun h3 => h ⟨h1, h2, h3⟩
          first | refine pwp_sr ?_ | refine pwp_regionM ?_
          intro K hK
          simp (disch := first | (refine Ok.mk ?_; (try simp only [Lm, La, Lc, Ln, Lt, Ld, Lr, Li, true_or, or_true, true_and, and_true]); omega) | (simp <;> fail) | skip) [runM_nil, hge2, enV, h1, h2, h3]
          refine hK _ _ ?_
          clear hK K
          refine pwp_cF (by simp) (pwp_skip ?_)
          first | refine pwp_sr ?_ | refine pwp_regionM ?_
          intro K hK
          simp (disch := first | (refine Ok.mk ?_; (try simp only [Lm, La, Lc, Ln, Lt, Ld, Lr, Li, true_or, or_true, true_and, and_true]); omega) | (simp <;> fail) | skip) [runM_nil]
          refine hK _ _ ?_
          clear hK K
          exact ⟨l.length - (i + 1), by omega, _, .refl _, i + 1, by omega, hg, rfl, rfl, by simp [keepL_MS, keepA, getS]⟩
        · first | refine pwp_sr ?_ | refine pwp_regionM ?_
          intro K hK
          simp (disch := first | (refine Ok.mk ?_; (try simp only [Lm, La, Lc, Ln, Lt, Ld, Lr, Li, true_or, or_true, true_and, and_true]); omega) | (simp <;> fail) | skip) [runM_nil, hge2, enV, h1, h2]
          refine hK _ _ ?_
          clear hK K
          refine pwp_cF (by simp) (pwp_skip ?_)
          first | refine pwp_sr ?_ | refine pwp_regionM ?_
          intro K hK
          simp (disch := first | (refine Ok.mk ?_; (try simp only [Lm, La, Lc, Ln, Lt, Ld, Lr, Li, true_or, or_true, true_and, and_true]); omega) | (simp <;> fail) | skip) [runM_nil]
          refine hK _ _ ?_
          clear hK K
          exact ⟨l.length - (i + 1), by omega, _, .refl _, i + 1, by omega, hg, rfl, rfl, by simp [keepL_MS, keepA, getS]⟩
      · first | refine pwp_sr ?_ | refine pwp_regionM ?_
        intro K hK
        simp (disch := first | (refine Ok.mk ?_; (try simp only [Lm, La, Lc, Ln, Lt, Ld, Lr, Li, true_or, or_true, true_and, and_true]); omega) | (simp <;> fail) | skip) [runM_nil, hge2, enV, h1]
        refine hK _ _ ?_
        clear hK K
        refine pwp_cF (by simp) (pwp_skip ?_)
        first | refine pwp_sr ?_ | refine pwp_regionM ?_
        intro K hK
        simp (disch := first | (refine Ok.mk ?_; (try simp only [Lm, La, Lc, Ln, Lt, Ld, Lr, Li, true_or, or_true, true_and, and_true]); omega) | (simp <;> fail) | skip) [runM_nil]
        refine hK _ _ ?_
        clear hK K
        exact ⟨l.length - (i + 1), by omega, _, .refl _, i + 1, by omega, hg, rfl, rfl, by simp [keepL_MS, keepA, getS]⟩
  · obtain rfl : i = l.length := by omega
    rw [List.drop_length] at hq
    have hs : saysJ l t y = false := by rw [hq]; rfl
    refine pwp_seq ?_
    first | refine pwp_sr ?_ | refine pwp_regionM ?_
    intro K hK
    simp (disch := first | (refine Ok.mk ?_; (try simp only [Lm, La, Lc, Ln, Lt, Ld, Lr, Li, true_or, or_true, true_and, and_true]); omega) | (simp <;> fail) | skip) [runM_nil]
    refine hK _ _ ?_
    clear hK K
    refine pwp_cF (by simp) (pwp_exit ?_)
    first | refine pwp_sr ?_ | refine pwp_regionM ?_
    intro K hK
    simp (disch := first | (refine Ok.mk ?_; (try simp only [Lm, La, Lc, Ln, Lt, Ld, Lr, Li, true_or, or_true, true_and, and_true]); omega) | (simp <;> fail) | skip) [runM_nil]
    refine hK _ _ ?_
    clear hK K
    refine pwp_ret ⟨.inr rfl, _, _, (by simp (disch := first | (refine Ok.mk ?_; (try simp only [Lm, La, Lc, Ln, Lt, Ld, Lr, Li, true_or, or_true, true_and, and_true]); omega) | (simp <;> fail) | skip) [runM_nil, resL, hs]; rfl), .refl _, by simp (disch := first | (refine Ok.mk ?_; (try simp only [Lm, La, Lc, Ln, Lt, Ld, Lr, Li, true_or, or_true, true_and, and_true]); omega) | (simp <;> fail) | skip) [resV, hs], rfl⟩
end Go.Proofs.Ytibmolekndeofaa.E
/- What is written is read again. -/
namespace Go.Proofs.Ytibmolekndeofaa.E
open Go Go.RowKit Go.Proofs
set_option linter.unusedVariables false
set_option linter.unusedSimpArgs false
theorem vframe_enc {e : En} (h : mayJ e = true) (r : List Nat) : vframe (encJ e ++ r) 100 = (zJ e, r, 0) := by
  have hz := (zJ_wf h).2
  have hv : vtake (encJ e ++ r) = ((zJ e).length, zJ e ++ r, 0) := by rw [encJ, List.append_assoc, vtake_vb (by omega)]
  have h100 : ¬ ((100 : Int) < ((zJ e).length : Nat)) := by omega
  rw [vframe, hv]
  simp [h100]
theorem entP_z {e : En} (h : mayJ e = true) : entP (zJ e) = (e, true) := by
  have ho := open_sealed tbl (bodyJ e)
  rw [zJ]
  simp only [entP, ho]
  obtain ⟨k, t, y, w, rfl, h1, h2, h3, h4⟩ := may_nats h
  simp only [bodyJ, Int.toNat_natCast]
  have e3 := vtake_vb (n := w) (by omega) []
  rw [List.append_nil] at e3
  have e2 := vtake_vb (n := y) (by omega) (vb w)
  have e1 := vtake_vb (n := t) (by omega) (vb y ++ vb w)
  rw [if_neg (by simp)]
  simp only [List.cons_append, List.nil_append, List.append_assoc, entB, e1, e2, e3]
  rw [if_neg (by omega), if_neg (by omega), if_neg (by omega)]
  simp [h]
theorem readJ_enc {e : En} (h : mayJ e = true) (r : List Nat) : readJ (encJ e ++ r) = (e :: (readJ r).1, (readJ r).2) := by
  have hv := vframe_enc h r
  have hne : encJ e ++ r ≠ [] := by
    intro h0
    have := vb_length_pos (zJ e).length
    rw [encJ] at h0
    cases hq : vb (zJ e).length with
    | nil => rw [hq] at this; simp at this
    | cons a b => rw [hq] at h0; cases h0
  rw [readJ_go hne (by rw [hv]) (by rw [hv]; simp only [entP_z h]), hv]
  simp only [entP_z h]
theorem readJ_nil : readJ [] = ([], []) := readJ_stop (.inl rfl)
/-- Entries as a journal. -/
def jnl (l : List En) : List Nat := l.flatMap encJ
theorem readJ_jnl : ∀ {l : List En}, (∀ e ∈ l, mayJ e = true) → ∀ r, readJ (jnl l ++ r) = (l ++ (readJ r).1, (readJ r).2)
  | [], _, r => by simp [jnl]
  | e :: l, h, r => by
    have hj : jnl (e :: l) ++ r = encJ e ++ (jnl l ++ r) := by simp [jnl]
    rw [hj, readJ_enc (h e (List.mem_cons_self ..)), readJ_jnl (fun x hx => h x (List.mem_cons_of_mem _ hx)) r]
    rfl
theorem encJ_wf {e : En} (h : mayJ e = true) : (∀ x ∈ encJ e, x < 256) ∧ (encJ e).length ≤ 45 := by
  obtain ⟨h1, h2⟩ := zJ_wf h
  have := vb_length_le10 (n := (zJ e).length) (by omega)
  refine ⟨fun x hx => ?_, by rw [encJ, La]; omega⟩
  rcases List.mem_append.1 hx with hx | hx
  · exact vb_lt _ x hx
  · exact h1 x hx
theorem jnl_wf : ∀ {l : List En}, (∀ e ∈ l, mayJ e = true) → (∀ x ∈ jnl l, x < 256) ∧ (jnl l).length ≤ 45 * l.length
  | [], _ => ⟨(fun x hx => by cases hx), Nat.zero_le _⟩
  | e :: l, h => by
    obtain ⟨h1, h2⟩ := encJ_wf (h e (List.mem_cons_self ..))
    obtain ⟨g1, g2⟩ := jnl_wf fun x hx => h x (List.mem_cons_of_mem _ hx)
    have hj : jnl (e :: l) = encJ e ++ jnl l := by simp [jnl]
    rw [hj]
    refine ⟨fun x hx => ?_, by rw [La, Lc]; omega⟩
    rcases List.mem_append.1 hx with hx | hx
    · exact h1 x hx
    · exact g1 x hx
set_option maxRecDepth 8000 in
set_option maxHeartbeats 4000000 in
theorem alive_ok : PSpec Try.prog 8 [] (.bool true) := by
  intro H
  have c1 := come_ok (l := [⟨1, 2, 1, 0⟩, ⟨2, 1, 0, 3⟩]) (by decide) (by simp) (o := false)
  have hcm : comeJ [⟨1, 2, 1, 0⟩, ⟨2, 1, 0, 3⟩] = some ⟨[-1, 0], [-1, 3], [-1], 0, 0⟩ := by rfl
  rw [hcm] at c1
  have c2 := put_ok26 (s := 0) (xs := []) (o := false) (b := []) rfl (.inr rfl) (by simp) ⟨5, 0, 0, 0⟩
  have c3 := put_ok26 (s := 0) (xs := []) (o := false) (b := []) rfl (.inr rfl) (by simp) ⟨0, 0, 0, 0⟩
  have m5 : mayJ ⟨5, 0, 0, 0⟩ = true := by decide
  have m0 : mayJ ⟨0, 0, 0, 0⟩ = false := by decide
  have e2 : putJ [] ⟨5, 0, 0, 0⟩ = (encJ ⟨5, 0, 0, 0⟩, 0) := by simp [putJ, m5]
  have e3 : putJ [] ⟨0, 0, 0, 0⟩ = ([], 1) := by simp [putJ, m0]
  rw [e2] at c2
  rw [e3] at c3
  obtain ⟨w1, w2⟩ := encJ_wf m5
  have hr := readJ_enc m5 []
  rw [readJ_nil, List.append_nil] at hr
  generalize encJ ⟨5, 0, 0, 0⟩ = b at *
  have c4 := read_ok26 (s := 1) (xs := b.map u8) (o := false) (b := b) rfl (.inl rfl) w1 (by omega)
  rw [hr] at c4
  simp [enV, stJ, iV, bV] at c1 c2 c3 c4
  refine spec_of t8 (by simp [p8]) ?_
  simp only [p8]
  first | refine pwp_sr ?_ | refine pwp_regionM ?_
  intro K hK
  simp (disch := first | (refine Ok.mk ?_; (try simp only [Lm, La, Lc, Ln, Lt, Ld, Lr, Li, true_or, or_true, true_and, and_true]); omega) | (simp <;> fail) | skip) [runM_nil]
  refine hK _ _ ?_
  clear hK K
  first | refine pwp_sr ?_ | refine pwp_regionM ?_
  intro K hK
  simp (disch := first | (refine Ok.mk ?_; (try simp only [Lm, La, Lc, Ln, Lt, Ld, Lr, Li, true_or, or_true, true_and, and_true]); omega) | (simp <;> fail) | skip) [runM_nil]
  refine useP (c1) ?_
  simp (disch := first | (refine Ok.mk ?_; (try simp only [Lm, La, Lc, Ln, Lt, Ld, Lr, Li, true_or, or_true, true_and, and_true]); omega) | (simp <;> fail) | skip) [runM_nil]
  intro b1 h_b1
  try simp (disch := first | (refine Ok.mk ?_; (try simp only [Lm, La, Lc, Ln, Lt, Ld, Lr, Li, true_or, or_true, true_and, and_true]); omega) | (simp <;> fail) | skip) [runM_nil]
  refine hK _ _ ?_
  clear hK K
  first | refine pwp_sr ?_ | refine pwp_regionM ?_
  intro K hK
  simp (disch := first | (refine Ok.mk ?_; (try simp only [Lm, La, Lc, Ln, Lt, Ld, Lr, Li, true_or, or_true, true_and, and_true]); omega) | (simp <;> fail) | skip) [runM_nil]
  refine useP (c2) ?_
  simp (disch := first | (refine Ok.mk ?_; (try simp only [Lm, La, Lc, Ln, Lt, Ld, Lr, Li, true_or, or_true, true_and, and_true]); omega) | (simp <;> fail) | skip) [runM_nil]
  refine hK _ _ ?_
  clear hK K
  first | refine pwp_sr ?_ | refine pwp_regionM ?_
  intro K hK
  simp (disch := first | (refine Ok.mk ?_; (try simp only [Lm, La, Lc, Ln, Lt, Ld, Lr, Li, true_or, or_true, true_and, and_true]); omega) | (simp <;> fail) | skip) [runM_nil]
  refine useP (c3) ?_
  simp (disch := first | (refine Ok.mk ?_; (try simp only [Lm, La, Lc, Ln, Lt, Ld, Lr, Li, true_or, or_true, true_and, and_true]); omega) | (simp <;> fail) | skip) [runM_nil]
  refine hK _ _ ?_
  clear hK K
  first | refine pwp_sr ?_ | refine pwp_regionM ?_
  intro K hK
  simp (disch := first | (refine Ok.mk ?_; (try simp only [Lm, La, Lc, Ln, Lt, Ld, Lr, Li, true_or, or_true, true_and, and_true]); omega) | (simp <;> fail) | skip) [runM_nil]
  refine useP (c4) ?_
  simp (disch := first | (refine Ok.mk ?_; (try simp only [Lm, La, Lc, Ln, Lt, Ld, Lr, Li, true_or, or_true, true_and, and_true]); omega) | (simp <;> fail) | skip) [runM_nil]
  refine hK _ _ ?_
  clear hK K
  first | refine pwp_sr ?_ | refine pwp_regionM ?_
  intro K hK
  simp (disch := first | (refine Ok.mk ?_; (try simp only [Lm, La, Lc, Ln, Lt, Ld, Lr, Li, true_or, or_true, true_and, and_true]); omega) | (simp <;> fail) | skip) [runM_nil]
  refine hK _ _ ?_
  clear hK K
  refine pwp_ret ⟨.inr rfl, _, _, (by simp (disch := first | (refine Ok.mk ?_; (try simp only [Lm, La, Lc, Ln, Lt, Ld, Lr, Li, true_or, or_true, true_and, and_true]); omega) | (simp <;> fail) | skip) [runM_nil, resL]; rfl), (.cons _ (.refl _)), by simp (disch := first | (refine Ok.mk ?_; (try simp only [Lm, La, Lc, Ln, Lt, Ld, Lr, Li, true_or, or_true, true_and, and_true]); omega) | (simp <;> fail) | skip) [resV], rfl⟩
end Go.Proofs.Ytibmolekndeofaa.E
/- What stays, in plain terms. -/
namespace Go.Proofs.Ytibmolekndeofaa.E
open Go Go.RowKit Go.Proofs
set_option linter.unusedVariables false
set_option linter.unusedSimpArgs false
structure Vw where
  bg : Bool
  m : Int
  p : Int
  dn : List Int
  bw : List Int
  nm : List Int
  en : Int
  er : Int
def vw : Option St → Vw
  | none => ⟨false, 0, 0, [], [], [], 0, 0⟩
  | some s => ⟨true, s.dn.length, s.nm.length, s.dn, s.bw, s.nm, s.en, s.er⟩
def vc (v : Vw) : List PV := [.bool v.bg, .int .i64 v.m, .int .i64 v.p, .lst 1 (v.dn.map iV) false, .lst 1 (v.bw.map iV) false, .lst 1 (v.nm.map iV) false, .int .i64 v.en, .int .i64 v.er]
theorem stJ_vw (o : Option St) : stJ o = .agg (vc (vw o)) := by cases o <;> rfl
/-- What a step leaves. -/
def Keeps (A B : Vw) : Prop := (A.bg = true → B.bg = true ∧ A.m = B.m ∧ A.p = B.p ∧ (B.nm.length : Int) = A.p) ∧ (A.en ≠ 0 → A.en = B.en ∧ A.er = B.er) ∧
  ∀ (p : Nat) x y, A.nm[p]? = some x → B.nm[p]? = some y → 0 ≤ x → x = y
theorem keeps_refl (o : Option St) : Keeps (vw o) (vw o) := by
  refine ⟨fun h => ?_, fun _ => ⟨rfl, rfl⟩, fun p x y h1 h2 _ => Option.some.inj (h1.symm.trans h2)⟩
  cases o with
  | none => cases h
  | some s => exact ⟨rfl, rfl, rfl, rfl⟩
theorem keeps_step (e : En) (o : Option St) : Keeps (vw o) (vw (stepJ e o)) := by
  cases o with
  | none => exact ⟨fun h => by simp [vw] at h, fun h => by simp [vw] at h, fun p x y h1 => by simp [vw] at h1⟩
  | some s =>
    rw [step_some]
    split
    · exact keeps_refl _
    split
    · obtain ⟨l1, l2⟩ := noteL_len e s.dn s.bw
      exact ⟨fun _ => ⟨rfl, by simp [vw, noteS, l1], rfl, rfl⟩, fun _ => ⟨rfl, rfl⟩, fun p x y h1 h2 _ => Option.some.inj (h1.symm.trans h2)⟩
    split
    · have l1 := nameL_len e s.nm
      refine ⟨fun _ => ⟨rfl, rfl, by simp [vw, nameS, l1], by simp [vw, nameS, l1]⟩, fun _ => ⟨rfl, rfl⟩, fun p x y h1 h2 h3 => ?_⟩
      simp only [vw, nameS, nameL] at h1 h2
      split at h2
      · rename_i hc
        by_cases hp : p = e.t.toNat
        · subst hp
          rw [hc.2.2] at h1
          cases h1
          omega
        · rw [List.getElem?_set_ne (Ne.symm hp)] at h2
          exact Option.some.inj (h1.symm.trans h2)
      · exact Option.some.inj (h1.symm.trans h2)
    split
    · refine ⟨fun _ => ⟨rfl, rfl, rfl, rfl⟩, fun h => ?_, fun p x y h1 h2 _ => Option.some.inj (h1.symm.trans h2)⟩
      simp only [vw] at h
      simp [vw, endS, endL, h]
    · exact keeps_refl _
/-- Who is done, was said to be. -/
def Said (l : List En) (o : Option St) : Prop := ∀ (t : Nat) x, (vw o).dn[t]? = some x → 0 ≤ x → saysJ l t x = true
theorem saysJ_append (l k : List En) (t y : Int) : saysJ (l ++ k) t y = (saysJ l t y || saysJ k t y) := by simp [saysJ]
theorem said_step {l : List En} {o : Option St} (h : Said l o) (e : En) (hm : mayJ e = true) : Said (l ++ [e]) (stepJ e o) := by
  have old : ∀ (t : Nat) x, (vw o).dn[t]? = some x → 0 ≤ x → saysJ (l ++ [e]) t x = true := fun t x h1 h2 => by rw [saysJ_append, h t x h1 h2]; rfl
  intro t x h1 h2
  cases o with
  | none =>
    rw [step_none] at h1
    split at h1
    · simp only [vw, begJ] at h1
      have := List.mem_of_getElem? h1
      simp at this
      omega
    · simp [vw] at h1
  | some s =>
    rw [step_some] at h1
    split at h1
    · exact old t x h1 h2
    split at h1
    · rename_i hk
      simp only [vw, noteS, noteL] at h1
      split at h1
      · exact old t x h1 h2
      split at h1
      · rename_i hk2
        by_cases ht : t = e.t.toNat
        · have hx : x = e.y := by
            subst ht
            rw [List.getElem?_set] at h1
            simp at h1
            exact h1.2.symm
          have h0 := (mayJ_iff.1 hm).2.1.1
          rw [saysJ_append]
          have : saysJ [e] t x = true := by simp [saysJ, hk2, hx]; omega
          rw [this, Bool.or_true]
        · rw [List.getElem?_set_ne (Ne.symm ht)] at h1
          exact old t x h1 h2
      · split at h1
        · by_cases ht : t = e.t.toNat
          · subst ht
            rw [List.getElem?_set] at h1
            simp at h1
            omega
          · rw [List.getElem?_set_ne (Ne.symm ht)] at h1
            exact old t x h1 h2
        · exact old t x h1 h2
    split at h1
    · exact old t x h1 h2
    split at h1
    · exact old t x h1 h2
    · exact old t x h1 h2
theorem said_come {l : List En} (hm : ∀ e ∈ l, mayJ e = true) : ∀ i, i ≤ l.length → Said (l.take i) (comeJ (l.take i)) := by
  intro i
  induction i with
  | zero => intro _ t x h; simp [comeJ, vw] at h
  | succ i ih =>
    intro h
    rw [List.take_succ_eq_append_getElem (by omega), come_snoc]
    exact said_step (ih (by omega)) _ (hm _ (List.getElem_mem _))
theorem keeps_come {l : List En} {i : Nat} (h : i < l.length) : Keeps (vw (comeJ (l.take i))) (vw (comeJ (l.take (i + 1)))) := by
  rw [List.take_succ_eq_append_getElem h, come_snoc]
  exact keeps_step _ _
end Go.Proofs.Ytibmolekndeofaa.E
/- JournalOnce's walk. -/
namespace Go.Proofs.Ytibmolekndeofaa.E
open Go Go.RowKit Go.Proofs
set_option linter.unusedVariables false
set_option linter.unusedSimpArgs false
theorem okS_may {e : En} (h : okS e = true) : mayJ e = true := by simp [okS] at h; exact h.2
theorem small_may {l : List En} (h : smallJ l = true) : ∀ e ∈ l, mayJ e = true := fun e he => okS_may ((smallJ_iff.1 h).2 e he)
theorem vw_fit {o : Option St} (h : fitJ o) : (vw o).nm.length ≤ 10000 ∧ (vw o).dn.length ≤ 10000 := by
  cases o with
  | none => exact ⟨Nat.zero_le _, Nat.zero_le _⟩
  | some s => exact ⟨(h s rfl).2.2, (h s rfl).2.1⟩
set_option maxRecDepth 8000 in
set_option maxHeartbeats 16000000 in
theorem once_ok {l : List En} (hl : l.length ≤ 9223372036854775807) {o : Bool} : PSpec Try.prog 4 [.lst 4 (l.map enV) o] (.bool true) := by
  intro H
  have cs := small_ok hl (o := false)
  have ca := alive_ok
  refine spec_of t4 (by simp [p4]) ?_
  simp only [p4]
  first | refine pwp_sr ?_ | refine pwp_regionM ?_
  intro K hK
  simp (disch := first | (refine Ok.mk ?_; (try simp only [Lm, La, Lc, Ln, Lt, Ld, Lr, Li, true_or, or_true, true_and, and_true]); omega) | (simp <;> fail) | skip) [runM_nil]
  refine hK _ _ ?_
  clear hK K
  cases hs : smallJ l with
  | false =>
    first | refine pwp_rif ?_ | refine pwp_rifE ?_
    intro K hK
    simp (disch := first | (refine Ok.mk ?_; (try simp only [Lm, La, Lc, Ln, Lt, Ld, Lr, Li, true_or, or_true, true_and, and_true]); omega) | (simp <;> fail) | skip) [runM_nil, hs]
    refine useP (cs) ?_
    simp (disch := first | (refine Ok.mk ?_; (try simp only [Lm, La, Lc, Ln, Lt, Ld, Lr, Li, true_or, or_true, true_and, and_true]); omega) | (simp <;> fail) | skip) [runM_nil, hs]
    refine hK _ _ ?_
    clear hK K
    refine ifT (by simp (disch := first | (refine Ok.mk ?_; (try simp only [Lm, La, Lc, Ln, Lt, Ld, Lr, Li, true_or, or_true, true_and, and_true]); omega) | (simp <;> fail) | skip) [runM_nil]) ?_
    first | refine pwp_sr ?_ | refine pwp_regionM ?_
    intro K hK
    simp (disch := first | (refine Ok.mk ?_; (try simp only [Lm, La, Lc, Ln, Lt, Ld, Lr, Li, true_or, or_true, true_and, and_true]); omega) | (simp <;> fail) | skip) [runM_nil]
    refine useP (ca) ?_
    simp (disch := first | (refine Ok.mk ?_; (try simp only [Lm, La, Lc, Ln, Lt, Ld, Lr, Li, true_or, or_true, true_and, and_true]); omega) | (simp <;> fail) | skip) [runM_nil]
    refine hK _ _ ?_
    clear hK K
    refine pwp_ret ⟨.inr rfl, _, _, (by simp (disch := first | (refine Ok.mk ?_; (try simp only [Lm, La, Lc, Ln, Lt, Ld, Lr, Li, true_or, or_true, true_and, and_true]); omega) | (simp <;> fail) | skip) [runM_nil, resL]; rfl), .refl _, by simp (disch := first | (refine Ok.mk ?_; (try simp only [Lm, La, Lc, Ln, Lt, Ld, Lr, Li, true_or, or_true, true_and, and_true]); omega) | (simp <;> fail) | skip) [resV], rfl⟩
  | true =>
  have hm := small_may hs
  obtain ⟨h60, _⟩ := smallJ_iff.1 hs
  first | refine pwp_rif ?_ | refine pwp_rifE ?_
  intro K hK
  simp (disch := first | (refine Ok.mk ?_; (try simp only [Lm, La, Lc, Ln, Lt, Ld, Lr, Li, true_or, or_true, true_and, and_true]); omega) | (simp <;> fail) | skip) [runM_nil, hs]
  refine useP (cs) ?_
  simp (disch := first | (refine Ok.mk ?_; (try simp only [Lm, La, Lc, Ln, Lt, Ld, Lr, Li, true_or, or_true, true_and, and_true]); omega) | (simp <;> fail) | skip) [runM_nil, hs]
  refine hK _ _ ?_
  clear hK K
  refine ifF (by simp (disch := first | (refine Ok.mk ?_; (try simp only [Lm, La, Lc, Ln, Lt, Ld, Lr, Li, true_or, or_true, true_and, and_true]); omega) | (simp <;> fail) | skip) [runM_nil]) (pwp_skip ?_)
  clear cs
  refine pwp_seq (pwp_seq ?_)
  first | refine pwp_sr ?_ | refine pwp_regionM ?_
  intro K hK
  simp (disch := first | (refine Ok.mk ?_; (try simp only [Lm, La, Lc, Ln, Lt, Ld, Lr, Li, true_or, or_true, true_and, and_true]); omega) | (simp <;> fail) | skip) [runM_nil]
  refine hK _ _ ?_
  clear hK K
  refine pwp_block ?_
  refine pwp_loopK [0, 3] (fun m st H' => ∃ i, i ≤ l.length ∧ m = l.length - i ∧ H' = H ∧ st = MS 136 [(0, .lst 4 (l.map enV) o), (3, .int .i64 i)]) (n := l.length)
    ⟨_, .refl _, 0, Nat.zero_le _, rfl, rfl, by simp [keepL_MS, keepA, getS]⟩ ?_
  rintro m st H1 ⟨i, hi, rfl, rfl, rfl⟩
  by_cases hlt : i < l.length
  · have c1 := come_ok (l := l.take i) (fun x hx => hm x (List.mem_of_mem_take hx)) (by rw [Lt]; omega) (o := false)
    have c2 := come_ok (l := l.take (i + 1)) (fun x hx => hm x (List.mem_of_mem_take hx)) (by rw [Lt]; omega) (o := false)
    have hk := keeps_come hlt
    have hsd := said_come hm (i + 1) hlt
    have fA := (vw_fit (fit_come (l := l.take i) fun x hx => hm x (List.mem_of_mem_take hx))).1
    have fB := (vw_fit (fit_come (l := l.take (i + 1)) fun x hx => hm x (List.mem_of_mem_take hx))).2
    rw [stJ_vw, List.map_take] at c1 c2
    unfold Said at hsd
    generalize vw (comeJ (l.take i)) = A at *
    generalize vw (comeJ (l.take (i + 1))) = B at *
    obtain ⟨F1, F2, F3⟩ := hk
    obtain ⟨ab, am, ap, adn, abw, anm, aen, aer⟩ := A
    obtain ⟨bb, bm, bp, bdn, bbw, bnm, ben, ber⟩ := B
    simp only [vc] at c1 c2 F1 F2 F3 hsd fA fB
    refine pwp_seq ?_
    first | refine pwp_sr ?_ | refine pwp_regionM ?_
    intro K hK
    simp (disch := first | (refine Ok.mk ?_; (try simp only [Lm, La, Lc, Ln, Lt, Ld, Lr, Li, true_or, or_true, true_and, and_true]); omega) | (simp <;> fail) | skip) [runM_nil]
    refine hK _ _ ?_
    clear hK K
    refine pwp_cT (by simp) (pwp_skip ?_)
    refine pwp_seq (pwp_block ?_)
    first | refine pwp_sn hmix (by simp [MS_length]) ?_ | refine pwp_drawNS hmix (by simp [MS_length]) ?_
    intro K hK
    simp (disch := first | (refine Ok.mk ?_; (try simp only [Lm, La, Lc, Ln, Lt, Ld, Lr, Li, true_or, or_true, true_and, and_true]); omega) | (simp <;> fail) | skip) [runM_nil, planS_nil]
    refine useDS (c1) ?_
    simp (disch := first | (refine Ok.mk ?_; (try simp only [Lm, La, Lc, Ln, Lt, Ld, Lr, Li, true_or, or_true, true_and, and_true]); omega) | (simp <;> fail) | skip) [runM_nil, planS_nil]
    refine useDS (c2) ?_
    simp (disch := first | (refine Ok.mk ?_; (try simp only [Lm, La, Lc, Ln, Lt, Ld, Lr, Li, true_or, or_true, true_and, and_true]); omega) | (simp <;> fail) | skip) [runM_nil, planS_nil]
    intro b4 h_b4
    try simp (disch := first | (refine Ok.mk ?_; (try simp only [Lm, La, Lc, Ln, Lt, Ld, Lr, Li, true_or, or_true, true_and, and_true]); omega) | (simp <;> fail) | skip) [runM_nil, planS_nil]
    intro b5 h_b5
    have d_b5_b4 : ¬ b4 = b5 := fun e => by subst e; simp [hget] at h_b5
    try simp (disch := first | (refine Ok.mk ?_; (try simp only [Lm, La, Lc, Ln, Lt, Ld, Lr, Li, true_or, or_true, true_and, and_true]); omega) | (simp <;> fail) | skip) [runM_nil, planS_nil, d_b5_b4, Ne.symm d_b5_b4]
    refine hK _ _ ?_
    clear hK K
    have d45 := d_b5_b4
    clear c1 c2
    refine pwp_cut [0, 3, 4, 5] (fun st2 H2 => H2 = (b5, vc ⟨bb, bm, bp, bdn, bbw, bnm, ben, ber⟩) :: (b4, vc ⟨ab, am, ap, adn, abw, anm, aen, aer⟩) :: H1 ∧ st2 = MS 136 [(0, .lst 4 (l.map enV) o), (3, .int .i64 i), (4, .ptr (some (b4, 0))), (5, .ptr (some (b5, 0)))]) ?_ ?_
    · by_cases he : aen = 0
      · subst he
        cases ab with
        | false =>
          first | refine pwp_sr ?_ | refine pwp_regionM ?_
          intro K hK
          simp (disch := first | (refine Ok.mk ?_; (try simp only [Lm, La, Lc, Ln, Lt, Ld, Lr, Li, true_or, or_true, true_and, and_true]); omega) | (simp <;> fail) | skip) [runM_nil, vc, d_b5_b4, Ne.symm d_b5_b4]
          refine hK _ _ ?_
          clear hK K
          refine pwp_cF (by simp) (pwp_skip ?_)
          exact cut_to (by simp [keepA, getS]) (.refl _) ⟨rfl, rfl⟩
        | true =>
          obtain ⟨rfl, rfl, rfl, hnm⟩ := F1 rfl
          first | refine pwp_sr ?_ | refine pwp_regionM ?_
          intro K hK
          simp (disch := first | (refine Ok.mk ?_; (try simp only [Lm, La, Lc, Ln, Lt, Ld, Lr, Li, true_or, or_true, true_and, and_true]); omega) | (simp <;> fail) | skip) [runM_nil, vc, hnm, d_b5_b4, Ne.symm d_b5_b4]
          refine hK _ _ ?_
          clear hK K
          refine pwp_cF (by simp) (pwp_skip ?_)
          exact cut_to (by simp [keepA, getS]) (.refl _) ⟨rfl, rfl⟩
      · obtain ⟨rfl, rfl⟩ := F2 he
        cases ab with
        | false =>
          first | refine pwp_sr ?_ | refine pwp_regionM ?_
          intro K hK
          simp (disch := first | (refine Ok.mk ?_; (try simp only [Lm, La, Lc, Ln, Lt, Ld, Lr, Li, true_or, or_true, true_and, and_true]); omega) | (simp <;> fail) | skip) [runM_nil, he, vc, d_b5_b4, Ne.symm d_b5_b4]
          refine hK _ _ ?_
          clear hK K
          refine pwp_cF (by simp) (pwp_skip ?_)
          exact cut_to (by simp [keepA, getS]) (.refl _) ⟨rfl, rfl⟩
        | true =>
          obtain ⟨rfl, rfl, rfl, hnm⟩ := F1 rfl
          first | refine pwp_sr ?_ | refine pwp_regionM ?_
          intro K hK
          simp (disch := first | (refine Ok.mk ?_; (try simp only [Lm, La, Lc, Ln, Lt, Ld, Lr, Li, true_or, or_true, true_and, and_true]); omega) | (simp <;> fail) | skip) [runM_nil, he, vc, hnm, d_b5_b4, Ne.symm d_b5_b4]
          refine hK _ _ ?_
          clear hK K
          refine pwp_cF (by simp) (pwp_skip ?_)
          exact cut_to (by simp [keepA, getS]) (.refl _) ⟨rfl, rfl⟩
    rintro _ H2 ⟨rfl, rfl⟩
    clear F1 F2
    refine pwp_cut [0, 3, 4, 5] (fun st2 H2 => H2 = (b5, vc ⟨bb, bm, bp, bdn, bbw, bnm, ben, ber⟩) :: (b4, vc ⟨ab, am, ap, adn, abw, anm, aen, aer⟩) :: H1 ∧ st2 = MS 136 [(0, .lst 4 (l.map enV) o), (3, .int .i64 i), (4, .ptr (some (b4, 0))), (5, .ptr (some (b5, 0)))]) ?_ ?_
    · refine pwp_seq ?_
      first | refine pwp_sr ?_ | refine pwp_regionM ?_
      intro K hK
      simp (disch := first | (refine Ok.mk ?_; (try simp only [Lm, La, Lc, Ln, Lt, Ld, Lr, Li, true_or, or_true, true_and, and_true]); omega) | (simp <;> fail) | skip) [runM_nil, d_b5_b4, Ne.symm d_b5_b4]
      refine hK _ _ ?_
      clear hK K
      refine pwp_block ?_
      refine pwp_loopK [0, 3, 4, 5, 6] (fun m st2 H2 => ∃ p : Nat, p ≤ anm.length ∧ m = anm.length - p ∧ H2 = (b5, vc ⟨bb, bm, bp, bdn, bbw, bnm, ben, ber⟩) :: (b4, vc ⟨ab, am, ap, adn, abw, anm, aen, aer⟩) :: H1 ∧ st2 = MS 136 [(0, .lst 4 (l.map enV) o), (3, .int .i64 i), (4, .ptr (some (b4, 0))), (5, .ptr (some (b5, 0))), (6, .int .i64 p)]) (n := anm.length)
        ⟨_, .refl _, 0, Nat.zero_le _, rfl, rfl, by simp [keepL_MS, keepA, getS]⟩ ?_
      rintro m2 st2 H2 ⟨p, hp, rfl, rfl, rfl⟩
      by_cases hpa : p < anm.length ∧ p < bnm.length
      · obtain ⟨hpa, hpb⟩ := hpa
        have gx : anm[p]? = some anm[p] := List.getElem?_eq_getElem hpa
        have gy : bnm[p]? = some bnm[p] := List.getElem?_eq_getElem hpb
        have F := F3 p _ _ gx gy
        generalize anm[p] = x at *
        generalize bnm[p] = y at *
        refine pwp_seq ?_
        first | refine pwp_sr ?_ | refine pwp_regionM ?_
        intro K hK
        simp (disch := first | (refine Ok.mk ?_; (try simp only [Lm, La, Lc, Ln, Lt, Ld, Lr, Li, true_or, or_true, true_and, and_true]); omega) | (simp <;> fail) | skip) [runM_nil, vc, d_b5_b4, Ne.symm d_b5_b4]
        refine hK _ _ ?_
        clear hK K
        refine pwp_cT (by simp) (pwp_skip ?_)
        refine pwp_seq (pwp_block ?_)
        by_cases h0 : 0 ≤ x
        · obtain rfl := F h0
          first | refine pwp_sd hmix ?_ | refine pwp_drawM hmix ?_
          intro K hK
          simp (disch := first | (refine Ok.mk ?_; (try simp only [Lm, La, Lc, Ln, Lt, Ld, Lr, Li, true_or, or_true, true_and, and_true]); omega) | (simp <;> fail) | skip) [runM_nil, vc, gx, gy, iV, h0, d_b5_b4, Ne.symm d_b5_b4]
          refine hK _ _ ?_
          clear hK K
          refine pwp_cF (by simp) (pwp_skip ?_)
          first | refine pwp_sr ?_ | refine pwp_regionM ?_
          intro K hK
          simp (disch := first | (refine Ok.mk ?_; (try simp only [Lm, La, Lc, Ln, Lt, Ld, Lr, Li, true_or, or_true, true_and, and_true]); omega) | (simp <;> fail) | skip) [runM_nil, d_b5_b4, Ne.symm d_b5_b4]
          refine hK _ _ ?_
          clear hK K
          exact ⟨anm.length - (p + 1), by omega, _, .refl _, p + 1, by omega, rfl, rfl, by simp [keepL_MS, keepA, getS]⟩
        · first | refine pwp_sd hmix ?_ | refine pwp_drawM hmix ?_
          intro K hK
          simp (disch := first | (refine Ok.mk ?_; (try simp only [Lm, La, Lc, Ln, Lt, Ld, Lr, Li, true_or, or_true, true_and, and_true]); omega) | (simp <;> fail) | skip) [runM_nil, vc, gx, gy, iV, h0, d_b5_b4, Ne.symm d_b5_b4]
          refine hK _ _ ?_
          clear hK K
          refine pwp_cF (by simp) (pwp_skip ?_)
          first | refine pwp_sr ?_ | refine pwp_regionM ?_
          intro K hK
          simp (disch := first | (refine Ok.mk ?_; (try simp only [Lm, La, Lc, Ln, Lt, Ld, Lr, Li, true_or, or_true, true_and, and_true]); omega) | (simp <;> fail) | skip) [runM_nil, d_b5_b4, Ne.symm d_b5_b4]
          refine hK _ _ ?_
          clear hK K
          exact ⟨anm.length - (p + 1), by omega, _, .refl _, p + 1, by omega, rfl, rfl, by simp [keepL_MS, keepA, getS]⟩
      refine pwp_seq ?_
      by_cases hpa1 : p < anm.length
      · have hpb : ¬ p < bnm.length := fun h => hpa ⟨hpa1, h⟩
        first | refine pwp_sr ?_ | refine pwp_regionM ?_
        intro K hK
        simp (disch := first | (refine Ok.mk ?_; (try simp only [Lm, La, Lc, Ln, Lt, Ld, Lr, Li, true_or, or_true, true_and, and_true]); omega) | (simp <;> fail) | skip) [runM_nil, vc, d_b5_b4, Ne.symm d_b5_b4]
        refine hK _ _ ?_
        clear hK K
        refine pwp_cF (by simp) (pwp_exit ?_)
        exact cut_to (by simp [keepA, getS]) (.refl _) ⟨rfl, rfl⟩
      · first | refine pwp_sr ?_ | refine pwp_regionM ?_
        intro K hK
        simp (disch := first | (refine Ok.mk ?_; (try simp only [Lm, La, Lc, Ln, Lt, Ld, Lr, Li, true_or, or_true, true_and, and_true]); omega) | (simp <;> fail) | skip) [runM_nil, vc, d_b5_b4, Ne.symm d_b5_b4]
        refine hK _ _ ?_
        clear hK K
        refine pwp_cF (by simp) (pwp_exit ?_)
        exact cut_to (by simp [keepA, getS]) (.refl _) ⟨rfl, rfl⟩
    rintro _ H2 ⟨rfl, rfl⟩
    clear F3
    refine pwp_seq ?_
    first | refine pwp_sr ?_ | refine pwp_regionM ?_
    intro K hK
    simp (disch := first | (refine Ok.mk ?_; (try simp only [Lm, La, Lc, Ln, Lt, Ld, Lr, Li, true_or, or_true, true_and, and_true]); omega) | (simp <;> fail) | skip) [runM_nil, d_b5_b4, Ne.symm d_b5_b4]
    refine hK _ _ ?_
    clear hK K
    refine pwp_block ?_
    refine pwp_loopK [0, 3, 4, 5, 7] (fun m st2 H2 => ∃ t : Nat, t ≤ bdn.length ∧ m = bdn.length - t ∧ H2 = (b5, vc ⟨bb, bm, bp, bdn, bbw, bnm, ben, ber⟩) :: (b4, vc ⟨ab, am, ap, adn, abw, anm, aen, aer⟩) :: H1 ∧ st2 = MS 136 [(0, .lst 4 (l.map enV) o), (3, .int .i64 i), (4, .ptr (some (b4, 0))), (5, .ptr (some (b5, 0))), (7, .int .i64 t)]) (n := bdn.length)
      ⟨_, .refl _, 0, Nat.zero_le _, rfl, rfl, by simp [keepL_MS, keepA, getS]⟩ ?_
    rintro m2 st2 H2 ⟨t, ht, rfl, rfl, rfl⟩
    by_cases hta : t < bdn.length
    · have gx : bdn[t]? = some bdn[t] := List.getElem?_eq_getElem hta
      have F := hsd t _ gx
      generalize bdn[t] = x at *
      have cy := says_ok (l := l.take (i + 1)) (by rw [Lt]; omega) (o := false) t x
      rw [List.map_take] at cy
      refine pwp_seq ?_
      first | refine pwp_sr ?_ | refine pwp_regionM ?_
      intro K hK
      simp (disch := first | (refine Ok.mk ?_; (try simp only [Lm, La, Lc, Ln, Lt, Ld, Lr, Li, true_or, or_true, true_and, and_true]); omega) | (simp <;> fail) | skip) [runM_nil, vc, d_b5_b4, Ne.symm d_b5_b4]
      refine hK _ _ ?_
      clear hK K
      refine pwp_cT (by simp) (pwp_skip ?_)
      refine pwp_seq (pwp_block ?_)
      by_cases h0 : 0 ≤ x
      · rw [F h0] at cy
        first | refine pwp_sd hmix ?_ | refine pwp_drawM hmix ?_
        intro K hK
        simp (disch := first | (refine Ok.mk ?_; (try simp only [Lm, La, Lc, Ln, Lt, Ld, Lr, Li, true_or, or_true, true_and, and_true]); omega) | (simp <;> fail) | skip) [runM_nil, vc, gx, iV, h0, d_b5_b4, Ne.symm d_b5_b4]
        refine useD (cy) ?_
        simp (disch := first | (refine Ok.mk ?_; (try simp only [Lm, La, Lc, Ln, Lt, Ld, Lr, Li, true_or, or_true, true_and, and_true]); omega) | (simp <;> fail) | skip) [runM_nil, vc, gx, iV, h0, d_b5_b4, Ne.symm d_b5_b4]
        refine hK _ _ ?_
        clear hK K
        refine pwp_cF (by simp) (pwp_skip ?_)
        first | refine pwp_sr ?_ | refine pwp_regionM ?_
        intro K hK
        simp (disch := first | (refine Ok.mk ?_; (try simp only [Lm, La, Lc, Ln, Lt, Ld, Lr, Li, true_or, or_true, true_and, and_true]); omega) | (simp <;> fail) | skip) [runM_nil, d_b5_b4, Ne.symm d_b5_b4]
        refine hK _ _ ?_
        clear hK K
        exact ⟨bdn.length - (t + 1), by omega, _, .refl _, t + 1, by omega, rfl, rfl, by simp [keepL_MS, keepA, getS]⟩
      · first | refine pwp_sd hmix ?_ | refine pwp_drawM hmix ?_
        intro K hK
        simp (disch := first | (refine Ok.mk ?_; (try simp only [Lm, La, Lc, Ln, Lt, Ld, Lr, Li, true_or, or_true, true_and, and_true]); omega) | (simp <;> fail) | skip) [runM_nil, vc, gx, iV, h0, d_b5_b4, Ne.symm d_b5_b4]
        refine hK _ _ ?_
        clear hK K
        refine pwp_cF (by simp) (pwp_skip ?_)
        first | refine pwp_sr ?_ | refine pwp_regionM ?_
        intro K hK
        simp (disch := first | (refine Ok.mk ?_; (try simp only [Lm, La, Lc, Ln, Lt, Ld, Lr, Li, true_or, or_true, true_and, and_true]); omega) | (simp <;> fail) | skip) [runM_nil, d_b5_b4, Ne.symm d_b5_b4]
        refine hK _ _ ?_
        clear hK K
        exact ⟨bdn.length - (t + 1), by omega, _, .refl _, t + 1, by omega, rfl, rfl, by simp [keepL_MS, keepA, getS]⟩
    refine pwp_seq ?_
    first | refine pwp_sr ?_ | refine pwp_regionM ?_
    intro K hK
    simp (disch := first | (refine Ok.mk ?_; (try simp only [Lm, La, Lc, Ln, Lt, Ld, Lr, Li, true_or, or_true, true_and, and_true]); omega) | (simp <;> fail) | skip) [runM_nil, vc, d_b5_b4, Ne.symm d_b5_b4]
    refine hK _ _ ?_
    clear hK K
    refine pwp_cF (by simp) (pwp_exit ?_)
    first | refine pwp_sr ?_ | refine pwp_regionM ?_
    intro K hK
    simp (disch := first | (refine Ok.mk ?_; (try simp only [Lm, La, Lc, Ln, Lt, Ld, Lr, Li, true_or, or_true, true_and, and_true]); omega) | (simp <;> fail) | skip) [runM_nil, d_b5_b4, Ne.symm d_b5_b4]
    refine hK _ _ ?_
    clear hK K
    exact ⟨l.length - (i + 1), by omega, _, .cons _ (.cons _ (.refl _)), i + 1, by omega, rfl, rfl, by simp [keepL_MS, keepA, getS]⟩
  · obtain rfl : i = l.length := by omega
    refine pwp_seq ?_
    first | refine pwp_sr ?_ | refine pwp_regionM ?_
    intro K hK
    simp (disch := first | (refine Ok.mk ?_; (try simp only [Lm, La, Lc, Ln, Lt, Ld, Lr, Li, true_or, or_true, true_and, and_true]); omega) | (simp <;> fail) | skip) [runM_nil]
    refine hK _ _ ?_
    clear hK K
    refine pwp_cF (by simp) (pwp_exit ?_)
    first | refine pwp_sr ?_ | refine pwp_regionM ?_
    intro K hK
    simp (disch := first | (refine Ok.mk ?_; (try simp only [Lm, La, Lc, Ln, Lt, Ld, Lr, Li, true_or, or_true, true_and, and_true]); omega) | (simp <;> fail) | skip) [runM_nil]
    refine useP (ca) ?_
    simp (disch := first | (refine Ok.mk ?_; (try simp only [Lm, La, Lc, Ln, Lt, Ld, Lr, Li, true_or, or_true, true_and, and_true]); omega) | (simp <;> fail) | skip) [runM_nil]
    refine hK _ _ ?_
    clear hK K
    refine pwp_ret ⟨.inr rfl, _, _, (by simp (disch := first | (refine Ok.mk ?_; (try simp only [Lm, La, Lc, Ln, Lt, Ld, Lr, Li, true_or, or_true, true_and, and_true]); omega) | (simp <;> fail) | skip) [runM_nil, resL]; rfl), .refl _, by simp (disch := first | (refine Ok.mk ?_; (try simp only [Lm, La, Lc, Ln, Lt, Ld, Lr, Li, true_or, or_true, true_and, and_true]); omega) | (simp <;> fail) | skip) [resV], rfl⟩
end Go.Proofs.Ytibmolekndeofaa.E
/- What a row hands over, as entries and bytes. -/
namespace Go.Proofs.Ytibmolekndeofaa.E
open Go Go.RowKit Go.Proofs Go.ChangeShapes Go.WideShapes
set_option linter.unusedVariables false
set_option linter.unusedSimpArgs false
theorem rows_of {α : Type} {f : α → PV} {p : α → Prop} {xs : List PV} (h : ∀ x ∈ xs, el true (fun ps => ∃ y, f y = .agg ps ∧ p y) x) : ∃ l : List α, xs = l.map f ∧ ∀ y ∈ l, p y := by
  induction xs with
  | nil => exact ⟨[], rfl, fun c hc => by cases hc⟩
  | cons x xs ih =>
    obtain ⟨l, rfl, hl⟩ := ih fun y hy => h y (List.mem_cons_of_mem _ hy)
    obtain ⟨cs, rfl, y, hy, hp⟩ := h x (List.mem_cons_self ..)
    refine ⟨y :: l, by rw [← hy]; rfl, fun c hc => ?_⟩
    rcases List.mem_cons.1 hc with rfl | hc
    · exact hp
    · exact hl c hc
theorem openEn : OpnV Try.prog 40 4 (fun ps => ∃ x : En, enV x = .agg ps ∧ True) :=
  (OpnV.struct Try.underlying40 (by kernel_rfl) (OpnVF.cons rfl (OpnV.int Try.underlying3 (by kernel_rfl)) (OpnVF.cons rfl (OpnV.int Try.underlying3 (by kernel_rfl)) (OpnVF.cons rfl (OpnV.int Try.underlying3 (by kernel_rfl)) (OpnVF.one rfl (OpnV.int Try.underlying3 (by kernel_rfl))))))).weaken (by
    rintro _ ⟨_, q1, rfl, ⟨a, rfl, _⟩, _, q2, rfl, ⟨b, rfl, _⟩, _, q3, rfl, ⟨c, rfl, _⟩, d, rfl, _⟩
    exact ⟨⟨a, b, c, d⟩, rfl, trivial⟩)
theorem openEns : OpnV Try.prog 22 1 (fun ps => ∃ l : List En, ps = [.lst 4 (l.map enV) false] ∧ l.length ≤ 4500000000000) :=
  (OpnV.slice (B := 32) true Try.underlying22 (by kernel_rfl) (by kernel_rfl) openEn (fun h => by cases h) (by omega)).weaken (by
    rintro _ ⟨xs, rfl, h1, _, h2⟩
    obtain ⟨l, rfl, _⟩ := rows_of h2
    rw [List.length_map] at h1
    exact ⟨l, rfl, by omega⟩)
theorem openInt : OpnV Try.prog 3 1 (fun ps => ∃ n : Int, ps = [.int .i64 n]) := (OpnV.int Try.underlying3 (by kernel_rfl)).weaken (by
  rintro _ ⟨n, rfl, _⟩
  exact ⟨n, rfl⟩)
theorem once_law {l : List En} (hl : l.length ≤ 4500000000000) : PSpec Try.prog 4 [.lst 4 (l.map enV) false] (.bool true) := once_ok (by omega)
end Go.Proofs.Ytibmolekndeofaa.E
/- What a row hands over, as bytes. -/
namespace Go.Proofs.Ytibmolekndeofaa.E
open Go Go.RowKit Go.Proofs Go.ChangeShapes Go.WideShapes
set_option linter.unusedVariables false
set_option linter.unusedSimpArgs false
theorem bytes_of {xs : List PV} (h : ∀ x ∈ xs, el false (fun ps => ∃ n : Int, ps = [.int .u8 n] ∧ (Lit.int .u8 n).wf = true) x) : ∃ l : List Nat, xs = l.map u8 ∧ ∀ x ∈ l, x < 256 := by
  induction xs with
  | nil => exact ⟨[], rfl, fun c hc => by cases hc⟩
  | cons x xs ih =>
    obtain ⟨l, rfl, hl⟩ := ih fun y hy => h y (List.mem_cons_of_mem _ hy)
    obtain ⟨n, e, hn⟩ := h x (List.mem_cons_self ..)
    cases e
    have hw : 0 ≤ n ∧ n ≤ 255 := by simpa [Lit.wf, IntKind.min, IntKind.max, IntKind.signed, IntKind.bits] using hn
    refine ⟨n.toNat :: l, ?_, fun c hc => ?_⟩
    · have : ((n.toNat : Nat) : Int) = n := by omega
      simp [u8, this]
    · rcases List.mem_cons.1 hc with rfl | hc
      · omega
      · exact hl c hc
theorem openBytes : OpnV Try.prog 25 1 (fun ps => ∃ l : List Nat, ps = [.lst 1 (l.map u8) false] ∧ (∀ x ∈ l, x < 256) ∧ l.length ≤ 9223372036854775807) :=
  (OpnV.slice (B := 1) false Try.underlying25 (by kernel_rfl) (by kernel_rfl) (OpnV.int Try.underlying5 (by kernel_rfl)) (fun _ => rfl) (by omega)).weaken (by
    rintro _ ⟨xs, rfl, h1, _, h2⟩
    obtain ⟨l, rfl, h3⟩ := bytes_of h2
    rw [List.length_map] at h1
    exact ⟨l, rfl, h3, by omega⟩)
end Go.Proofs.Ytibmolekndeofaa.E
/- The laws' helpers: rows, same, bytesOf. -/
namespace Go.Proofs.Ytibmolekndeofaa.E
open Go Go.RowKit Go.Proofs
set_option linter.unusedVariables false
set_option linter.unusedSimpArgs false
theorem take_map_succ {α β : Type} (f : α → β) {l : List α} {i : Nat} (h : i < l.length) : (l.take (i + 1)).map f = (l.take i).map f ++ [f l[i]] := by
  rw [List.take_succ_eq_append_getElem h, List.map_append]; rfl
set_option maxRecDepth 8000 in
set_option maxHeartbeats 4000000 in
theorem rows_ok {l : List En} (hl : l.length ≤ 1000000000000) {s : Nat} (hs : s = 4 ∨ l.length = 0) {o : Bool} : PSpec Try.prog 12 [.lst s (l.map enV) o] (.lst 4 (l.map enV) true) := by
  intro H
  refine spec_ofU t12 (by simp [p12]) ?_
  simp only [p12]
  first | refine pwp_sr ?_ | refine pwp_regionM ?_
  intro K hK
  simp (disch := first | (refine Ok.mk ?_; (try simp only [Lm, La, Lc, Ln, Lt, Ld, Lr, Li, true_or, or_true, true_and, and_true]); omega) | (simp <;> fail) | skip) [runM_nil]
  refine hK _ _ ?_
  clear hK K
  first | refine pwp_sr ?_ | refine pwp_regionM ?_
  intro K hK
  simp (disch := first | (refine Ok.mk ?_; (try simp only [Lm, La, Lc, Ln, Lt, Ld, Lr, Li, true_or, or_true, true_and, and_true]); omega) | (simp <;> fail) | skip) [runM_nil]
  refine hK _ _ ?_
  clear hK K
  refine pwp_seq (pwp_seq ?_)
  first | refine pwp_sr ?_ | refine pwp_regionM ?_
  intro K hK
  simp (disch := first | (refine Ok.mk ?_; (try simp only [Lm, La, Lc, Ln, Lt, Ld, Lr, Li, true_or, or_true, true_and, and_true]); omega) | (simp <;> fail) | skip) [runM_nil]
  refine hK _ _ ?_
  clear hK K
  refine pwp_block ?_
  refine pwp_loopK [0, 3, 4] (fun m st H' => ∃ i, i ≤ l.length ∧ m = l.length - i ∧ H' = H ∧ st = MS 21 [(0, .lst s (l.map enV) o), (3, .lst 4 ((l.take i).map enV) true), (4, .int .i64 i)]) (n := l.length)
    ⟨_, .refl _, 0, Nat.zero_le _, rfl, rfl, by simp [keepL_MS, keepA, getS]⟩ ?_
  rintro m st H1 ⟨i, hi, rfl, rfl, rfl⟩
  by_cases hlt : i < l.length
  · obtain rfl : s = 4 := by omega
    have hge2 : l[i]? = some l[i] := List.getElem?_eq_getElem hlt
    have hts := take_map_succ enV hlt
    have c1 := plain_ok l[i]
    generalize l[i] = e at *
    simp only [enV] at c1
    refine pwp_seq ?_
    first | refine pwp_sr ?_ | refine pwp_regionM ?_
    intro K hK
    simp (disch := first | (refine Ok.mk ?_; (try simp only [Lm, La, Lc, Ln, Lt, Ld, Lr, Li, true_or, or_true, true_and, and_true]); omega) | (simp <;> fail) | skip) [runM_nil]
    refine hK _ _ ?_
    clear hK K
    refine pwp_cT (by simp) (pwp_skip ?_)
    refine pwp_seq (pwp_block ?_)
    first | refine pwp_sr ?_ | refine pwp_regionM ?_
    intro K hK
    simp (disch := first | (refine Ok.mk ?_; (try simp only [Lm, La, Lc, Ln, Lt, Ld, Lr, Li, true_or, or_true, true_and, and_true]); omega) | (simp <;> fail) | skip) [runM_nil, hge2, enV]
    refine useP (c1) ?_
    simp (disch := first | (refine Ok.mk ?_; (try simp only [Lm, La, Lc, Ln, Lt, Ld, Lr, Li, true_or, or_true, true_and, and_true]); omega) | (simp <;> fail) | skip) [runM_nil, hge2, enV]
    refine hK _ _ ?_
    clear hK K
    first | refine pwp_sr ?_ | refine pwp_regionM ?_
    intro K hK
    simp (disch := first | (refine Ok.mk ?_; (try simp only [Lm, La, Lc, Ln, Lt, Ld, Lr, Li, true_or, or_true, true_and, and_true]); omega) | (simp <;> fail) | skip) [runM_nil]
    refine hK _ _ ?_
    clear hK K
    exact ⟨l.length - (i + 1), by omega, _, .refl _, i + 1, by omega, rfl, rfl, by simp [keepL_MS, keepA, getS, hts, enV]⟩
  · obtain rfl : i = l.length := by omega
    refine pwp_seq ?_
    first | refine pwp_sr ?_ | refine pwp_regionM ?_
    intro K hK
    simp (disch := first | (refine Ok.mk ?_; (try simp only [Lm, La, Lc, Ln, Lt, Ld, Lr, Li, true_or, or_true, true_and, and_true]); omega) | (simp <;> fail) | skip) [runM_nil]
    refine hK _ _ ?_
    clear hK K
    refine pwp_cF (by simp) (pwp_exit ?_)
    first | refine pwp_sr ?_ | refine pwp_regionM ?_
    intro K hK
    simp (disch := first | (refine Ok.mk ?_; (try simp only [Lm, La, Lc, Ln, Lt, Ld, Lr, Li, true_or, or_true, true_and, and_true]); omega) | (simp <;> fail) | skip) [runM_nil]
    refine hK _ _ ?_
    clear hK K
    refine pwp_ret ⟨.inr rfl, _, _, _, (by simp (disch := first | (refine Ok.mk ?_; (try simp only [Lm, La, Lc, Ln, Lt, Ld, Lr, Li, true_or, or_true, true_and, and_true]); omega) | (simp <;> fail) | skip) [runM_nil, resL, List.take_length]; rfl), .refl _, (by simp (disch := first | (refine Ok.mk ?_; (try simp only [Lm, La, Lc, Ln, Lt, Ld, Lr, Li, true_or, or_true, true_and, and_true]); omega) | (simp <;> fail) | skip) [resV, List.take_length]), rfl, rfl⟩
set_option maxRecDepth 8000 in
set_option maxHeartbeats 4000000 in
theorem same_ok {l k : List En} (hl : l.length ≤ 1000000000000) (hk : k.length ≤ 1000000000000) {s t : Nat} (hs : s = 4 ∨ l.length = 0) (ht : t = 4 ∨ k.length = 0) {o q : Bool} : PSpec Try.prog 11 [.lst s (l.map enV) o, .lst t (k.map enV) q] (.bool (decide (l = k))) := by
  intro H
  refine spec_of t11 (by simp [p11]) ?_
  simp only [p11]
  first | refine pwp_sr ?_ | refine pwp_regionM ?_
  intro K hK
  simp (disch := first | (refine Ok.mk ?_; (try simp only [Lm, La, Lc, Ln, Lt, Ld, Lr, Li, true_or, or_true, true_and, and_true]); omega) | (simp <;> fail) | skip) [runM_nil]
  refine hK _ _ ?_
  clear hK K
  refine pwp_seq ?_
  by_cases hlen : l.length = k.length
  · first | refine pwp_sr ?_ | refine pwp_regionM ?_
    intro K hK
    simp (disch := first | (refine Ok.mk ?_; (try simp only [Lm, La, Lc, Ln, Lt, Ld, Lr, Li, true_or, or_true, true_and, and_true]); omega) | (simp <;> fail) | skip) [runM_nil, hlen]
    refine hK _ _ ?_
    clear hK K
    refine pwp_cF (by simp) (pwp_skip ?_)
    refine pwp_seq (pwp_seq ?_)
    first | refine pwp_sr ?_ | refine pwp_regionM ?_
    intro K hK
    simp (disch := first | (refine Ok.mk ?_; (try simp only [Lm, La, Lc, Ln, Lt, Ld, Lr, Li, true_or, or_true, true_and, and_true]); omega) | (simp <;> fail) | skip) [runM_nil]
    refine hK _ _ ?_
    clear hK K
    refine pwp_block ?_
    refine pwp_loopK [0, 1, 5] (fun m st H' => ∃ i, i ≤ l.length ∧ l.take i = k.take i ∧ m = l.length - i ∧ H' = H ∧ st = MS 27 [(0, .lst s (l.map enV) o), (1, .lst t (k.map enV) q), (5, .int .i64 i)]) (n := l.length)
      ⟨_, .refl _, 0, Nat.zero_le _, by simp, rfl, rfl, by simp [keepL_MS, keepA, getS]⟩ ?_
    rintro m st H1 ⟨i, hi, hq, rfl, rfl, rfl⟩
    by_cases hlt : i < l.length
    · have hlk : i < k.length := by omega
      obtain rfl : s = 4 := by omega
      obtain rfl : t = 4 := by omega
      have g1 : l[i]? = some l[i] := List.getElem?_eq_getElem hlt
      have g2 : k[i]? = some k[i] := List.getElem?_eq_getElem hlk
      have t1 := List.take_succ_eq_append_getElem hlt
      have t2 := List.take_succ_eq_append_getElem hlk
      have hne : l[i] ≠ k[i] → l ≠ k := fun h e => by subst e; exact h rfl
      have c1 := plain_ok l[i]
      generalize l[i] = e at *
      generalize k[i] = f at *
      simp only [enV] at c1
      refine pwp_seq ?_
      first | refine pwp_sr ?_ | refine pwp_regionM ?_
      intro K hK
      simp (disch := first | (refine Ok.mk ?_; (try simp only [Lm, La, Lc, Ln, Lt, Ld, Lr, Li, true_or, or_true, true_and, and_true]); omega) | (simp <;> fail) | skip) [runM_nil]
      refine hK _ _ ?_
      clear hK K
      refine pwp_cT (by simp) (pwp_skip ?_)
      refine pwp_seq (pwp_block ?_)
      by_cases hef : e = f
      · subst hef
        first | refine pwp_sd hmix ?_ | refine pwp_drawM hmix ?_
        intro K hK
        simp (disch := first | (refine Ok.mk ?_; (try simp only [Lm, La, Lc, Ln, Lt, Ld, Lr, Li, true_or, or_true, true_and, and_true]); omega) | (simp <;> fail) | skip) [runM_nil, g1, g2, enV]
        refine useD (c1) ?_
        simp (disch := first | (refine Ok.mk ?_; (try simp only [Lm, La, Lc, Ln, Lt, Ld, Lr, Li, true_or, or_true, true_and, and_true]); omega) | (simp <;> fail) | skip) [runM_nil, g1, g2, enV]
        refine hK _ _ ?_
        clear hK K
        refine pwp_cF (by simp) (pwp_skip ?_)
        first | refine pwp_sr ?_ | refine pwp_regionM ?_
        intro K hK
        simp (disch := first | (refine Ok.mk ?_; (try simp only [Lm, La, Lc, Ln, Lt, Ld, Lr, Li, true_or, or_true, true_and, and_true]); omega) | (simp <;> fail) | skip) [runM_nil]
        refine hK _ _ ?_
        clear hK K
        exact ⟨l.length - (i + 1), by omega, _, .refl _, i + 1, by omega, by rw [t1, t2, hq], rfl, rfl, by simp [keepL_MS, keepA, getS]⟩
      · have hno := hne hef
        have hd : ¬ (e.k = f.k ∧ e.t = f.t ∧ e.y = f.y ∧ e.w = f.w) := fun ⟨h1, h2, h3, h4⟩ => hef (by cases e; cases f; simp_all)
        first | refine pwp_sd hmix ?_ | refine pwp_drawM hmix ?_
        intro K hK
        simp (disch := first | (refine Ok.mk ?_; (try simp only [Lm, La, Lc, Ln, Lt, Ld, Lr, Li, true_or, or_true, true_and, and_true]); omega) | (simp <;> fail) | skip) [runM_nil, g1, g2, enV]
        refine useD (c1) ?_
        simp (disch := first | (refine Ok.mk ?_; (try simp only [Lm, La, Lc, Ln, Lt, Ld, Lr, Li, true_or, or_true, true_and, and_true]); omega) | (simp <;> fail) | skip) [runM_nil, g1, g2, enV]
        refine hK _ _ ?_
        clear hK K
        refine pwp_cT (by simp; omega) ?_
        first | refine pwp_sr ?_ | refine pwp_regionM ?_
        intro K hK
        simp (disch := first | (refine Ok.mk ?_; (try simp only [Lm, La, Lc, Ln, Lt, Ld, Lr, Li, true_or, or_true, true_and, and_true]); omega) | (simp <;> fail) | skip) [runM_nil]
        refine hK _ _ ?_
        clear hK K
        refine pwp_ret ⟨.inr rfl, _, _, (by simp (disch := first | (refine Ok.mk ?_; (try simp only [Lm, La, Lc, Ln, Lt, Ld, Lr, Li, true_or, or_true, true_and, and_true]); omega) | (simp <;> fail) | skip) [runM_nil, resL, hno]; rfl), .refl _, by simp (disch := first | (refine Ok.mk ?_; (try simp only [Lm, La, Lc, Ln, Lt, Ld, Lr, Li, true_or, or_true, true_and, and_true]); omega) | (simp <;> fail) | skip) [resV, hno], rfl⟩
    · obtain rfl : i = l.length := by omega
      have he : l = k := by rw [List.take_length] at hq; rw [hlen, List.take_length] at hq; exact hq
      refine pwp_seq ?_
      first | refine pwp_sr ?_ | refine pwp_regionM ?_
      intro K hK
      simp (disch := first | (refine Ok.mk ?_; (try simp only [Lm, La, Lc, Ln, Lt, Ld, Lr, Li, true_or, or_true, true_and, and_true]); omega) | (simp <;> fail) | skip) [runM_nil]
      refine hK _ _ ?_
      clear hK K
      refine pwp_cF (by simp) (pwp_exit ?_)
      first | refine pwp_sr ?_ | refine pwp_regionM ?_
      intro K hK
      simp (disch := first | (refine Ok.mk ?_; (try simp only [Lm, La, Lc, Ln, Lt, Ld, Lr, Li, true_or, or_true, true_and, and_true]); omega) | (simp <;> fail) | skip) [runM_nil]
      refine hK _ _ ?_
      clear hK K
      refine pwp_ret ⟨.inr rfl, _, _, (by simp (disch := first | (refine Ok.mk ?_; (try simp only [Lm, La, Lc, Ln, Lt, Ld, Lr, Li, true_or, or_true, true_and, and_true]); omega) | (simp <;> fail) | skip) [runM_nil, resL, he]; rfl), .refl _, by simp (disch := first | (refine Ok.mk ?_; (try simp only [Lm, La, Lc, Ln, Lt, Ld, Lr, Li, true_or, or_true, true_and, and_true]); omega) | (simp <;> fail) | skip) [resV, he], rfl⟩
  · have hno : l ≠ k := fun e => hlen (by rw [e])
    first | refine pwp_sr ?_ | refine pwp_regionM ?_
    intro K hK
    simp (disch := first | (refine Ok.mk ?_; (try simp only [Lm, La, Lc, Ln, Lt, Ld, Lr, Li, true_or, or_true, true_and, and_true]); omega) | (simp <;> fail) | skip) [runM_nil, hlen]
    refine hK _ _ ?_
    clear hK K
    refine pwp_cT (by simp) ?_
    first | refine pwp_sr ?_ | refine pwp_regionM ?_
    intro K hK
    simp (disch := first | (refine Ok.mk ?_; (try simp only [Lm, La, Lc, Ln, Lt, Ld, Lr, Li, true_or, or_true, true_and, and_true]); omega) | (simp <;> fail) | skip) [runM_nil]
    refine hK _ _ ?_
    clear hK K
    refine pwp_ret ⟨.inr rfl, _, _, (by simp (disch := first | (refine Ok.mk ?_; (try simp only [Lm, La, Lc, Ln, Lt, Ld, Lr, Li, true_or, or_true, true_and, and_true]); omega) | (simp <;> fail) | skip) [runM_nil, resL, hno]; rfl), .refl _, by simp (disch := first | (refine Ok.mk ?_; (try simp only [Lm, La, Lc, Ln, Lt, Ld, Lr, Li, true_or, or_true, true_and, and_true]); omega) | (simp <;> fail) | skip) [resV, hno], rfl⟩
set_option maxRecDepth 8000 in
set_option maxHeartbeats 4000000 in
theorem bytesOf_ok {l : List En} (hm : ∀ e ∈ l, mayJ e = true) (hl : l.length ≤ 1000) {o : Bool} : PSpec Try.prog 9 [.lst 4 (l.map enV) o] (.tup [bV (jnl l) true, .bool true]) := by
  intro H
  refine spec_ofU t9 (by simp [p9]) ?_
  simp only [p9]
  first | refine pwp_sr ?_ | refine pwp_regionM ?_
  intro K hK
  simp (disch := first | (refine Ok.mk ?_; (try simp only [Lm, La, Lc, Ln, Lt, Ld, Lr, Li, true_or, or_true, true_and, and_true]); omega) | (simp <;> fail) | skip) [runM_nil]
  refine hK _ _ ?_
  clear hK K
  first | refine pwp_sr ?_ | refine pwp_regionM ?_
  intro K hK
  simp (disch := first | (refine Ok.mk ?_; (try simp only [Lm, La, Lc, Ln, Lt, Ld, Lr, Li, true_or, or_true, true_and, and_true]); omega) | (simp <;> fail) | skip) [runM_nil]
  refine hK _ _ ?_
  clear hK K
  refine pwp_seq (pwp_seq ?_)
  first | refine pwp_sr ?_ | refine pwp_regionM ?_
  intro K hK
  simp (disch := first | (refine Ok.mk ?_; (try simp only [Lm, La, Lc, Ln, Lt, Ld, Lr, Li, true_or, or_true, true_and, and_true]); omega) | (simp <;> fail) | skip) [runM_nil]
  refine hK _ _ ?_
  clear hK K
  refine pwp_block ?_
  refine pwp_loopK [0, 4, 5] (fun m st H' => ∃ i, i ≤ l.length ∧ m = l.length - i ∧ H' = H ∧ st = MS 28 [(0, .lst 4 (l.map enV) o), (4, bV (jnl (l.take i)) true), (5, .int .i64 i)]) (n := l.length)
    ⟨_, .refl _, 0, Nat.zero_le _, rfl, rfl, by simp [keepL_MS, keepA, getS, jnl]⟩ ?_
  rintro m st H1 ⟨i, hi, rfl, rfl, rfl⟩
  by_cases hlt : i < l.length
  · have hge2 : l[i]? = some l[i] := List.getElem?_eq_getElem hlt
    have hmi := hm _ (List.getElem_mem hlt)
    have hts : jnl (l.take (i + 1)) = jnl (l.take i) ++ encJ l[i] := by rw [List.take_succ_eq_append_getElem hlt, jnl, List.flatMap_append, List.flatMap_cons, List.flatMap_nil, List.append_nil]; rfl
    have hw := (jnl_wf (l := l.take i) fun x hx => hm x (List.mem_of_mem_take hx)).2
    rw [Lt] at hw
    have c1 := put_ok26 (s := 1) (xs := (jnl (l.take i)).map u8) (o := false) (b := jnl (l.take i)) rfl (.inl rfl) (by omega) l[i]
    have e1 : putJ (jnl (l.take i)) l[i] = (jnl (l.take (i + 1)), 0) := by simp [putJ, hmi, hts]
    rw [e1] at c1
    generalize l[i] = e at *
    generalize hb2 : jnl (l.take (i + 1)) = b2 at *
    generalize jnl (l.take i) = b1 at *
    simp only [enV] at c1
    refine pwp_seq ?_
    first | refine pwp_sr ?_ | refine pwp_regionM ?_
    intro K hK
    simp (disch := first | (refine Ok.mk ?_; (try simp only [Lm, La, Lc, Ln, Lt, Ld, Lr, Li, true_or, or_true, true_and, and_true]); omega) | (simp <;> fail) | skip) [runM_nil]
    refine hK _ _ ?_
    clear hK K
    refine pwp_cT (by simp) (pwp_skip ?_)
    refine pwp_seq (pwp_block ?_)
    first | refine pwp_sr ?_ | refine pwp_regionM ?_
    intro K hK
    simp (disch := first | (refine Ok.mk ?_; (try simp only [Lm, La, Lc, Ln, Lt, Ld, Lr, Li, true_or, or_true, true_and, and_true]); omega) | (simp <;> fail) | skip) [runM_nil, hge2, enV]
    refine useP (c1) ?_
    simp (disch := first | (refine Ok.mk ?_; (try simp only [Lm, La, Lc, Ln, Lt, Ld, Lr, Li, true_or, or_true, true_and, and_true]); omega) | (simp <;> fail) | skip) [runM_nil, hge2, enV]
    refine hK _ _ ?_
    clear hK K
    refine pwp_seq ?_
    refine pwp_seq ?_
    first | refine pwp_sr ?_ | refine pwp_regionM ?_
    intro K hK
    simp (disch := first | (refine Ok.mk ?_; (try simp only [Lm, La, Lc, Ln, Lt, Ld, Lr, Li, true_or, or_true, true_and, and_true]); omega) | (simp <;> fail) | skip) [runM_nil]
    refine hK _ _ ?_
    clear hK K
    refine pwp_cF (by simp) (pwp_skip ?_)
    first | refine pwp_sr ?_ | refine pwp_regionM ?_
    intro K hK
    simp (disch := first | (refine Ok.mk ?_; (try simp only [Lm, La, Lc, Ln, Lt, Ld, Lr, Li, true_or, or_true, true_and, and_true]); omega) | (simp <;> fail) | skip) [runM_nil]
    refine hK _ _ ?_
    clear hK K
    first | refine pwp_sr ?_ | refine pwp_regionM ?_
    intro K hK
    simp (disch := first | (refine Ok.mk ?_; (try simp only [Lm, La, Lc, Ln, Lt, Ld, Lr, Li, true_or, or_true, true_and, and_true]); omega) | (simp <;> fail) | skip) [runM_nil]
    refine hK _ _ ?_
    clear hK K
    exact ⟨l.length - (i + 1), by omega, _, .refl _, i + 1, by omega, rfl, rfl, by simp [keepL_MS, keepA, getS, hb2]⟩
  · obtain rfl : i = l.length := by omega
    refine pwp_seq ?_
    first | refine pwp_sr ?_ | refine pwp_regionM ?_
    intro K hK
    simp (disch := first | (refine Ok.mk ?_; (try simp only [Lm, La, Lc, Ln, Lt, Ld, Lr, Li, true_or, or_true, true_and, and_true]); omega) | (simp <;> fail) | skip) [runM_nil]
    refine hK _ _ ?_
    clear hK K
    refine pwp_cF (by simp) (pwp_exit ?_)
    first | refine pwp_sr ?_ | refine pwp_regionM ?_
    intro K hK
    simp (disch := first | (refine Ok.mk ?_; (try simp only [Lm, La, Lc, Ln, Lt, Ld, Lr, Li, true_or, or_true, true_and, and_true]); omega) | (simp <;> fail) | skip) [runM_nil]
    refine hK _ _ ?_
    clear hK K
    refine pwp_ret ⟨.inr rfl, _, _, _, (by simp (disch := first | (refine Ok.mk ?_; (try simp only [Lm, La, Lc, Ln, Lt, Ld, Lr, Li, true_or, or_true, true_and, and_true]); omega) | (simp <;> fail) | skip) [runM_nil, resL, List.take_length]; rfl), .refl _, (by simp (disch := first | (refine Ok.mk ?_; (try simp only [Lm, La, Lc, Ln, Lt, Ld, Lr, Li, true_or, or_true, true_and, and_true]); omega) | (simp <;> fail) | skip) [resV, List.take_length]), rfl, rfl⟩
end Go.Proofs.Ytibmolekndeofaa.E
/- JournalTorn's walk. -/
namespace Go.Proofs.Ytibmolekndeofaa.E
open Go Go.RowKit Go.Proofs
set_option linter.unusedVariables false
set_option linter.unusedSimpArgs false
theorem readJ_short {e : En} (h : mayJ e = true) {n : Nat} (hn : n < (encJ e).length) : readJ ((encJ e).take n) = ([], (encJ e).take n) := by
  have hz := (zJ_wf h).2
  have hv : encJ e = (zJ e).length :: zJ e := by rw [encJ, vb_small (by omega)]; rfl
  cases n with
  | zero => exact readJ_stop (.inl rfl)
  | succ n =>
    refine readJ_stop (.inr (.inl ?_))
    rw [hv, List.take_succ_cons]
    rw [hv, Lc] at hn
    have ht : vtake ((zJ e).length :: (zJ e).take n) = ((zJ e).length, (zJ e).take n, 0) := by
      have := vtake_vb (n := (zJ e).length) (by omega) ((zJ e).take n)
      rwa [vb_small (by omega)] at this
    rw [vframe, ht]
    have h100 : ¬ ((100 : Int) < ((zJ e).length : Nat)) := by omega
    have hlt : ((zJ e).take n).length < (zJ e).length := by rw [Lt]; omega
    rw [if_neg (by simp), if_neg (by rintro (h | h) <;> omega), if_pos hlt]
    simp
theorem readJ_take : ∀ {l : List En}, (∀ e ∈ l, mayJ e = true) → ∀ n, n ≤ (jnl l).length →
    ∃ j, j ≤ l.length ∧ (n = (jnl l).length → j = l.length) ∧ ∃ rest, readJ ((jnl l).take n) = (l.take j, rest) ∧ (jnl l).take n = jnl (l.take j) ++ rest
  | [], _, n, _ => ⟨0, Nat.le_refl _, fun _ => rfl, [], by simp [jnl, readJ_nil], by simp [jnl]⟩
  | e :: l, h, n, hn => by
    have hj : jnl (e :: l) = encJ e ++ jnl l := by simp [jnl]
    have he := h e (List.mem_cons_self ..)
    rw [hj] at hn ⊢
    rw [La] at hn ⊢
    by_cases hq : n < (encJ e).length
    · refine ⟨0, Nat.zero_le _, fun h => by omega, (encJ e).take n, ?_, ?_⟩
      · rw [List.take_append_of_le_length (by omega), readJ_short he hq]; rfl
      · rw [List.take_append_of_le_length (by omega)]; rfl
    · obtain ⟨j, h1, h2, rest, h3, h4⟩ := readJ_take (fun x hx => h x (List.mem_cons_of_mem _ hx)) (n - (encJ e).length) (by omega)
      have ht : (encJ e ++ jnl l).take n = encJ e ++ (jnl l).take (n - (encJ e).length) := by rw [List.take_append, List.take_of_length_le (by omega)]
      refine ⟨j + 1, by rw [Lc]; omega, fun h => by rw [Lc, h2 (by omega)], rest, ?_, ?_⟩
      · rw [ht, readJ_enc he, h3]; rfl
      · rw [ht, h4, List.take_succ_cons]; simp [jnl]
set_option maxRecDepth 8000 in
set_option maxHeartbeats 16000000 in
theorem torn_ok {l k : List En} (hl : l.length ≤ 4500000000000) (hk : k.length ≤ 4500000000000) (a : Int) {o q : Bool} : PSpec Try.prog 3 [.lst 4 (l.map enV) o, .int .i64 a, .lst 4 (k.map enV) q] (.bool true) := by
  intro H
  have cs1 := small_ok (l := l) (by omega) (o := false)
  have cs2 := small_ok (l := k) (by omega) (o := false)
  have ca := alive_ok
  refine spec_of t3 (by simp [p3]) ?_
  simp only [p3]
  first | refine pwp_sr ?_ | refine pwp_regionM ?_
  intro K hK
  simp (disch := first | (refine Ok.mk ?_; (try simp only [Lm, La, Lc, Ln, Lt, Ld, Lr, Li, true_or, or_true, true_and, and_true]); omega) | (simp <;> fail) | skip) [runM_nil]
  refine hK _ _ ?_
  clear hK K
  cases h1 : smallJ l with
  | false =>
    first | refine pwp_rif ?_ | refine pwp_rifE ?_
    intro K hK
    simp (disch := first | (refine Ok.mk ?_; (try simp only [Lm, La, Lc, Ln, Lt, Ld, Lr, Li, true_or, or_true, true_and, and_true]); omega) | (simp <;> fail) | skip) [runM_nil, h1]
    refine useP (cs1) ?_
    simp (disch := first | (refine Ok.mk ?_; (try simp only [Lm, La, Lc, Ln, Lt, Ld, Lr, Li, true_or, or_true, true_and, and_true]); omega) | (simp <;> fail) | skip) [runM_nil, h1]
    refine hK _ _ ?_
    clear hK K
    refine ifT (by simp (disch := first | (refine Ok.mk ?_; (try simp only [Lm, La, Lc, Ln, Lt, Ld, Lr, Li, true_or, or_true, true_and, and_true]); omega) | (simp <;> fail) | skip) [runM_nil]) ?_
    first | refine pwp_sr ?_ | refine pwp_regionM ?_
    intro K hK
    simp (disch := first | (refine Ok.mk ?_; (try simp only [Lm, La, Lc, Ln, Lt, Ld, Lr, Li, true_or, or_true, true_and, and_true]); omega) | (simp <;> fail) | skip) [runM_nil]
    refine useP (ca) ?_
    simp (disch := first | (refine Ok.mk ?_; (try simp only [Lm, La, Lc, Ln, Lt, Ld, Lr, Li, true_or, or_true, true_and, and_true]); omega) | (simp <;> fail) | skip) [runM_nil]
    refine hK _ _ ?_
    clear hK K
    refine pwp_ret ⟨.inr rfl, _, _, (by simp (disch := first | (refine Ok.mk ?_; (try simp only [Lm, La, Lc, Ln, Lt, Ld, Lr, Li, true_or, or_true, true_and, and_true]); omega) | (simp <;> fail) | skip) [runM_nil, resL]; rfl), .refl _, by simp (disch := first | (refine Ok.mk ?_; (try simp only [Lm, La, Lc, Ln, Lt, Ld, Lr, Li, true_or, or_true, true_and, and_true]); omega) | (simp <;> fail) | skip) [resV], rfl⟩
  | true =>
  cases h2 : smallJ k with
  | false =>
    first | refine pwp_rif ?_ | refine pwp_rifE ?_
    intro K hK
    simp (disch := first | (refine Ok.mk ?_; (try simp only [Lm, La, Lc, Ln, Lt, Ld, Lr, Li, true_or, or_true, true_and, and_true]); omega) | (simp <;> fail) | skip) [runM_nil, h1, h2]
    refine useP (cs1) ?_
    simp (disch := first | (refine Ok.mk ?_; (try simp only [Lm, La, Lc, Ln, Lt, Ld, Lr, Li, true_or, or_true, true_and, and_true]); omega) | (simp <;> fail) | skip) [runM_nil, h1, h2]
    refine useP (cs2) ?_
    simp (disch := first | (refine Ok.mk ?_; (try simp only [Lm, La, Lc, Ln, Lt, Ld, Lr, Li, true_or, or_true, true_and, and_true]); omega) | (simp <;> fail) | skip) [runM_nil, h1, h2]
    refine hK _ _ ?_
    clear hK K
    refine ifT (by simp (disch := first | (refine Ok.mk ?_; (try simp only [Lm, La, Lc, Ln, Lt, Ld, Lr, Li, true_or, or_true, true_and, and_true]); omega) | (simp <;> fail) | skip) [runM_nil]) ?_
    first | refine pwp_sr ?_ | refine pwp_regionM ?_
    intro K hK
    simp (disch := first | (refine Ok.mk ?_; (try simp only [Lm, La, Lc, Ln, Lt, Ld, Lr, Li, true_or, or_true, true_and, and_true]); omega) | (simp <;> fail) | skip) [runM_nil]
    refine useP (ca) ?_
    simp (disch := first | (refine Ok.mk ?_; (try simp only [Lm, La, Lc, Ln, Lt, Ld, Lr, Li, true_or, or_true, true_and, and_true]); omega) | (simp <;> fail) | skip) [runM_nil]
    refine hK _ _ ?_
    clear hK K
    refine pwp_ret ⟨.inr rfl, _, _, (by simp (disch := first | (refine Ok.mk ?_; (try simp only [Lm, La, Lc, Ln, Lt, Ld, Lr, Li, true_or, or_true, true_and, and_true]); omega) | (simp <;> fail) | skip) [runM_nil, resL]; rfl), .refl _, by simp (disch := first | (refine Ok.mk ?_; (try simp only [Lm, La, Lc, Ln, Lt, Ld, Lr, Li, true_or, or_true, true_and, and_true]); omega) | (simp <;> fail) | skip) [resV], rfl⟩
  | true =>
  first | refine pwp_rif ?_ | refine pwp_rifE ?_
  intro K hK
  simp (disch := first | (refine Ok.mk ?_; (try simp only [Lm, La, Lc, Ln, Lt, Ld, Lr, Li, true_or, or_true, true_and, and_true]); omega) | (simp <;> fail) | skip) [runM_nil, h1, h2]
  refine useP (cs1) ?_
  simp (disch := first | (refine Ok.mk ?_; (try simp only [Lm, La, Lc, Ln, Lt, Ld, Lr, Li, true_or, or_true, true_and, and_true]); omega) | (simp <;> fail) | skip) [runM_nil, h1, h2]
  refine useP (cs2) ?_
  simp (disch := first | (refine Ok.mk ?_; (try simp only [Lm, La, Lc, Ln, Lt, Ld, Lr, Li, true_or, or_true, true_and, and_true]); omega) | (simp <;> fail) | skip) [runM_nil, h1, h2]
  refine hK _ _ ?_
  clear hK K
  refine ifF (by simp (disch := first | (refine Ok.mk ?_; (try simp only [Lm, La, Lc, Ln, Lt, Ld, Lr, Li, true_or, or_true, true_and, and_true]); omega) | (simp <;> fail) | skip) [runM_nil]) (pwp_skip ?_)
  have m1 := small_may h1
  have m2 := small_may h2
  have n1 := (smallJ_iff.1 h1).1
  have n2 := (smallJ_iff.1 h2).1
  clear cs1 cs2 h1 h2
  have cb1 := bytesOf_ok m1 (by omega) (o := false)
  have cb2 := bytesOf_ok m2 (by omega) (o := false)
  have rl := readJ_jnl m1 []
  rw [List.append_nil, readJ_nil, List.append_nil] at rl
  obtain ⟨w1, b1⟩ := jnl_wf m1
  obtain ⟨w2, b2⟩ := jnl_wf m2
  have cr1 := read_ok26 (s := 1) (xs := (jnl l).map u8) (o := false) (b := jnl l) rfl (.inl rfl) w1 (by omega)
  rw [rl] at cr1
  have crw := rows_ok (l := l) (by omega) (s := 4) (.inl rfl) (o := false)
  have csm := same_ok (l := l) (k := l) (by omega) (by omega) (s := 4) (t := 4) (.inl rfl) (.inl rfl) (o := false) (q := false)
  simp at cr1 csm
  have htk := readJ_take m1
  have hwh : ∀ j, readJ (jnl (l.take j) ++ jnl k) = (l.take j ++ k, []) := fun j => by
    have h := readJ_jnl (l := l.take j) (fun x hx => m1 x (List.mem_of_mem_take hx)) (jnl k)
    have h' := readJ_jnl m2 []
    rw [List.append_nil, readJ_nil, List.append_nil] at h'
    rw [h, h']
  generalize hB : jnl l = B at *
  generalize hC : jnl k = C at *
  first | refine pwp_sr ?_ | refine pwp_regionM ?_
  intro K hK
  simp (disch := first | (refine Ok.mk ?_; (try simp only [Lm, La, Lc, Ln, Lt, Ld, Lr, Li, true_or, or_true, true_and, and_true]); omega) | (simp <;> fail) | skip) [runM_nil]
  refine useP (cb1) ?_
  simp (disch := first | (refine Ok.mk ?_; (try simp only [Lm, La, Lc, Ln, Lt, Ld, Lr, Li, true_or, or_true, true_and, and_true]); omega) | (simp <;> fail) | skip) [runM_nil]
  refine hK _ _ ?_
  clear hK K
  first | refine pwp_sr ?_ | refine pwp_regionM ?_
  intro K hK
  simp (disch := first | (refine Ok.mk ?_; (try simp only [Lm, La, Lc, Ln, Lt, Ld, Lr, Li, true_or, or_true, true_and, and_true]); omega) | (simp <;> fail) | skip) [runM_nil]
  refine useP (cb2) ?_
  simp (disch := first | (refine Ok.mk ?_; (try simp only [Lm, La, Lc, Ln, Lt, Ld, Lr, Li, true_or, or_true, true_and, and_true]); omega) | (simp <;> fail) | skip) [runM_nil]
  refine hK _ _ ?_
  clear hK K
  first | refine pwp_rif ?_ | refine pwp_rifE ?_
  intro K hK
  simp (disch := first | (refine Ok.mk ?_; (try simp only [Lm, La, Lc, Ln, Lt, Ld, Lr, Li, true_or, or_true, true_and, and_true]); omega) | (simp <;> fail) | skip) [runM_nil]
  refine hK _ _ ?_
  clear hK K
  refine ifF (by simp (disch := first | (refine Ok.mk ?_; (try simp only [Lm, La, Lc, Ln, Lt, Ld, Lr, Li, true_or, or_true, true_and, and_true]); omega) | (simp <;> fail) | skip) [runM_nil]) (pwp_skip ?_)
  first | refine pwp_sr ?_ | refine pwp_regionM ?_
  intro K hK
  simp (disch := first | (refine Ok.mk ?_; (try simp only [Lm, La, Lc, Ln, Lt, Ld, Lr, Li, true_or, or_true, true_and, and_true]); omega) | (simp <;> fail) | skip) [runM_nil]
  refine useP (cr1) ?_
  simp (disch := first | (refine Ok.mk ?_; (try simp only [Lm, La, Lc, Ln, Lt, Ld, Lr, Li, true_or, or_true, true_and, and_true]); omega) | (simp <;> fail) | skip) [runM_nil]
  refine hK _ _ ?_
  clear hK K
  by_cases ha : 0 ≤ a ∧ a ≤ B.length
  · obtain ⟨n, rfl⟩ : ∃ n : Nat, a = n := ⟨a.toNat, by omega⟩
    obtain ⟨j, j1, j2, rest, j3, j4⟩ := htk n (by omega)
    have hlen : n = (jnl (l.take j)).length + rest.length := by
      have := congrArg List.length j4
      rw [Lt, La] at this
      omega
    have hwb : ∀ x ∈ B.take n, x < 256 := fun x hx => w1 x (List.mem_of_mem_take hx)
    have cr2 := read_ok26 (s := 1) (xs := (B.take n).map u8) (o := false) (b := B.take n) rfl (.inl rfl) hwb (by rw [Lt]; omega)
    rw [j3, List.map_take] at cr2
    have hm : (((B.take n).length : Nat) : Int) - (rest.length : Nat) = ((jnl (l.take j)).length : Nat) := by rw [Lt]; omega
    simp only [hm] at cr2
    have hpre : B.take (jnl (l.take j)).length = jnl (l.take j) := by
      have h := congrArg (List.take (jnl (l.take j)).length) j4
      rw [List.take_take, List.take_left, Nat.min_eq_left (by omega)] at h
      exact h
    have hpre2 : (B.map u8).take (jnl (l.take j)).length = (jnl (l.take j)).map u8 := by rw [← List.map_take, hpre]
    have hwh := hwh j
    have hjl : (l.take j).length = j := by rw [Lt]; omega
    have crw2 := rows_ok (l := l.take j) (by omega) (s := 4) (.inl rfl) (o := false)
    have csm2 := same_ok (l := l.take j) (k := l.take j) (by omega) (by omega) (s := 4) (t := 4) (.inl rfl) (.inl rfl) (o := false) (q := false)
    have hww : ∀ x ∈ jnl (l.take j) ++ C, x < 256 := fun x hx => by
      rcases List.mem_append.1 hx with hx | hx
      · rw [← hpre] at hx; exact w1 x (List.mem_of_mem_take hx)
      · exact w2 x hx
    have cr3 := read_ok26 (s := 1) (xs := (jnl (l.take j) ++ C).map u8) (o := false) (b := jnl (l.take j) ++ C) rfl (.inl rfl) hww (by rw [La]; omega)
    have crw3 := rows_ok (l := l.take j ++ k) (by rw [La]; omega) (s := 4) (.inl rfl) (o := false)
    have csm3 := same_ok (l := l.take j ++ k) (k := l.take j ++ k) (by rw [La]; omega) (by rw [La]; omega) (s := 4) (t := 4) (.inl rfl) (.inl rfl) (o := false) (q := false)
    rw [hwh] at cr3
    generalize jnl (l.take j) = D at *
    clear j3 j4 hwh hm hpre htk hwb hww w1 w2
    have hmin := Nat.min_eq_left j1
    simp only [List.map_take, List.map_append] at cr2 cr3 crw2 csm2 crw3 csm3
    simp at csm2 csm3 cr3
    first | refine pwp_rif ?_ | refine pwp_rifE ?_
    intro K hK
    simp (disch := first | (refine Ok.mk ?_; (try simp only [Lm, La, Lc, Ln, Lt, Ld, Lr, Li, true_or, or_true, true_and, and_true]); omega) | (simp <;> fail) | skip) [runM_nil]
    refine useP (crw) ?_
    simp (disch := first | (refine Ok.mk ?_; (try simp only [Lm, La, Lc, Ln, Lt, Ld, Lr, Li, true_or, or_true, true_and, and_true]); omega) | (simp <;> fail) | skip) [runM_nil]
    refine useP (csm) ?_
    simp (disch := first | (refine Ok.mk ?_; (try simp only [Lm, La, Lc, Ln, Lt, Ld, Lr, Li, true_or, or_true, true_and, and_true]); omega) | (simp <;> fail) | skip) [runM_nil]
    refine hK _ _ ?_
    clear hK K
    refine ifF (by simp (disch := first | (refine Ok.mk ?_; (try simp only [Lm, La, Lc, Ln, Lt, Ld, Lr, Li, true_or, or_true, true_and, and_true]); omega) | (simp <;> fail) | skip) [runM_nil]) (pwp_skip ?_)
    first | refine pwp_sr ?_ | refine pwp_regionM ?_
    intro K hK
    simp (disch := first | (refine Ok.mk ?_; (try simp only [Lm, La, Lc, Ln, Lt, Ld, Lr, Li, true_or, or_true, true_and, and_true]); omega) | (simp <;> fail) | skip) [runM_nil, hmin]
    refine useP (cr2) ?_
    simp (disch := first | (refine Ok.mk ?_; (try simp only [Lm, La, Lc, Ln, Lt, Ld, Lr, Li, true_or, or_true, true_and, and_true]); omega) | (simp <;> fail) | skip) [runM_nil, hmin]
    refine hK _ _ ?_
    clear hK K
    by_cases hn : n = B.length
    · have hj := j2 hn
      first | refine pwp_rif ?_ | refine pwp_rifE ?_
      intro K hK
      simp (disch := first | (refine Ok.mk ?_; (try simp only [Lm, La, Lc, Ln, Lt, Ld, Lr, Li, true_or, or_true, true_and, and_true]); omega) | (simp <;> fail) | skip) [runM_nil, hmin]
      refine useP (crw2) ?_
      simp (disch := first | (refine Ok.mk ?_; (try simp only [Lm, La, Lc, Ln, Lt, Ld, Lr, Li, true_or, or_true, true_and, and_true]); omega) | (simp <;> fail) | skip) [runM_nil, hmin]
      refine useP (csm2) ?_
      simp (disch := first | (refine Ok.mk ?_; (try simp only [Lm, La, Lc, Ln, Lt, Ld, Lr, Li, true_or, or_true, true_and, and_true]); omega) | (simp <;> fail) | skip) [runM_nil, hmin]
      refine hK _ _ ?_
      clear hK K
      refine ifF (by simp (disch := first | (refine Ok.mk ?_; (try simp only [Lm, La, Lc, Ln, Lt, Ld, Lr, Li, true_or, or_true, true_and, and_true]); omega) | (simp <;> fail) | skip) [runM_nil]) (pwp_skip ?_)
      first | refine pwp_sr ?_ | refine pwp_regionM ?_
      intro K hK
      simp (disch := first | (refine Ok.mk ?_; (try simp only [Lm, La, Lc, Ln, Lt, Ld, Lr, Li, true_or, or_true, true_and, and_true]); omega) | (simp <;> fail) | skip) [runM_nil, hpre2]
      refine useP (cr3) ?_
      simp (disch := first | (refine Ok.mk ?_; (try simp only [Lm, La, Lc, Ln, Lt, Ld, Lr, Li, true_or, or_true, true_and, and_true]); omega) | (simp <;> fail) | skip) [runM_nil, hpre2]
      refine hK _ _ ?_
      clear hK K
      first | refine pwp_sr ?_ | refine pwp_regionM ?_
      intro K hK
      simp (disch := first | (refine Ok.mk ?_; (try simp only [Lm, La, Lc, Ln, Lt, Ld, Lr, Li, true_or, or_true, true_and, and_true]); omega) | (simp <;> fail) | skip) [runM_nil, hmin]
      refine useP (ca) ?_
      simp (disch := first | (refine Ok.mk ?_; (try simp only [Lm, La, Lc, Ln, Lt, Ld, Lr, Li, true_or, or_true, true_and, and_true]); omega) | (simp <;> fail) | skip) [runM_nil, hmin]
      refine useP (crw3) ?_
      simp (disch := first | (refine Ok.mk ?_; (try simp only [Lm, La, Lc, Ln, Lt, Ld, Lr, Li, true_or, or_true, true_and, and_true]); omega) | (simp <;> fail) | skip) [runM_nil, hmin]
      refine useP (csm3) ?_
      simp (disch := first | (refine Ok.mk ?_; (try simp only [Lm, La, Lc, Ln, Lt, Ld, Lr, Li, true_or, or_true, true_and, and_true]); omega) | (simp <;> fail) | skip) [runM_nil, hmin]
      refine hK _ _ ?_
      clear hK K
      refine pwp_ret ⟨.inr rfl, _, _, (by simp (disch := first | (refine Ok.mk ?_; (try simp only [Lm, La, Lc, Ln, Lt, Ld, Lr, Li, true_or, or_true, true_and, and_true]); omega) | (simp <;> fail) | skip) [runM_nil, resL]; rfl), .refl _, by simp (disch := first | (refine Ok.mk ?_; (try simp only [Lm, La, Lc, Ln, Lt, Ld, Lr, Li, true_or, or_true, true_and, and_true]); omega) | (simp <;> fail) | skip) [resV], rfl⟩
    · clear j2
      first | refine pwp_rif ?_ | refine pwp_rifE ?_
      intro K hK
      simp (disch := first | (refine Ok.mk ?_; (try simp only [Lm, La, Lc, Ln, Lt, Ld, Lr, Li, true_or, or_true, true_and, and_true]); omega) | (simp <;> fail) | skip) [runM_nil, hmin]
      refine useP (crw2) ?_
      simp (disch := first | (refine Ok.mk ?_; (try simp only [Lm, La, Lc, Ln, Lt, Ld, Lr, Li, true_or, or_true, true_and, and_true]); omega) | (simp <;> fail) | skip) [runM_nil, hmin]
      refine useP (csm2) ?_
      simp (disch := first | (refine Ok.mk ?_; (try simp only [Lm, La, Lc, Ln, Lt, Ld, Lr, Li, true_or, or_true, true_and, and_true]); omega) | (simp <;> fail) | skip) [runM_nil, hmin]
      refine hK _ _ ?_
      clear hK K
      refine ifF (by simp (disch := first | (refine Ok.mk ?_; (try simp only [Lm, La, Lc, Ln, Lt, Ld, Lr, Li, true_or, or_true, true_and, and_true]); omega) | (simp <;> fail) | skip) [runM_nil]) (pwp_skip ?_)
      first | refine pwp_sr ?_ | refine pwp_regionM ?_
      intro K hK
      simp (disch := first | (refine Ok.mk ?_; (try simp only [Lm, La, Lc, Ln, Lt, Ld, Lr, Li, true_or, or_true, true_and, and_true]); omega) | (simp <;> fail) | skip) [runM_nil, hpre2]
      refine useP (cr3) ?_
      simp (disch := first | (refine Ok.mk ?_; (try simp only [Lm, La, Lc, Ln, Lt, Ld, Lr, Li, true_or, or_true, true_and, and_true]); omega) | (simp <;> fail) | skip) [runM_nil, hpre2]
      refine hK _ _ ?_
      clear hK K
      first | refine pwp_sr ?_ | refine pwp_regionM ?_
      intro K hK
      simp (disch := first | (refine Ok.mk ?_; (try simp only [Lm, La, Lc, Ln, Lt, Ld, Lr, Li, true_or, or_true, true_and, and_true]); omega) | (simp <;> fail) | skip) [runM_nil, hmin]
      refine useP (ca) ?_
      simp (disch := first | (refine Ok.mk ?_; (try simp only [Lm, La, Lc, Ln, Lt, Ld, Lr, Li, true_or, or_true, true_and, and_true]); omega) | (simp <;> fail) | skip) [runM_nil, hmin]
      refine useP (crw3) ?_
      simp (disch := first | (refine Ok.mk ?_; (try simp only [Lm, La, Lc, Ln, Lt, Ld, Lr, Li, true_or, or_true, true_and, and_true]); omega) | (simp <;> fail) | skip) [runM_nil, hmin]
      refine useP (csm3) ?_
      simp (disch := first | (refine Ok.mk ?_; (try simp only [Lm, La, Lc, Ln, Lt, Ld, Lr, Li, true_or, or_true, true_and, and_true]); omega) | (simp <;> fail) | skip) [runM_nil, hmin]
      refine hK _ _ ?_
      clear hK K
      refine pwp_ret ⟨.inr rfl, _, _, (by simp (disch := first | (refine Ok.mk ?_; (try simp only [Lm, La, Lc, Ln, Lt, Ld, Lr, Li, true_or, or_true, true_and, and_true]); omega) | (simp <;> fail) | skip) [runM_nil, resL]; rfl), .refl _, by simp (disch := first | (refine Ok.mk ?_; (try simp only [Lm, La, Lc, Ln, Lt, Ld, Lr, Li, true_or, or_true, true_and, and_true]); omega) | (simp <;> fail) | skip) [resV], rfl⟩
  · by_cases h0 : a < 0
    · first | refine pwp_rif ?_ | refine pwp_rifE ?_
      intro K hK
      simp (disch := first | (refine Ok.mk ?_; (try simp only [Lm, La, Lc, Ln, Lt, Ld, Lr, Li, true_or, or_true, true_and, and_true]); omega) | (simp <;> fail) | skip) [runM_nil]
      refine useP (crw) ?_
      simp (disch := first | (refine Ok.mk ?_; (try simp only [Lm, La, Lc, Ln, Lt, Ld, Lr, Li, true_or, or_true, true_and, and_true]); omega) | (simp <;> fail) | skip) [runM_nil]
      refine useP (csm) ?_
      simp (disch := first | (refine Ok.mk ?_; (try simp only [Lm, La, Lc, Ln, Lt, Ld, Lr, Li, true_or, or_true, true_and, and_true]); omega) | (simp <;> fail) | skip) [runM_nil]
      refine hK _ _ ?_
      clear hK K
      refine ifT (by simp (disch := first | (refine Ok.mk ?_; (try simp only [Lm, La, Lc, Ln, Lt, Ld, Lr, Li, true_or, or_true, true_and, and_true]); omega) | (simp <;> fail) | skip) [runM_nil]) ?_
      first | refine pwp_sr ?_ | refine pwp_regionM ?_
      intro K hK
      simp (disch := first | (refine Ok.mk ?_; (try simp only [Lm, La, Lc, Ln, Lt, Ld, Lr, Li, true_or, or_true, true_and, and_true]); omega) | (simp <;> fail) | skip) [runM_nil]
      refine useP (crw) ?_
      simp (disch := first | (refine Ok.mk ?_; (try simp only [Lm, La, Lc, Ln, Lt, Ld, Lr, Li, true_or, or_true, true_and, and_true]); omega) | (simp <;> fail) | skip) [runM_nil]
      refine useP (csm) ?_
      simp (disch := first | (refine Ok.mk ?_; (try simp only [Lm, La, Lc, Ln, Lt, Ld, Lr, Li, true_or, or_true, true_and, and_true]); omega) | (simp <;> fail) | skip) [runM_nil]
      refine useP (ca) ?_
      simp (disch := first | (refine Ok.mk ?_; (try simp only [Lm, La, Lc, Ln, Lt, Ld, Lr, Li, true_or, or_true, true_and, and_true]); omega) | (simp <;> fail) | skip) [runM_nil]
      refine hK _ _ ?_
      clear hK K
      refine pwp_ret ⟨.inr rfl, _, _, (by simp (disch := first | (refine Ok.mk ?_; (try simp only [Lm, La, Lc, Ln, Lt, Ld, Lr, Li, true_or, or_true, true_and, and_true]); omega) | (simp <;> fail) | skip) [runM_nil, resL]; rfl), .refl _, by simp (disch := first | (refine Ok.mk ?_; (try simp only [Lm, La, Lc, Ln, Lt, Ld, Lr, Li, true_or, or_true, true_and, and_true]); omega) | (simp <;> fail) | skip) [resV], rfl⟩
    · first | refine pwp_rif ?_ | refine pwp_rifE ?_
      intro K hK
      simp (disch := first | (refine Ok.mk ?_; (try simp only [Lm, La, Lc, Ln, Lt, Ld, Lr, Li, true_or, or_true, true_and, and_true]); omega) | (simp <;> fail) | skip) [runM_nil]
      refine useP (crw) ?_
      simp (disch := first | (refine Ok.mk ?_; (try simp only [Lm, La, Lc, Ln, Lt, Ld, Lr, Li, true_or, or_true, true_and, and_true]); omega) | (simp <;> fail) | skip) [runM_nil]
      refine useP (csm) ?_
      simp (disch := first | (refine Ok.mk ?_; (try simp only [Lm, La, Lc, Ln, Lt, Ld, Lr, Li, true_or, or_true, true_and, and_true]); omega) | (simp <;> fail) | skip) [runM_nil]
      refine hK _ _ ?_
      clear hK K
      refine ifT (by simp (disch := first | (refine Ok.mk ?_; (try simp only [Lm, La, Lc, Ln, Lt, Ld, Lr, Li, true_or, or_true, true_and, and_true]); omega) | (simp <;> fail) | skip) [runM_nil]) ?_
      first | refine pwp_sr ?_ | refine pwp_regionM ?_
      intro K hK
      simp (disch := first | (refine Ok.mk ?_; (try simp only [Lm, La, Lc, Ln, Lt, Ld, Lr, Li, true_or, or_true, true_and, and_true]); omega) | (simp <;> fail) | skip) [runM_nil]
      refine useP (crw) ?_
      simp (disch := first | (refine Ok.mk ?_; (try simp only [Lm, La, Lc, Ln, Lt, Ld, Lr, Li, true_or, or_true, true_and, and_true]); omega) | (simp <;> fail) | skip) [runM_nil]
      refine useP (csm) ?_
      simp (disch := first | (refine Ok.mk ?_; (try simp only [Lm, La, Lc, Ln, Lt, Ld, Lr, Li, true_or, or_true, true_and, and_true]); omega) | (simp <;> fail) | skip) [runM_nil]
      refine useP (ca) ?_
      simp (disch := first | (refine Ok.mk ?_; (try simp only [Lm, La, Lc, Ln, Lt, Ld, Lr, Li, true_or, or_true, true_and, and_true]); omega) | (simp <;> fail) | skip) [runM_nil]
      refine hK _ _ ?_
      clear hK K
      refine pwp_ret ⟨.inr rfl, _, _, (by simp (disch := first | (refine Ok.mk ?_; (try simp only [Lm, La, Lc, Ln, Lt, Ld, Lr, Li, true_or, or_true, true_and, and_true]); omega) | (simp <;> fail) | skip) [runM_nil, resL]; rfl), .refl _, by simp (disch := first | (refine Ok.mk ?_; (try simp only [Lm, La, Lc, Ln, Lt, Ld, Lr, Li, true_or, or_true, true_and, and_true]); omega) | (simp <;> fail) | skip) [resV], rfl⟩
end Go.Proofs.Ytibmolekndeofaa.E
/- The document's rows. -/
namespace Go.Proofs.Ytibmolekndeofaa.E
open Go Go.RowKit Go.Proofs
set_option linter.unusedVariables false
set_option linter.unusedSimpArgs false
theorem repI_up (k : Int) {n i : Nat} (h : i < n) : (repI k n i).take i ++ .int .i64 k :: (repI k n i).drop (i + 1) = repI k n (i + 1) := by
  have := repI_over k n i 1 (by omega)
  simpa using this
theorem repI_new (k : Int) (n i c : Nat) : (repI k n i).take i ++ .int .i64 k :: List.replicate (c - (i + 1)) (.int .i64 0) = repI k c (i + 1) := by
  rw [repI_take, repI, List.replicate_succ']
  simp
set_option maxRecDepth 8000 in
set_option maxHeartbeats 4000000 in
theorem row_ok (k : Int) (n : Nat) (hn : n ≤ 20000) : PSpec Try.prog 48 [.int .i64 n, .int .i64 k] (.xl n (List.replicate n (.int .i64 k)) (.int .i64 0)) := by
  intro H
  refine spec_of t48r (by simp [p48r]) ?_
  simp only [p48r]
  first | refine pwp_sr ?_ | refine pwp_regionM ?_
  intro K hK
  simp (disch := first | (refine Ok.mk ?_; (try simp only [Lm, La, Lc, Ln, Lt, Ld, Lr, Li, true_or, or_true, true_and, and_true]); omega) | (simp <;> fail) | skip) [runM_nil]
  refine hK _ _ ?_
  clear hK K
  first | refine pwp_sr ?_ | refine pwp_regionM ?_
  intro K hK
  simp (disch := first | (refine Ok.mk ?_; (try simp only [Lm, La, Lc, Ln, Lt, Ld, Lr, Li, true_or, or_true, true_and, and_true]); omega) | (simp <;> fail) | skip) [runM_nil]
  intro b0 h_b0
  try simp (disch := first | (refine Ok.mk ?_; (try simp only [Lm, La, Lc, Ln, Lt, Ld, Lr, Li, true_or, or_true, true_and, and_true]); omega) | (simp <;> fail) | skip) [runM_nil]
  refine hK _ _ ?_
  clear hK K
  refine pwp_seq (pwp_seq ?_)
  first | refine pwp_sr ?_ | refine pwp_regionM ?_
  intro K hK
  simp (disch := first | (refine Ok.mk ?_; (try simp only [Lm, La, Lc, Ln, Lt, Ld, Lr, Li, true_or, or_true, true_and, and_true]); omega) | (simp <;> fail) | skip) [runM_nil]
  refine hK _ _ ?_
  clear hK K
  refine pwp_block ?_
  refine pwp_loopK [0, 1, 5, 6] (fun m st H' => ∃ i b cap, i ≤ n ∧ i ≤ cap ∧ cap ≤ 9223372036854775807 ∧ hget H b = none ∧ m = n - i ∧ H' = (b, repI k cap i) :: H ∧ st = MS 18 [(0, .int .i64 n), (1, .int .i64 k), (5, .row b 0 i cap), (6, .int .i64 i)]) (n := n)
    ⟨_, .refl _, 0, b0, 0, Nat.zero_le _, Nat.le_refl _, by omega, h_b0, rfl, by simp [repI], by simp [keepL_MS, keepA, getS]⟩ ?_
  rintro m st _ ⟨i, b, cap, hi, hic, hcm, hb, rfl, rfl, rfl⟩
  by_cases hin : i < n
  · have hln := repI_len k hic
    have htl := repI_lend k cap i
    have hup := repI_up k (n := cap) (i := i)
    have hcap : cap ≤ maxLen := by simp only [maxLen]; omega
    have hnw := repI_new k cap i
    have hlt : lendL ((repI k cap i).take i) = (repI k cap i).take i := by rw [repI_take]; exact lendL_replicate rfl i
    refine pwp_seq ?_
    first | refine pwp_sr ?_ | refine pwp_regionM ?_
    intro K hK
    simp (disch := first | (refine Ok.mk ?_; (try simp only [Lm, La, Lc, Ln, Lt, Ld, Lr, Li, true_or, or_true, true_and, and_true]); omega) | (simp <;> fail) | skip) [runM_nil]
    refine hK _ _ ?_
    clear hK K
    refine pwp_cT (by simp) (pwp_skip ?_)
    refine pwp_seq (pwp_block ?_)
    by_cases hc : i < cap
    · have hup := hup hc
      generalize hG : repI k cap i = G at *
      have hc2 : ¬ cap < i + 1 := by omega
      first | refine pwp_sr ?_ | refine pwp_regionM ?_
      intro K hK
      simp (disch := first | (refine Ok.mk ?_; (try simp only [Lm, La, Lc, Ln, Lt, Ld, Lr, Li, true_or, or_true, true_and, and_true]); omega) | (simp <;> fail) | skip) [runM_nil, hln, hup, hc, hc2, hcap]
      intro _
      try simp (disch := first | (refine Ok.mk ?_; (try simp only [Lm, La, Lc, Ln, Lt, Ld, Lr, Li, true_or, or_true, true_and, and_true]); omega) | (simp <;> fail) | skip) [runM_nil, hln, hup, hc, hc2, hcap]
      refine hK _ _ ?_
      clear hK K
      first | refine pwp_sr ?_ | refine pwp_regionM ?_
      intro K hK
      simp (disch := first | (refine Ok.mk ?_; (try simp only [Lm, La, Lc, Ln, Lt, Ld, Lr, Li, true_or, or_true, true_and, and_true]); omega) | (simp <;> fail) | skip) [runM_nil]
      refine hK _ _ ?_
      clear hK K
      exact ⟨n - (i + 1), by omega, _, .refl _, i + 1, b, cap, by omega, by omega, hcm, hb, rfl, rfl, by simp [keepL_MS, keepA, getS]⟩
    · generalize hG : repI k cap i = G at *
      have hc2 : cap < i + 1 := by omega
      have hc3 : ¬ i + 1 ≤ cap := by omega
      first | refine pwp_sr ?_ | refine pwp_regionM ?_
      intro K hK
      simp (disch := first | (refine Ok.mk ?_; (try simp only [Lm, La, Lc, Ln, Lt, Ld, Lr, Li, true_or, or_true, true_and, and_true]); omega) | (simp <;> fail) | skip) [runM_nil, hln, hlt, hnw, hc2, hc3, hcap]
      intro b' c' hb1 hb2 hb3
      try simp (disch := first | (refine Ok.mk ?_; (try simp only [Lm, La, Lc, Ln, Lt, Ld, Lr, Li, true_or, or_true, true_and, and_true]); omega) | (simp <;> fail) | skip) [runM_nil, hln, hlt, hnw, hc2, hc3, hcap]
      refine hK _ _ ?_
      clear hK K
      first | refine pwp_sr ?_ | refine pwp_regionM ?_
      intro K hK
      simp (disch := first | (refine Ok.mk ?_; (try simp only [Lm, La, Lc, Ln, Lt, Ld, Lr, Li, true_or, or_true, true_and, and_true]); omega) | (simp <;> fail) | skip) [runM_nil]
      refine hK _ _ ?_
      clear hK K
      have hb4 : hget H b' = none := by by_cases e : b = b' <;> simp_all
      exact ⟨n - (i + 1), by omega, _, .cons_cons _ (.cons _ (.refl _)), i + 1, b', c', by omega, hb2, by simpa only [maxLen] using hb3, hb4, rfl, rfl, by simp [keepL_MS, keepA, getS]⟩
  · obtain rfl : i = n := by omega
    refine pwp_seq ?_
    first | refine pwp_sr ?_ | refine pwp_regionM ?_
    intro K hK
    simp (disch := first | (refine Ok.mk ?_; (try simp only [Lm, La, Lc, Ln, Lt, Ld, Lr, Li, true_or, or_true, true_and, and_true]); omega) | (simp <;> fail) | skip) [runM_nil]
    refine hK _ _ ?_
    clear hK K
    refine pwp_cF (by simp) (pwp_exit ?_)
    first | refine pwp_sr ?_ | refine pwp_regionM ?_
    intro K hK
    simp (disch := first | (refine Ok.mk ?_; (try simp only [Lm, La, Lc, Ln, Lt, Ld, Lr, Li, true_or, or_true, true_and, and_true]); omega) | (simp <;> fail) | skip) [runM_nil]
    refine hK _ _ ?_
    clear hK K
    rw [repI]
    refine pwp_packM 4 (by omega) (by simp) hic hcm (lendL_replicate rfl i) rfl rfl ?_
    refine pwp_ret ⟨.inr rfl, _, _, (by simp (disch := first | (refine Ok.mk ?_; (try simp only [Lm, La, Lc, Ln, Lt, Ld, Lr, Li, true_or, or_true, true_and, and_true]); omega) | (simp <;> fail) | skip) [runM_nil, resL]; rfl), .refl _, by simp (disch := first | (refine Ok.mk ?_; (try simp only [Lm, La, Lc, Ln, Lt, Ld, Lr, Li, true_or, or_true, true_and, and_true]); omega) | (simp <;> fail) | skip) [resV], rfl⟩
end Go.Proofs.Ytibmolekndeofaa.E
/- Where a row of entries begins. -/
namespace Go.Proofs.Ytibmolekndeofaa.E
open Go Go.RowKit Go.Proofs
set_option linter.unusedVariables false
set_option linter.unusedSimpArgs false
def Beg (l : List En) (a : Nat) : Prop := a ≤ l.length ∧ (∀ (j : Nat) e, j < a → l[j]? = some e → e.k ≠ 1) ∧ ∀ e, l[a]? = some e → e.k = 1
theorem beg_ex : ∀ l : List En, ∃ a, Beg l a
  | [] => ⟨0, Nat.le_refl _, fun j e h => by omega, fun e h => by cases h⟩
  | x :: l => by
    by_cases hx : x.k = 1
    · exact ⟨0, Nat.zero_le _, fun j e h => by omega, fun e h => by cases h; exact hx⟩
    · obtain ⟨a, h1, h2, h3⟩ := beg_ex l
      refine ⟨a + 1, by rw [Lc]; omega, fun j e h he => ?_, fun e he => h3 e he⟩
      cases j with
      | zero => cases he; exact hx
      | succ j => exact h2 j e (by omega) he
theorem come_none {l : List En} {a : Nat} (h : Beg l a) : ∀ i, i ≤ a → comeJ (l.take i) = none := by
  intro i
  induction i with
  | zero => intro _; rfl
  | succ i ih =>
    intro hi
    have hlt : i < l.length := by have := h.1; omega
    rw [List.take_succ_eq_append_getElem hlt, come_snoc, ih (by omega), step_none, if_neg (h.2.1 i _ hi (List.getElem?_eq_getElem hlt))]
theorem come_beg {l : List En} {a : Nat} (h : Beg l a) (ha : a < l.length) : comeJ (l.take (a + 1)) = some (begJ l[a]) := by
  rw [List.take_succ_eq_append_getElem ha, come_snoc, come_none h a (Nat.le_refl _), step_none, if_pos (h.2.2 _ (List.getElem?_eq_getElem ha))]
theorem nm_ge {l : List En} (hm : ∀ e ∈ l, mayJ e = true) : ∀ i, i ≤ l.length → ∀ s, comeJ (l.take i) = some s → ∀ x ∈ s.nm, -1 ≤ x := by
  intro i
  induction i with
  | zero => intro _ s h; cases h
  | succ i ih =>
    intro h s hs
    rw [List.take_succ_eq_append_getElem (by omega), come_snoc] at hs
    have hme := hm _ (List.getElem_mem (show i < l.length by omega))
    have ih := ih (by omega)
    generalize comeJ (l.take i) = o at *
    generalize l[i] = e at *
    cases o with
    | none =>
      rw [step_none] at hs
      split at hs
      · cases hs
        intro x hx
        rw [List.eq_of_mem_replicate hx]
        omega
      · cases hs
    | some s0 =>
      have ih := ih s0 rfl
      rw [step_some] at hs
      repeat' split at hs
      all_goals cases hs
      · exact ih
      · exact ih
      · intro x hx
        simp only [nameS, nameL] at hx
        split at hx
        · have hy := (mayJ_iff.1 hme).2.2.1.1
          rcases List.mem_or_eq_of_mem_set hx with hx | rfl
          · exact ih x hx
          · omega
        · exact ih x hx
      · exact ih
      · exact ih
set_option maxRecDepth 8000 in
set_option maxHeartbeats 4000000 in
theorem begins_ok {l : List En} (hl : l.length ≤ 1000000000000) {a : Nat} (ha : Beg l a) {s : Nat} (hs : s = 4 ∨ l.length = 0) {o : Bool} : PSpec Try.prog 47 [.lst s (l.map enV) o] (.int .i64 a) := by
  intro H
  refine spec_of t47 (by simp [p47]) ?_
  simp only [p47]
  first | refine pwp_sr ?_ | refine pwp_regionM ?_
  intro K hK
  simp (disch := first | (refine Ok.mk ?_; (try simp only [Lm, La, Lc, Ln, Lt, Ld, Lr, Li, true_or, or_true, true_and, and_true]); omega) | (simp <;> fail) | skip) [runM_nil]
  refine hK _ _ ?_
  clear hK K
  refine pwp_seq (pwp_seq ?_)
  first | refine pwp_sr ?_ | refine pwp_regionM ?_
  intro K hK
  simp (disch := first | (refine Ok.mk ?_; (try simp only [Lm, La, Lc, Ln, Lt, Ld, Lr, Li, true_or, or_true, true_and, and_true]); omega) | (simp <;> fail) | skip) [runM_nil]
  refine hK _ _ ?_
  clear hK K
  refine pwp_block ?_
  refine pwp_loopK [0, 3] (fun m st H' => ∃ i, i ≤ a ∧ m = a - i ∧ H' = H ∧ st = MS 19 [(0, .lst s (l.map enV) o), (3, .int .i64 i)]) (n := a)
    ⟨_, .refl _, 0, Nat.zero_le _, rfl, rfl, by simp [keepL_MS, keepA, getS]⟩ ?_
  rintro m st H1 ⟨i, hi, rfl, rfl, rfl⟩
  obtain ⟨ha1, ha2, ha3⟩ := ha
  by_cases hlt : i < l.length
  · obtain rfl : s = 4 := by omega
    have hge2 : l[i]? = some l[i] := List.getElem?_eq_getElem hlt
    have q2 : i < a → l[i].k ≠ 1 := fun h => ha2 i _ h hge2
    have q3 : i = a → l[i].k = 1 := fun e => ha3 _ (by rw [← e]; exact hge2)
    generalize l[i] = e at *
    refine pwp_seq ?_
    first | refine pwp_sr ?_ | refine pwp_regionM ?_
    intro K hK
    simp (disch := first | (refine Ok.mk ?_; (try simp only [Lm, La, Lc, Ln, Lt, Ld, Lr, Li, true_or, or_true, true_and, and_true]); omega) | (simp <;> fail) | skip) [runM_nil]
    refine hK _ _ ?_
    clear hK K
    refine pwp_cT (by simp) (pwp_skip ?_)
    refine pwp_seq (pwp_block ?_)
    by_cases hia : i < a
    · have hk := q2 hia
      first | refine pwp_sr ?_ | refine pwp_regionM ?_
      intro K hK
      simp (disch := first | (refine Ok.mk ?_; (try simp only [Lm, La, Lc, Ln, Lt, Ld, Lr, Li, true_or, or_true, true_and, and_true]); omega) | (simp <;> fail) | skip) [runM_nil, hge2, enV, hk]
      refine hK _ _ ?_
      clear hK K
      refine pwp_cF (by simp) (pwp_skip ?_)
      first | refine pwp_sr ?_ | refine pwp_regionM ?_
      intro K hK
      simp (disch := first | (refine Ok.mk ?_; (try simp only [Lm, La, Lc, Ln, Lt, Ld, Lr, Li, true_or, or_true, true_and, and_true]); omega) | (simp <;> fail) | skip) [runM_nil]
      refine hK _ _ ?_
      clear hK K
      exact ⟨a - (i + 1), by omega, _, .refl _, i + 1, by omega, rfl, rfl, by simp [keepL_MS, keepA, getS]⟩
    · have hk := q3 (by omega)
      first | refine pwp_sr ?_ | refine pwp_regionM ?_
      intro K hK
      simp (disch := first | (refine Ok.mk ?_; (try simp only [Lm, La, Lc, Ln, Lt, Ld, Lr, Li, true_or, or_true, true_and, and_true]); omega) | (simp <;> fail) | skip) [runM_nil, hge2, enV, hk]
      refine hK _ _ ?_
      clear hK K
      refine pwp_cT (by simp) ?_
      first | refine pwp_sr ?_ | refine pwp_regionM ?_
      intro K hK
      simp (disch := first | (refine Ok.mk ?_; (try simp only [Lm, La, Lc, Ln, Lt, Ld, Lr, Li, true_or, or_true, true_and, and_true]); omega) | (simp <;> fail) | skip) [runM_nil]
      refine hK _ _ ?_
      clear hK K
      obtain rfl : i = a := by omega
      refine pwp_ret ⟨.inr rfl, _, _, (by simp (disch := first | (refine Ok.mk ?_; (try simp only [Lm, La, Lc, Ln, Lt, Ld, Lr, Li, true_or, or_true, true_and, and_true]); omega) | (simp <;> fail) | skip) [runM_nil, resL]; rfl), .refl _, by simp (disch := first | (refine Ok.mk ?_; (try simp only [Lm, La, Lc, Ln, Lt, Ld, Lr, Li, true_or, or_true, true_and, and_true]); omega) | (simp <;> fail) | skip) [resV], rfl⟩
  · refine pwp_seq ?_
    first | refine pwp_sr ?_ | refine pwp_regionM ?_
    intro K hK
    simp (disch := first | (refine Ok.mk ?_; (try simp only [Lm, La, Lc, Ln, Lt, Ld, Lr, Li, true_or, or_true, true_and, and_true]); omega) | (simp <;> fail) | skip) [runM_nil]
    refine hK _ _ ?_
    clear hK K
    refine pwp_cF (by simp) (pwp_exit ?_)
    first | refine pwp_sr ?_ | refine pwp_regionM ?_
    intro K hK
    simp (disch := first | (refine Ok.mk ?_; (try simp only [Lm, La, Lc, Ln, Lt, Ld, Lr, Li, true_or, or_true, true_and, and_true]); omega) | (simp <;> fail) | skip) [runM_nil]
    refine hK _ _ ?_
    clear hK K
    obtain rfl : a = l.length := by omega
    refine pwp_ret ⟨.inr rfl, _, _, (by simp (disch := first | (refine Ok.mk ?_; (try simp only [Lm, La, Lc, Ln, Lt, Ld, Lr, Li, true_or, or_true, true_and, and_true]); omega) | (simp <;> fail) | skip) [runM_nil, resL]; rfl), .refl _, by simp (disch := first | (refine Ok.mk ?_; (try simp only [Lm, La, Lc, Ln, Lt, Ld, Lr, Li, true_or, or_true, true_and, and_true]); omega) | (simp <;> fail) | skip) [resV], rfl⟩
end Go.Proofs.Ytibmolekndeofaa.E
/- The document's Come. -/
namespace Go.Proofs.Ytibmolekndeofaa.E
open Go Go.RowKit Go.Proofs
set_option linter.unusedVariables false
set_option linter.unusedSimpArgs false
set_option maxRecDepth 8000 in
set_option maxHeartbeats 16000000 in
theorem refCome_ok {l : List En} (hm : ∀ e ∈ l, mayJ e = true) (hl : l.length ≤ 1000000000000) {s : Nat} (hs : s = 4 ∨ l.length = 0) {o : Bool} : PSpec Try.prog 25 [.lst s (l.map enV) o] (stJ (comeJ l)) := by
  intro H
  obtain ⟨a, ha⟩ := beg_ex l
  have cb := begins_ok hl ha hs (o := false)
  refine spec_ofU t25b (by simp [p25b]) ?_
  simp only [p25b]
  first | refine pwp_sr ?_ | refine pwp_regionM ?_
  intro K hK
  simp (disch := first | (refine Ok.mk ?_; (try simp only [Lm, La, Lc, Ln, Lt, Ld, Lr, Li, true_or, or_true, true_and, and_true]); omega) | (simp <;> fail) | skip) [runM_nil]
  intro b2 h_b2
  try simp (disch := first | (refine Ok.mk ?_; (try simp only [Lm, La, Lc, Ln, Lt, Ld, Lr, Li, true_or, or_true, true_and, and_true]); omega) | (simp <;> fail) | skip) [runM_nil]
  refine hK _ _ ?_
  clear hK K
  first | refine pwp_sr ?_ | refine pwp_regionM ?_
  intro K hK
  simp (disch := first | (refine Ok.mk ?_; (try simp only [Lm, La, Lc, Ln, Lt, Ld, Lr, Li, true_or, or_true, true_and, and_true]); omega) | (simp <;> fail) | skip) [runM_nil]
  refine useP (cb) ?_
  simp (disch := first | (refine Ok.mk ?_; (try simp only [Lm, La, Lc, Ln, Lt, Ld, Lr, Li, true_or, or_true, true_and, and_true]); omega) | (simp <;> fail) | skip) [runM_nil]
  refine hK _ _ ?_
  clear hK K
  have hal := ha.1
  by_cases hla : a = l.length
  · have hn := come_none ha a (Nat.le_refl _)
    rw [hla, List.take_length] at hn
    rw [hn]
    refine pwp_seq ?_
    first | refine pwp_sr ?_ | refine pwp_regionM ?_
    intro K hK
    simp (disch := first | (refine Ok.mk ?_; (try simp only [Lm, La, Lc, Ln, Lt, Ld, Lr, Li, true_or, or_true, true_and, and_true]); omega) | (simp <;> fail) | skip) [runM_nil, hla]
    refine hK _ _ ?_
    clear hK K
    refine pwp_cT (by simp) ?_
    first | refine pwp_sr ?_ | refine pwp_regionM ?_
    intro K hK
    simp (disch := first | (refine Ok.mk ?_; (try simp only [Lm, La, Lc, Ln, Lt, Ld, Lr, Li, true_or, or_true, true_and, and_true]); omega) | (simp <;> fail) | skip) [runM_nil]
    refine hK _ _ ?_
    clear hK K
    refine pwp_ret ⟨.inr rfl, _, _, _, (by simp (disch := first | (refine Ok.mk ?_; (try simp only [Lm, La, Lc, Ln, Lt, Ld, Lr, Li, true_or, or_true, true_and, and_true]); omega) | (simp <;> fail) | skip) [runM_nil, resL, stJ]; rfl), (.cons _ (.refl _)), (by simp (disch := first | (refine Ok.mk ?_; (try simp only [Lm, La, Lc, Ln, Lt, Ld, Lr, Li, true_or, or_true, true_and, and_true]); omega) | (simp <;> fail) | skip) [resV, stJ]), rfl, rfl⟩
  have hlt : a < l.length := by omega
  obtain rfl : s = 4 := by omega
  have hge : l[a]? = some l[a] := List.getElem?_eq_getElem hlt
  have hcb := come_beg ha hlt
  have hma := hm _ (List.getElem_mem hlt)
  refine pwp_seq ?_
  first | refine pwp_sr ?_ | refine pwp_regionM ?_
  intro K hK
  simp (disch := first | (refine Ok.mk ?_; (try simp only [Lm, La, Lc, Ln, Lt, Ld, Lr, Li, true_or, or_true, true_and, and_true]); omega) | (simp <;> fail) | skip) [runM_nil, hla]
  refine hK _ _ ?_
  clear hK K
  refine pwp_cF (by simp) (pwp_skip ?_)
  generalize l[a] = e at *
  obtain ⟨k, t, y, w, rfl, h1, h2, h3, h4⟩ := may_nats hma
  have c1 := row_ok (-1) t (by omega)
  have c2 := row_ok (-1) y (by omega)
  first | refine pwp_sn hmix (by simp [MS_length]) ?_ | refine pwp_drawNS hmix (by simp [MS_length]) ?_
  intro K hK
  simp (disch := first | (refine Ok.mk ?_; (try simp only [Lm, La, Lc, Ln, Lt, Ld, Lr, Li, true_or, or_true, true_and, and_true]); omega) | (simp <;> fail) | skip) [runM_nil, planS_nil, hge, enV]
  refine useDS (c1) ?_
  simp (disch := first | (refine Ok.mk ?_; (try simp only [Lm, La, Lc, Ln, Lt, Ld, Lr, Li, true_or, or_true, true_and, and_true]); omega) | (simp <;> fail) | skip) [runM_nil, planS_nil, hge, enV]
  refine useDS (c1) ?_
  simp (disch := first | (refine Ok.mk ?_; (try simp only [Lm, La, Lc, Ln, Lt, Ld, Lr, Li, true_or, or_true, true_and, and_true]); omega) | (simp <;> fail) | skip) [runM_nil, planS_nil, hge, enV]
  refine useDS (c2) ?_
  simp (disch := first | (refine Ok.mk ?_; (try simp only [Lm, La, Lc, Ln, Lt, Ld, Lr, Li, true_or, or_true, true_and, and_true]); omega) | (simp <;> fail) | skip) [runM_nil, planS_nil, hge, enV]
  intro b4 h_b4
  have d_b4_b2 : ¬ b2 = b4 := fun e => by subst e; simp [hget] at h_b4
  try simp (disch := first | (refine Ok.mk ?_; (try simp only [Lm, La, Lc, Ln, Lt, Ld, Lr, Li, true_or, or_true, true_and, and_true]); omega) | (simp <;> fail) | skip) [runM_nil, planS_nil, hge, enV, d_b4_b2, Ne.symm d_b4_b2]
  refine hK _ _ ?_
  clear hK K
  have hlr : ∀ n : Nat, lendL (List.replicate n (PV.int .i64 (-1))) = List.replicate n (.int .i64 (-1)) := fun n => lendL_replicate rfl n
  have d0 := d_b4_b2
  show pwp Try.prog _ _ _ ((b4, begX t y) :: (b2, stC0) :: H)
  refine pwp_thawH (s := b4) (j := 3) (by simp [hget]; rfl) rfl (hlr t) rfl ?_
  intro bD cD kD hD1 hD2 hbD
  have e1 : ¬ b2 = bD := fun e => by subst e; simp [hget, Ne.symm d0, d0] at hbD
  have e2 : ¬ b4 = bD := fun e => by subst e; simp [hget] at hbD
  have e3 : hget H bD = none := by simpa [hget, e1, e2] using hbD
  refine pwp_thawH (s := b4) (j := 4) (by simp [hget, hset, Ne.symm e2]; rfl) rfl (hlr t) rfl ?_
  intro bB cB kB hB1 hB2 hbB
  have e4 : ¬ b2 = bB := fun e => by subst e; simp [hget, hset, Ne.symm d0, d0, e1, e2, Ne.symm e1, Ne.symm e2] at hbB
  have e5 : ¬ b4 = bB := fun e => by subst e; simp [hget, hset, e1, e2, Ne.symm e1, Ne.symm e2] at hbB
  have e6 : ¬ bD = bB := fun e => by subst e; simp [hget] at hbB
  have e7 : hget H bB = none := by simpa [hget, hset, e4, e5, e6, e2, Ne.symm e2] using hbB
  refine pwp_thawH (s := b4) (j := 5) (by simp [hget, hset, Ne.symm e2, Ne.symm e5]; rfl) rfl (hlr y) rfl ?_
  intro bN cN kN hN1 hN2 hbN
  have e8 : ¬ b2 = bN := fun e => by subst e; simp [hget, hset, Ne.symm d0, d0, e1, e2, e4, e5, Ne.symm e1, Ne.symm e2, Ne.symm e4, Ne.symm e5] at hbN
  have e9 : ¬ b4 = bN := fun e => by subst e; simp [hget, hset, e2, e5, Ne.symm e2, Ne.symm e5] at hbN
  have e10 : ¬ bD = bN := fun e => by subst e; simp [hget, hset, e6, Ne.symm e6, Ne.symm e5, e5, e2, Ne.symm e2] at hbN
  have e11 : ¬ bB = bN := fun e => by subst e; simp [hget] at hbN
  have e12 : hget H bN = none := by simpa [hget, hset, e8, e9, e10, e11, e2, Ne.symm e2, e5, Ne.symm e5] using hbN
  refine pwp_seq (pwp_seq ?_)
  first | refine pwp_sr ?_ | refine pwp_regionM ?_
  intro K hK
  simp (disch := first | (refine Ok.mk ?_; (try simp only [Lm, La, Lc, Ln, Lt, Ld, Lr, Li, true_or, or_true, true_and, and_true]); omega) | (simp <;> fail) | skip) [runM_nil]
  refine hK _ _ ?_
  clear hK K
  refine pwp_block ?_
  refine pwp_loopK [0, 2, 4, 5] (fun m st H' => ∃ i s, i ≤ l.length ∧ m = l.length - i ∧ comeJ (l.take i) = some s ∧ InvJ b4 b2 H (some s) H' ∧ st = MS 158 [(0, .lst 4 (l.map enV) o), (2, .ptr (some (b2, 0))), (4, .ptr (some (b4, 0))), (5, .int .i64 i)]) (n := l.length - (a + 1))
    ⟨_, .refl _, a + 1, _, by omega, rfl, hcb, ⟨bD, bB, bN, cD, cB, cN, kD, kB, kN, ⟨e1, e2, e3⟩, ⟨e4, e5, e6, e7⟩, ⟨e8, e9, e10, e11, e12⟩, ⟨by simpa [begJ] using hD1, hD2⟩, ⟨by simpa [begJ] using hB1, hB2⟩, ⟨by simpa [begJ] using hN1, hN2⟩, by simp [hset, e2, e5, Ne.symm e2, Ne.symm e5, stC, begX, begJ, rowC, iV]⟩, by simp [keepL_MS, keepA, getS]⟩ ?_
  clear e1 e2 e3 e4 e5 e6 e7 e8 e9 e10 e11 e12 hD1 hD2 hB1 hB2 hN1 hN2 hbD hbB hbN bD bB bN cD cB cN kD kB kN hge hcb hma c1 c2 h1 h2 h3 h4 k t y w cb hlr
  rintro m st H1 ⟨i, s, hi, rfl, hs, hI, rfl⟩
  by_cases hlt : i < l.length
  · have hge2 : l[i]? = some l[i] := List.getElem?_eq_getElem hlt
    have hmi := hm _ (List.getElem_mem hlt)
    have hts : comeJ (l.take (i + 1)) = stepJ l[i] (some s) := by rw [List.take_succ_eq_append_getElem hlt, come_snoc, hs]
    have hfit := (fit_come (l := l.take i) fun x hx => hm x (List.mem_of_mem_take hx)) s hs
    have hnn := nm_ge hm i (by omega) s hs
    generalize l[i] = e at *
    refine pwp_seq ?_
    first | refine pwp_sr ?_ | refine pwp_regionM ?_
    intro K hK
    simp (disch := first | (refine Ok.mk ?_; (try simp only [Lm, La, Lc, Ln, Lt, Ld, Lr, Li, true_or, or_true, true_and, and_true]); omega) | (simp <;> fail) | skip) [runM_nil]
    refine hK _ _ ?_
    clear hK K
    refine pwp_cT (by simp) (pwp_skip ?_)
    refine pwp_cut [0, 2, 4, 5] (fun st2 H2 => InvJ b4 b2 H (stepJ e (some s)) H2 ∧ st2 = MS 158 [(0, .lst 4 (l.map enV) o), (2, .ptr (some (b2, 0))), (4, .ptr (some (b4, 0))), (5, .int .i64 i)]) ?_ ?_
    · refine pwp_block ?_
      obtain ⟨hbl, hdl, hnl⟩ := hfit
      obtain ⟨bD, bB, bN, cD, cB, cN, kD, kB, kN, ⟨d_bD_b2, d_bD_b4, e3⟩, ⟨d_bB_b2, d_bB_b4, d_bB_bD, e7⟩, ⟨d_bN_b2, d_bN_b4, d_bN_bD, d_bN_bB, e12⟩, hcD, hcB, hcN, rfl⟩ := hI
      have fin : ∀ (dn' bw' nm' : List Int) (en' er' : Int), stepJ e (some s) = some ⟨dn', bw', nm', en', er'⟩ → dn'.length = s.dn.length → bw'.length = s.bw.length → nm'.length = s.nm.length →
          InvJ b4 b2 H (stepJ e (some s)) ((bN, rowC nm' kN) :: (bB, rowC bw' kB) :: (bD, rowC dn' kD) :: (b4, stC s.dn.length s.nm.length bD s.dn.length cD bB s.bw.length cB bN s.nm.length cN en' er') :: (b2, stC0) :: H) := by
        intro dn' bw' nm' en' er' h q1 q2 q3
        rw [h]
        exact ⟨bD, bB, bN, cD, cB, cN, kD, kB, kN, ⟨d_bD_b2, d_bD_b4, e3⟩, ⟨d_bB_b2, d_bB_b4, d_bB_bD, e7⟩, ⟨d_bN_b2, d_bN_b4, d_bN_bD, d_bN_bB, e12⟩, by simp only; omega, by simp only; omega, by simp only; omega, by rw [q1, q2, q3]⟩
      obtain ⟨dn, bw, nm, en, er⟩ := s
      simp only at *
      obtain ⟨k, t, y, w, rfl, h1, h2, h3, h4⟩ := may_nats hmi
      have hlD := rowC_len dn kD
      have hlB := rowC_len bw kB
      have hlN := rowC_len nm kN
      have gD := fun x => rowC_get (l := dn) (k := kD) (t := t) (x := x)
      have gN := fun x => rowC_get (l := nm) (k := kN) (t := t) (x := x)
      have sD := fun v => rowC_set (l := dn) (k := kD) (t := t) v
      have sB := fun v => rowC_set (l := bw) (k := kB) (t := t) v
      have sN := fun v => rowC_set (l := nm) (k := kN) (t := t) v
      first | refine pwp_sr ?_ | refine pwp_regionM ?_
      intro K hK
      simp (disch := first | (refine Ok.mk ?_; (try simp only [Lm, La, Lc, Ln, Lt, Ld, Lr, Li, true_or, or_true, true_and, and_true]); omega) | (simp <;> fail) | skip) [runM_nil, hge2, enV, stC, d_b4_b2, Ne.symm d_b4_b2, d_bD_b2, Ne.symm d_bD_b2, d_bD_b4, Ne.symm d_bD_b4, d_bB_b2, Ne.symm d_bB_b2, d_bB_b4, Ne.symm d_bB_b4, d_bB_bD, Ne.symm d_bB_bD, d_bN_b2, Ne.symm d_bN_b2, d_bN_b4, Ne.symm d_bN_b4, d_bN_bD, Ne.symm d_bN_bD, d_bN_bB, Ne.symm d_bN_bB]
      intro b6 h_b6
      have d_b6_b2 : ¬ b2 = b6 := fun e => by subst e; simp [hget, d_b4_b2, Ne.symm d_b4_b2, d_bD_b2, Ne.symm d_bD_b2, d_bD_b4, Ne.symm d_bD_b4, d_bB_b2, Ne.symm d_bB_b2, d_bB_b4, Ne.symm d_bB_b4, d_bB_bD, Ne.symm d_bB_bD, d_bN_b2, Ne.symm d_bN_b2, d_bN_b4, Ne.symm d_bN_b4, d_bN_bD, Ne.symm d_bN_bD, d_bN_bB, Ne.symm d_bN_bB] at h_b6
      have d_b6_b4 : ¬ b4 = b6 := fun e => by subst e; simp [hget, d_b4_b2, Ne.symm d_b4_b2, d_bD_b2, Ne.symm d_bD_b2, d_bD_b4, Ne.symm d_bD_b4, d_bB_b2, Ne.symm d_bB_b2, d_bB_b4, Ne.symm d_bB_b4, d_bB_bD, Ne.symm d_bB_bD, d_bN_b2, Ne.symm d_bN_b2, d_bN_b4, Ne.symm d_bN_b4, d_bN_bD, Ne.symm d_bN_bD, d_bN_bB, Ne.symm d_bN_bB] at h_b6
      have d_b6_bD : ¬ bD = b6 := fun e => by subst e; simp [hget, d_b4_b2, Ne.symm d_b4_b2, d_bD_b2, Ne.symm d_bD_b2, d_bD_b4, Ne.symm d_bD_b4, d_bB_b2, Ne.symm d_bB_b2, d_bB_b4, Ne.symm d_bB_b4, d_bB_bD, Ne.symm d_bB_bD, d_bN_b2, Ne.symm d_bN_b2, d_bN_b4, Ne.symm d_bN_b4, d_bN_bD, Ne.symm d_bN_bD, d_bN_bB, Ne.symm d_bN_bB] at h_b6
      have d_b6_bB : ¬ bB = b6 := fun e => by subst e; simp [hget, d_b4_b2, Ne.symm d_b4_b2, d_bD_b2, Ne.symm d_bD_b2, d_bD_b4, Ne.symm d_bD_b4, d_bB_b2, Ne.symm d_bB_b2, d_bB_b4, Ne.symm d_bB_b4, d_bB_bD, Ne.symm d_bB_bD, d_bN_b2, Ne.symm d_bN_b2, d_bN_b4, Ne.symm d_bN_b4, d_bN_bD, Ne.symm d_bN_bD, d_bN_bB, Ne.symm d_bN_bB] at h_b6
      have d_b6_bN : ¬ bN = b6 := fun e => by subst e; simp [hget, d_b4_b2, Ne.symm d_b4_b2, d_bD_b2, Ne.symm d_bD_b2, d_bD_b4, Ne.symm d_bD_b4, d_bB_b2, Ne.symm d_bB_b2, d_bB_b4, Ne.symm d_bB_b4, d_bB_bD, Ne.symm d_bB_bD, d_bN_b2, Ne.symm d_bN_b2, d_bN_b4, Ne.symm d_bN_b4, d_bN_bD, Ne.symm d_bN_bD, d_bN_bB, Ne.symm d_bN_bB] at h_b6
      try simp (disch := first | (refine Ok.mk ?_; (try simp only [Lm, La, Lc, Ln, Lt, Ld, Lr, Li, true_or, or_true, true_and, and_true]); omega) | (simp <;> fail) | skip) [runM_nil, hge2, enV, stC, d_b4_b2, Ne.symm d_b4_b2, d_bD_b2, Ne.symm d_bD_b2, d_bD_b4, Ne.symm d_bD_b4, d_bB_b2, Ne.symm d_bB_b2, d_bB_b4, Ne.symm d_bB_b4, d_bB_bD, Ne.symm d_bB_bD, d_bN_b2, Ne.symm d_bN_b2, d_bN_b4, Ne.symm d_bN_b4, d_bN_bD, Ne.symm d_bN_bD, d_bN_bB, Ne.symm d_bN_bB, d_b6_b2, Ne.symm d_b6_b2, d_b6_b4, Ne.symm d_b6_b4, d_b6_bD, Ne.symm d_b6_bD, d_b6_bB, Ne.symm d_b6_bB, d_b6_bN, Ne.symm d_b6_bN]
      refine hK _ _ ?_
      clear hK K
      refine pwp_block ?_
      rcases (show k = 1 ∨ k = 2 ∨ k = 3 ∨ k = 4 ∨ k = 5 ∨ k = 6 by omega) with rfl | rfl | rfl | rfl | rfl | rfl
      · have hst := step_some ⟨(1 : Nat), t, y, w⟩ ⟨dn, bw, nm, en, er⟩
        simp at hst
        first | refine pwp_sr ?_ | refine pwp_regionM ?_
        intro K hK
        simp (disch := first | (refine Ok.mk ?_; (try simp only [Lm, La, Lc, Ln, Lt, Ld, Lr, Li, true_or, or_true, true_and, and_true]); omega) | (simp <;> fail) | skip) [runM_nil, stC, d_b4_b2, Ne.symm d_b4_b2, d_bD_b2, Ne.symm d_bD_b2, d_bD_b4, Ne.symm d_bD_b4, d_bB_b2, Ne.symm d_bB_b2, d_bB_b4, Ne.symm d_bB_b4, d_bB_bD, Ne.symm d_bB_bD, d_bN_b2, Ne.symm d_bN_b2, d_bN_b4, Ne.symm d_bN_b4, d_bN_bD, Ne.symm d_bN_bD, d_bN_bB, Ne.symm d_bN_bB, d_b6_b2, Ne.symm d_b6_b2, d_b6_b4, Ne.symm d_b6_b4, d_b6_bD, Ne.symm d_b6_bD, d_b6_bB, Ne.symm d_b6_bB, d_b6_bN, Ne.symm d_b6_bN]
        refine hK _ _ ?_
        clear hK K
        refine pwp_cF (by simp) ?_
        first | refine pwp_sd hmix ?_ | refine pwp_drawM hmix ?_
        intro K hK
        simp (disch := first | (refine Ok.mk ?_; (try simp only [Lm, La, Lc, Ln, Lt, Ld, Lr, Li, true_or, or_true, true_and, and_true]); omega) | (simp <;> fail) | skip) [runM_nil, stC, d_b4_b2, Ne.symm d_b4_b2, d_bD_b2, Ne.symm d_bD_b2, d_bD_b4, Ne.symm d_bD_b4, d_bB_b2, Ne.symm d_bB_b2, d_bB_b4, Ne.symm d_bB_b4, d_bB_bD, Ne.symm d_bB_bD, d_bN_b2, Ne.symm d_bN_b2, d_bN_b4, Ne.symm d_bN_b4, d_bN_bD, Ne.symm d_bN_bD, d_bN_bB, Ne.symm d_bN_bB, d_b6_b2, Ne.symm d_b6_b2, d_b6_b4, Ne.symm d_b6_b4, d_b6_bD, Ne.symm d_b6_bD, d_b6_bB, Ne.symm d_b6_bB, d_b6_bN, Ne.symm d_b6_bN]
        refine hK _ _ ?_
        clear hK K
        refine pwp_cF (by simp) ?_
        first | refine pwp_sr ?_ | refine pwp_regionM ?_
        intro K hK
        simp (disch := first | (refine Ok.mk ?_; (try simp only [Lm, La, Lc, Ln, Lt, Ld, Lr, Li, true_or, or_true, true_and, and_true]); omega) | (simp <;> fail) | skip) [runM_nil, stC, d_b4_b2, Ne.symm d_b4_b2, d_bD_b2, Ne.symm d_bD_b2, d_bD_b4, Ne.symm d_bD_b4, d_bB_b2, Ne.symm d_bB_b2, d_bB_b4, Ne.symm d_bB_b4, d_bB_bD, Ne.symm d_bB_bD, d_bN_b2, Ne.symm d_bN_b2, d_bN_b4, Ne.symm d_bN_b4, d_bN_bD, Ne.symm d_bN_bD, d_bN_bB, Ne.symm d_bN_bB, d_b6_b2, Ne.symm d_b6_b2, d_b6_b4, Ne.symm d_b6_b4, d_b6_bD, Ne.symm d_b6_bD, d_b6_bB, Ne.symm d_b6_bB, d_b6_bN, Ne.symm d_b6_bN]
        refine hK _ _ ?_
        clear hK K
        refine pwp_cF (by simp) ?_
        first | refine pwp_sr ?_ | refine pwp_regionM ?_
        intro K hK
        simp (disch := first | (refine Ok.mk ?_; (try simp only [Lm, La, Lc, Ln, Lt, Ld, Lr, Li, true_or, or_true, true_and, and_true]); omega) | (simp <;> fail) | skip) [runM_nil, stC, d_b4_b2, Ne.symm d_b4_b2, d_bD_b2, Ne.symm d_bD_b2, d_bD_b4, Ne.symm d_bD_b4, d_bB_b2, Ne.symm d_bB_b2, d_bB_b4, Ne.symm d_bB_b4, d_bB_bD, Ne.symm d_bB_bD, d_bN_b2, Ne.symm d_bN_b2, d_bN_b4, Ne.symm d_bN_b4, d_bN_bD, Ne.symm d_bN_bD, d_bN_bB, Ne.symm d_bN_bB, d_b6_b2, Ne.symm d_b6_b2, d_b6_b4, Ne.symm d_b6_b4, d_b6_bD, Ne.symm d_b6_bD, d_b6_bB, Ne.symm d_b6_bB, d_b6_bN, Ne.symm d_b6_bN]
        refine hK _ _ ?_
        clear hK K
        refine pwp_cF (by simp) (pwp_skip ?_)
        exact cut_to (by simp [keepA, getS]) (.cons _ (.refl _)) ⟨fin (dn) (bw) (nm) (en) (er) hst rfl rfl rfl, rfl⟩
      · have hst := step_some ⟨(2 : Nat), t, y, w⟩ ⟨dn, bw, nm, en, er⟩
        by_cases ht : t < dn.length
        · simp [noteS, noteL, ht] at hst
          have s1 := sD y ht
          have s2 := sB w (by omega)
          first | refine pwp_sr ?_ | refine pwp_regionM ?_
          intro K hK
          simp (disch := first | (refine Ok.mk ?_; (try simp only [Lm, La, Lc, Ln, Lt, Ld, Lr, Li, true_or, or_true, true_and, and_true]); omega) | (simp <;> fail) | skip) [runM_nil, stC, ht, d_b4_b2, Ne.symm d_b4_b2, d_bD_b2, Ne.symm d_bD_b2, d_bD_b4, Ne.symm d_bD_b4, d_bB_b2, Ne.symm d_bB_b2, d_bB_b4, Ne.symm d_bB_b4, d_bB_bD, Ne.symm d_bB_bD, d_bN_b2, Ne.symm d_bN_b2, d_bN_b4, Ne.symm d_bN_b4, d_bN_bD, Ne.symm d_bN_bD, d_bN_bB, Ne.symm d_bN_bB, d_b6_b2, Ne.symm d_b6_b2, d_b6_b4, Ne.symm d_b6_b4, d_b6_bD, Ne.symm d_b6_bD, d_b6_bB, Ne.symm d_b6_bB, d_b6_bN, Ne.symm d_b6_bN]
          refine hK _ _ ?_
          clear hK K
          refine pwp_cT (by simp) ?_
          first | refine pwp_sr ?_ | refine pwp_regionM ?_
          intro K hK
          simp (disch := first | (refine Ok.mk ?_; (try simp only [Lm, La, Lc, Ln, Lt, Ld, Lr, Li, true_or, or_true, true_and, and_true]); omega) | (simp <;> fail) | skip) [runM_nil, stC, hlD, s1, d_b4_b2, Ne.symm d_b4_b2, d_bD_b2, Ne.symm d_bD_b2, d_bD_b4, Ne.symm d_bD_b4, d_bB_b2, Ne.symm d_bB_b2, d_bB_b4, Ne.symm d_bB_b4, d_bB_bD, Ne.symm d_bB_bD, d_bN_b2, Ne.symm d_bN_b2, d_bN_b4, Ne.symm d_bN_b4, d_bN_bD, Ne.symm d_bN_bD, d_bN_bB, Ne.symm d_bN_bB, d_b6_b2, Ne.symm d_b6_b2, d_b6_b4, Ne.symm d_b6_b4, d_b6_bD, Ne.symm d_b6_bD, d_b6_bB, Ne.symm d_b6_bB, d_b6_bN, Ne.symm d_b6_bN]
          refine hK _ _ ?_
          clear hK K
          first | refine pwp_sr ?_ | refine pwp_regionM ?_
          intro K hK
          simp (disch := first | (refine Ok.mk ?_; (try simp only [Lm, La, Lc, Ln, Lt, Ld, Lr, Li, true_or, or_true, true_and, and_true]); omega) | (simp <;> fail) | skip) [runM_nil, stC, hlB, s2, d_b4_b2, Ne.symm d_b4_b2, d_bD_b2, Ne.symm d_bD_b2, d_bD_b4, Ne.symm d_bD_b4, d_bB_b2, Ne.symm d_bB_b2, d_bB_b4, Ne.symm d_bB_b4, d_bB_bD, Ne.symm d_bB_bD, d_bN_b2, Ne.symm d_bN_b2, d_bN_b4, Ne.symm d_bN_b4, d_bN_bD, Ne.symm d_bN_bD, d_bN_bB, Ne.symm d_bN_bB, d_b6_b2, Ne.symm d_b6_b2, d_b6_b4, Ne.symm d_b6_b4, d_b6_bD, Ne.symm d_b6_bD, d_b6_bB, Ne.symm d_b6_bB, d_b6_bN, Ne.symm d_b6_bN]
          refine hK _ _ ?_
          clear hK K
          exact cut_to (by simp [keepA, getS]) (.cons _ (.refl _)) ⟨fin (dn.set t y) (bw.set t w) (nm) (en) (er) hst (by simp) (by simp) rfl, rfl⟩
        · simp [noteS, noteL, ht] at hst
          first | refine pwp_sr ?_ | refine pwp_regionM ?_
          intro K hK
          simp (disch := first | (refine Ok.mk ?_; (try simp only [Lm, La, Lc, Ln, Lt, Ld, Lr, Li, true_or, or_true, true_and, and_true]); omega) | (simp <;> fail) | skip) [runM_nil, stC, ht, d_b4_b2, Ne.symm d_b4_b2, d_bD_b2, Ne.symm d_bD_b2, d_bD_b4, Ne.symm d_bD_b4, d_bB_b2, Ne.symm d_bB_b2, d_bB_b4, Ne.symm d_bB_b4, d_bB_bD, Ne.symm d_bB_bD, d_bN_b2, Ne.symm d_bN_b2, d_bN_b4, Ne.symm d_bN_b4, d_bN_bD, Ne.symm d_bN_bD, d_bN_bB, Ne.symm d_bN_bB, d_b6_b2, Ne.symm d_b6_b2, d_b6_b4, Ne.symm d_b6_b4, d_b6_bD, Ne.symm d_b6_bD, d_b6_bB, Ne.symm d_b6_bB, d_b6_bN, Ne.symm d_b6_bN]
          refine hK _ _ ?_
          clear hK K
          refine pwp_cF (by simp) ?_
          first | refine pwp_sd hmix ?_ | refine pwp_drawM hmix ?_
          intro K hK
          simp (disch := first | (refine Ok.mk ?_; (try simp only [Lm, La, Lc, Ln, Lt, Ld, Lr, Li, true_or, or_true, true_and, and_true]); omega) | (simp <;> fail) | skip) [runM_nil, stC, ht, d_b4_b2, Ne.symm d_b4_b2, d_bD_b2, Ne.symm d_bD_b2, d_bD_b4, Ne.symm d_bD_b4, d_bB_b2, Ne.symm d_bB_b2, d_bB_b4, Ne.symm d_bB_b4, d_bB_bD, Ne.symm d_bB_bD, d_bN_b2, Ne.symm d_bN_b2, d_bN_b4, Ne.symm d_bN_b4, d_bN_bD, Ne.symm d_bN_bD, d_bN_bB, Ne.symm d_bN_bB, d_b6_b2, Ne.symm d_b6_b2, d_b6_b4, Ne.symm d_b6_b4, d_b6_bD, Ne.symm d_b6_bD, d_b6_bB, Ne.symm d_b6_bB, d_b6_bN, Ne.symm d_b6_bN]
          refine hK _ _ ?_
          clear hK K
          refine pwp_cF (by simp) ?_
          first | refine pwp_sr ?_ | refine pwp_regionM ?_
          intro K hK
          simp (disch := first | (refine Ok.mk ?_; (try simp only [Lm, La, Lc, Ln, Lt, Ld, Lr, Li, true_or, or_true, true_and, and_true]); omega) | (simp <;> fail) | skip) [runM_nil, stC, ht, d_b4_b2, Ne.symm d_b4_b2, d_bD_b2, Ne.symm d_bD_b2, d_bD_b4, Ne.symm d_bD_b4, d_bB_b2, Ne.symm d_bB_b2, d_bB_b4, Ne.symm d_bB_b4, d_bB_bD, Ne.symm d_bB_bD, d_bN_b2, Ne.symm d_bN_b2, d_bN_b4, Ne.symm d_bN_b4, d_bN_bD, Ne.symm d_bN_bD, d_bN_bB, Ne.symm d_bN_bB, d_b6_b2, Ne.symm d_b6_b2, d_b6_b4, Ne.symm d_b6_b4, d_b6_bD, Ne.symm d_b6_bD, d_b6_bB, Ne.symm d_b6_bB, d_b6_bN, Ne.symm d_b6_bN]
          refine hK _ _ ?_
          clear hK K
          refine pwp_cF (by simp) ?_
          first | refine pwp_sr ?_ | refine pwp_regionM ?_
          intro K hK
          simp (disch := first | (refine Ok.mk ?_; (try simp only [Lm, La, Lc, Ln, Lt, Ld, Lr, Li, true_or, or_true, true_and, and_true]); omega) | (simp <;> fail) | skip) [runM_nil, stC, ht, d_b4_b2, Ne.symm d_b4_b2, d_bD_b2, Ne.symm d_bD_b2, d_bD_b4, Ne.symm d_bD_b4, d_bB_b2, Ne.symm d_bB_b2, d_bB_b4, Ne.symm d_bB_b4, d_bB_bD, Ne.symm d_bB_bD, d_bN_b2, Ne.symm d_bN_b2, d_bN_b4, Ne.symm d_bN_b4, d_bN_bD, Ne.symm d_bN_bD, d_bN_bB, Ne.symm d_bN_bB, d_b6_b2, Ne.symm d_b6_b2, d_b6_b4, Ne.symm d_b6_b4, d_b6_bD, Ne.symm d_b6_bD, d_b6_bB, Ne.symm d_b6_bB, d_b6_bN, Ne.symm d_b6_bN]
          refine hK _ _ ?_
          clear hK K
          refine pwp_cF (by simp) (pwp_skip ?_)
          exact cut_to (by simp [keepA, getS]) (.cons _ (.refl _)) ⟨fin (dn) (bw) (nm) (en) (er) hst rfl rfl rfl, rfl⟩
      · have hst := step_some ⟨(3 : Nat), t, y, w⟩ ⟨dn, bw, nm, en, er⟩
        by_cases ht : t < dn.length
        · have hge : dn[t]? = some dn[t] := List.getElem?_eq_getElem ht
          have g1 := gD _ hge
          have s1 := sD (-1) ht
          have s2 := sB (-1) (by omega)
          by_cases hq : dn[t] = y
          · rw [hq] at g1
            simp [noteS, noteL, ht, hq] at hst
            first | refine pwp_sr ?_ | refine pwp_regionM ?_
            intro K hK
            simp (disch := first | (refine Ok.mk ?_; (try simp only [Lm, La, Lc, Ln, Lt, Ld, Lr, Li, true_or, or_true, true_and, and_true]); omega) | (simp <;> fail) | skip) [runM_nil, stC, d_b4_b2, Ne.symm d_b4_b2, d_bD_b2, Ne.symm d_bD_b2, d_bD_b4, Ne.symm d_bD_b4, d_bB_b2, Ne.symm d_bB_b2, d_bB_b4, Ne.symm d_bB_b4, d_bB_bD, Ne.symm d_bB_bD, d_bN_b2, Ne.symm d_bN_b2, d_bN_b4, Ne.symm d_bN_b4, d_bN_bD, Ne.symm d_bN_bD, d_bN_bB, Ne.symm d_bN_bB, d_b6_b2, Ne.symm d_b6_b2, d_b6_b4, Ne.symm d_b6_b4, d_b6_bD, Ne.symm d_b6_bD, d_b6_bB, Ne.symm d_b6_bB, d_b6_bN, Ne.symm d_b6_bN]
            refine hK _ _ ?_
            clear hK K
            refine pwp_cF (by simp) ?_
            first | refine pwp_sd hmix ?_ | refine pwp_drawM hmix ?_
            intro K hK
            simp (disch := first | (refine Ok.mk ?_; (try simp only [Lm, La, Lc, Ln, Lt, Ld, Lr, Li, true_or, or_true, true_and, and_true]); omega) | (simp <;> fail) | skip) [runM_nil, stC, ht, g1, hlD, d_b4_b2, Ne.symm d_b4_b2, d_bD_b2, Ne.symm d_bD_b2, d_bD_b4, Ne.symm d_bD_b4, d_bB_b2, Ne.symm d_bB_b2, d_bB_b4, Ne.symm d_bB_b4, d_bB_bD, Ne.symm d_bB_bD, d_bN_b2, Ne.symm d_bN_b2, d_bN_b4, Ne.symm d_bN_b4, d_bN_bD, Ne.symm d_bN_bD, d_bN_bB, Ne.symm d_bN_bB, d_b6_b2, Ne.symm d_b6_b2, d_b6_b4, Ne.symm d_b6_b4, d_b6_bD, Ne.symm d_b6_bD, d_b6_bB, Ne.symm d_b6_bB, d_b6_bN, Ne.symm d_b6_bN]
            refine hK _ _ ?_
            clear hK K
            refine pwp_cT (by simp) ?_
            first | refine pwp_sr ?_ | refine pwp_regionM ?_
            intro K hK
            simp (disch := first | (refine Ok.mk ?_; (try simp only [Lm, La, Lc, Ln, Lt, Ld, Lr, Li, true_or, or_true, true_and, and_true]); omega) | (simp <;> fail) | skip) [runM_nil, stC, hlD, s1, d_b4_b2, Ne.symm d_b4_b2, d_bD_b2, Ne.symm d_bD_b2, d_bD_b4, Ne.symm d_bD_b4, d_bB_b2, Ne.symm d_bB_b2, d_bB_b4, Ne.symm d_bB_b4, d_bB_bD, Ne.symm d_bB_bD, d_bN_b2, Ne.symm d_bN_b2, d_bN_b4, Ne.symm d_bN_b4, d_bN_bD, Ne.symm d_bN_bD, d_bN_bB, Ne.symm d_bN_bB, d_b6_b2, Ne.symm d_b6_b2, d_b6_b4, Ne.symm d_b6_b4, d_b6_bD, Ne.symm d_b6_bD, d_b6_bB, Ne.symm d_b6_bB, d_b6_bN, Ne.symm d_b6_bN]
            refine hK _ _ ?_
            clear hK K
            first | refine pwp_sr ?_ | refine pwp_regionM ?_
            intro K hK
            simp (disch := first | (refine Ok.mk ?_; (try simp only [Lm, La, Lc, Ln, Lt, Ld, Lr, Li, true_or, or_true, true_and, and_true]); omega) | (simp <;> fail) | skip) [runM_nil, stC, hlB, s2, d_b4_b2, Ne.symm d_b4_b2, d_bD_b2, Ne.symm d_bD_b2, d_bD_b4, Ne.symm d_bD_b4, d_bB_b2, Ne.symm d_bB_b2, d_bB_b4, Ne.symm d_bB_b4, d_bB_bD, Ne.symm d_bB_bD, d_bN_b2, Ne.symm d_bN_b2, d_bN_b4, Ne.symm d_bN_b4, d_bN_bD, Ne.symm d_bN_bD, d_bN_bB, Ne.symm d_bN_bB, d_b6_b2, Ne.symm d_b6_b2, d_b6_b4, Ne.symm d_b6_b4, d_b6_bD, Ne.symm d_b6_bD, d_b6_bB, Ne.symm d_b6_bB, d_b6_bN, Ne.symm d_b6_bN]
            refine hK _ _ ?_
            clear hK K
            exact cut_to (by simp [keepA, getS]) (.cons _ (.refl _)) ⟨fin (dn.set t (-1)) (bw.set t (-1)) (nm) (en) (er) hst (by simp) (by simp) rfl, rfl⟩
          · simp [noteS, noteL, ht, hq] at hst
            first | refine pwp_sr ?_ | refine pwp_regionM ?_
            intro K hK
            simp (disch := first | (refine Ok.mk ?_; (try simp only [Lm, La, Lc, Ln, Lt, Ld, Lr, Li, true_or, or_true, true_and, and_true]); omega) | (simp <;> fail) | skip) [runM_nil, stC, d_b4_b2, Ne.symm d_b4_b2, d_bD_b2, Ne.symm d_bD_b2, d_bD_b4, Ne.symm d_bD_b4, d_bB_b2, Ne.symm d_bB_b2, d_bB_b4, Ne.symm d_bB_b4, d_bB_bD, Ne.symm d_bB_bD, d_bN_b2, Ne.symm d_bN_b2, d_bN_b4, Ne.symm d_bN_b4, d_bN_bD, Ne.symm d_bN_bD, d_bN_bB, Ne.symm d_bN_bB, d_b6_b2, Ne.symm d_b6_b2, d_b6_b4, Ne.symm d_b6_b4, d_b6_bD, Ne.symm d_b6_bD, d_b6_bB, Ne.symm d_b6_bB, d_b6_bN, Ne.symm d_b6_bN]
            refine hK _ _ ?_
            clear hK K
            refine pwp_cF (by simp) ?_
            first | refine pwp_sd hmix ?_ | refine pwp_drawM hmix ?_
            intro K hK
            simp (disch := first | (refine Ok.mk ?_; (try simp only [Lm, La, Lc, Ln, Lt, Ld, Lr, Li, true_or, or_true, true_and, and_true]); omega) | (simp <;> fail) | skip) [runM_nil, stC, ht, g1, hlD, hq, d_b4_b2, Ne.symm d_b4_b2, d_bD_b2, Ne.symm d_bD_b2, d_bD_b4, Ne.symm d_bD_b4, d_bB_b2, Ne.symm d_bB_b2, d_bB_b4, Ne.symm d_bB_b4, d_bB_bD, Ne.symm d_bB_bD, d_bN_b2, Ne.symm d_bN_b2, d_bN_b4, Ne.symm d_bN_b4, d_bN_bD, Ne.symm d_bN_bD, d_bN_bB, Ne.symm d_bN_bB, d_b6_b2, Ne.symm d_b6_b2, d_b6_b4, Ne.symm d_b6_b4, d_b6_bD, Ne.symm d_b6_bD, d_b6_bB, Ne.symm d_b6_bB, d_b6_bN, Ne.symm d_b6_bN]
            refine hK _ _ ?_
            clear hK K
            refine pwp_cF (by simp) ?_
            first | refine pwp_sr ?_ | refine pwp_regionM ?_
            intro K hK
            simp (disch := first | (refine Ok.mk ?_; (try simp only [Lm, La, Lc, Ln, Lt, Ld, Lr, Li, true_or, or_true, true_and, and_true]); omega) | (simp <;> fail) | skip) [runM_nil, stC, ht, g1, hlD, hq, d_b4_b2, Ne.symm d_b4_b2, d_bD_b2, Ne.symm d_bD_b2, d_bD_b4, Ne.symm d_bD_b4, d_bB_b2, Ne.symm d_bB_b2, d_bB_b4, Ne.symm d_bB_b4, d_bB_bD, Ne.symm d_bB_bD, d_bN_b2, Ne.symm d_bN_b2, d_bN_b4, Ne.symm d_bN_b4, d_bN_bD, Ne.symm d_bN_bD, d_bN_bB, Ne.symm d_bN_bB, d_b6_b2, Ne.symm d_b6_b2, d_b6_b4, Ne.symm d_b6_b4, d_b6_bD, Ne.symm d_b6_bD, d_b6_bB, Ne.symm d_b6_bB, d_b6_bN, Ne.symm d_b6_bN]
            refine hK _ _ ?_
            clear hK K
            refine pwp_cF (by simp) ?_
            first | refine pwp_sr ?_ | refine pwp_regionM ?_
            intro K hK
            simp (disch := first | (refine Ok.mk ?_; (try simp only [Lm, La, Lc, Ln, Lt, Ld, Lr, Li, true_or, or_true, true_and, and_true]); omega) | (simp <;> fail) | skip) [runM_nil, stC, ht, g1, hlD, hq, d_b4_b2, Ne.symm d_b4_b2, d_bD_b2, Ne.symm d_bD_b2, d_bD_b4, Ne.symm d_bD_b4, d_bB_b2, Ne.symm d_bB_b2, d_bB_b4, Ne.symm d_bB_b4, d_bB_bD, Ne.symm d_bB_bD, d_bN_b2, Ne.symm d_bN_b2, d_bN_b4, Ne.symm d_bN_b4, d_bN_bD, Ne.symm d_bN_bD, d_bN_bB, Ne.symm d_bN_bB, d_b6_b2, Ne.symm d_b6_b2, d_b6_b4, Ne.symm d_b6_b4, d_b6_bD, Ne.symm d_b6_bD, d_b6_bB, Ne.symm d_b6_bB, d_b6_bN, Ne.symm d_b6_bN]
            refine hK _ _ ?_
            clear hK K
            refine pwp_cF (by simp) (pwp_skip ?_)
            exact cut_to (by simp [keepA, getS]) (.cons _ (.refl _)) ⟨fin (dn) (bw) (nm) (en) (er) hst rfl rfl rfl, rfl⟩
        · simp [noteS, noteL, ht] at hst
          first | refine pwp_sr ?_ | refine pwp_regionM ?_
          intro K hK
          simp (disch := first | (refine Ok.mk ?_; (try simp only [Lm, La, Lc, Ln, Lt, Ld, Lr, Li, true_or, or_true, true_and, and_true]); omega) | (simp <;> fail) | skip) [runM_nil, stC, ht, d_b4_b2, Ne.symm d_b4_b2, d_bD_b2, Ne.symm d_bD_b2, d_bD_b4, Ne.symm d_bD_b4, d_bB_b2, Ne.symm d_bB_b2, d_bB_b4, Ne.symm d_bB_b4, d_bB_bD, Ne.symm d_bB_bD, d_bN_b2, Ne.symm d_bN_b2, d_bN_b4, Ne.symm d_bN_b4, d_bN_bD, Ne.symm d_bN_bD, d_bN_bB, Ne.symm d_bN_bB, d_b6_b2, Ne.symm d_b6_b2, d_b6_b4, Ne.symm d_b6_b4, d_b6_bD, Ne.symm d_b6_bD, d_b6_bB, Ne.symm d_b6_bB, d_b6_bN, Ne.symm d_b6_bN]
          refine hK _ _ ?_
          clear hK K
          refine pwp_cF (by simp) ?_
          first | refine pwp_sd hmix ?_ | refine pwp_drawM hmix ?_
          intro K hK
          simp (disch := first | (refine Ok.mk ?_; (try simp only [Lm, La, Lc, Ln, Lt, Ld, Lr, Li, true_or, or_true, true_and, and_true]); omega) | (simp <;> fail) | skip) [runM_nil, stC, ht, d_b4_b2, Ne.symm d_b4_b2, d_bD_b2, Ne.symm d_bD_b2, d_bD_b4, Ne.symm d_bD_b4, d_bB_b2, Ne.symm d_bB_b2, d_bB_b4, Ne.symm d_bB_b4, d_bB_bD, Ne.symm d_bB_bD, d_bN_b2, Ne.symm d_bN_b2, d_bN_b4, Ne.symm d_bN_b4, d_bN_bD, Ne.symm d_bN_bD, d_bN_bB, Ne.symm d_bN_bB, d_b6_b2, Ne.symm d_b6_b2, d_b6_b4, Ne.symm d_b6_b4, d_b6_bD, Ne.symm d_b6_bD, d_b6_bB, Ne.symm d_b6_bB, d_b6_bN, Ne.symm d_b6_bN]
          refine hK _ _ ?_
          clear hK K
          refine pwp_cF (by simp) ?_
          first | refine pwp_sr ?_ | refine pwp_regionM ?_
          intro K hK
          simp (disch := first | (refine Ok.mk ?_; (try simp only [Lm, La, Lc, Ln, Lt, Ld, Lr, Li, true_or, or_true, true_and, and_true]); omega) | (simp <;> fail) | skip) [runM_nil, stC, ht, d_b4_b2, Ne.symm d_b4_b2, d_bD_b2, Ne.symm d_bD_b2, d_bD_b4, Ne.symm d_bD_b4, d_bB_b2, Ne.symm d_bB_b2, d_bB_b4, Ne.symm d_bB_b4, d_bB_bD, Ne.symm d_bB_bD, d_bN_b2, Ne.symm d_bN_b2, d_bN_b4, Ne.symm d_bN_b4, d_bN_bD, Ne.symm d_bN_bD, d_bN_bB, Ne.symm d_bN_bB, d_b6_b2, Ne.symm d_b6_b2, d_b6_b4, Ne.symm d_b6_b4, d_b6_bD, Ne.symm d_b6_bD, d_b6_bB, Ne.symm d_b6_bB, d_b6_bN, Ne.symm d_b6_bN]
          refine hK _ _ ?_
          clear hK K
          refine pwp_cF (by simp) ?_
          first | refine pwp_sr ?_ | refine pwp_regionM ?_
          intro K hK
          simp (disch := first | (refine Ok.mk ?_; (try simp only [Lm, La, Lc, Ln, Lt, Ld, Lr, Li, true_or, or_true, true_and, and_true]); omega) | (simp <;> fail) | skip) [runM_nil, stC, ht, d_b4_b2, Ne.symm d_b4_b2, d_bD_b2, Ne.symm d_bD_b2, d_bD_b4, Ne.symm d_bD_b4, d_bB_b2, Ne.symm d_bB_b2, d_bB_b4, Ne.symm d_bB_b4, d_bB_bD, Ne.symm d_bB_bD, d_bN_b2, Ne.symm d_bN_b2, d_bN_b4, Ne.symm d_bN_b4, d_bN_bD, Ne.symm d_bN_bD, d_bN_bB, Ne.symm d_bN_bB, d_b6_b2, Ne.symm d_b6_b2, d_b6_b4, Ne.symm d_b6_b4, d_b6_bD, Ne.symm d_b6_bD, d_b6_bB, Ne.symm d_b6_bB, d_b6_bN, Ne.symm d_b6_bN]
          refine hK _ _ ?_
          clear hK K
          refine pwp_cF (by simp) (pwp_skip ?_)
          exact cut_to (by simp [keepA, getS]) (.cons _ (.refl _)) ⟨fin (dn) (bw) (nm) (en) (er) hst rfl rfl rfl, rfl⟩
      · have hst := step_some ⟨(4 : Nat), t, y, w⟩ ⟨dn, bw, nm, en, er⟩
        by_cases ht : t < nm.length
        · have hge : nm[t]? = some nm[t] := List.getElem?_eq_getElem ht
          have g1 := gN _ hge
          have hq1 := hnn _ (List.getElem_mem ht)
          have s1 := sN y ht
          by_cases hq : nm[t] = -1
          · rw [hq] at g1
            simp [nameS, nameL, ht, hq] at hst
            first | refine pwp_sr ?_ | refine pwp_regionM ?_
            intro K hK
            simp (disch := first | (refine Ok.mk ?_; (try simp only [Lm, La, Lc, Ln, Lt, Ld, Lr, Li, true_or, or_true, true_and, and_true]); omega) | (simp <;> fail) | skip) [runM_nil, stC, d_b4_b2, Ne.symm d_b4_b2, d_bD_b2, Ne.symm d_bD_b2, d_bD_b4, Ne.symm d_bD_b4, d_bB_b2, Ne.symm d_bB_b2, d_bB_b4, Ne.symm d_bB_b4, d_bB_bD, Ne.symm d_bB_bD, d_bN_b2, Ne.symm d_bN_b2, d_bN_b4, Ne.symm d_bN_b4, d_bN_bD, Ne.symm d_bN_bD, d_bN_bB, Ne.symm d_bN_bB, d_b6_b2, Ne.symm d_b6_b2, d_b6_b4, Ne.symm d_b6_b4, d_b6_bD, Ne.symm d_b6_bD, d_b6_bB, Ne.symm d_b6_bB, d_b6_bN, Ne.symm d_b6_bN]
            refine hK _ _ ?_
            clear hK K
            refine pwp_cF (by simp) ?_
            first | refine pwp_sd hmix ?_ | refine pwp_drawM hmix ?_
            intro K hK
            simp (disch := first | (refine Ok.mk ?_; (try simp only [Lm, La, Lc, Ln, Lt, Ld, Lr, Li, true_or, or_true, true_and, and_true]); omega) | (simp <;> fail) | skip) [runM_nil, stC, d_b4_b2, Ne.symm d_b4_b2, d_bD_b2, Ne.symm d_bD_b2, d_bD_b4, Ne.symm d_bD_b4, d_bB_b2, Ne.symm d_bB_b2, d_bB_b4, Ne.symm d_bB_b4, d_bB_bD, Ne.symm d_bB_bD, d_bN_b2, Ne.symm d_bN_b2, d_bN_b4, Ne.symm d_bN_b4, d_bN_bD, Ne.symm d_bN_bD, d_bN_bB, Ne.symm d_bN_bB, d_b6_b2, Ne.symm d_b6_b2, d_b6_b4, Ne.symm d_b6_b4, d_b6_bD, Ne.symm d_b6_bD, d_b6_bB, Ne.symm d_b6_bB, d_b6_bN, Ne.symm d_b6_bN]
            refine hK _ _ ?_
            clear hK K
            refine pwp_cF (by simp) ?_
            first | refine pwp_sr ?_ | refine pwp_regionM ?_
            intro K hK
            simp (disch := first | (refine Ok.mk ?_; (try simp only [Lm, La, Lc, Ln, Lt, Ld, Lr, Li, true_or, or_true, true_and, and_true]); omega) | (simp <;> fail) | skip) [runM_nil, stC, ht, g1, hlN, d_b4_b2, Ne.symm d_b4_b2, d_bD_b2, Ne.symm d_bD_b2, d_bD_b4, Ne.symm d_bD_b4, d_bB_b2, Ne.symm d_bB_b2, d_bB_b4, Ne.symm d_bB_b4, d_bB_bD, Ne.symm d_bB_bD, d_bN_b2, Ne.symm d_bN_b2, d_bN_b4, Ne.symm d_bN_b4, d_bN_bD, Ne.symm d_bN_bD, d_bN_bB, Ne.symm d_bN_bB, d_b6_b2, Ne.symm d_b6_b2, d_b6_b4, Ne.symm d_b6_b4, d_b6_bD, Ne.symm d_b6_bD, d_b6_bB, Ne.symm d_b6_bB, d_b6_bN, Ne.symm d_b6_bN]
            refine hK _ _ ?_
            clear hK K
            refine pwp_cT (by simp) ?_
            first | refine pwp_sr ?_ | refine pwp_regionM ?_
            intro K hK
            simp (disch := first | (refine Ok.mk ?_; (try simp only [Lm, La, Lc, Ln, Lt, Ld, Lr, Li, true_or, or_true, true_and, and_true]); omega) | (simp <;> fail) | skip) [runM_nil, stC, hlN, s1, d_b4_b2, Ne.symm d_b4_b2, d_bD_b2, Ne.symm d_bD_b2, d_bD_b4, Ne.symm d_bD_b4, d_bB_b2, Ne.symm d_bB_b2, d_bB_b4, Ne.symm d_bB_b4, d_bB_bD, Ne.symm d_bB_bD, d_bN_b2, Ne.symm d_bN_b2, d_bN_b4, Ne.symm d_bN_b4, d_bN_bD, Ne.symm d_bN_bD, d_bN_bB, Ne.symm d_bN_bB, d_b6_b2, Ne.symm d_b6_b2, d_b6_b4, Ne.symm d_b6_b4, d_b6_bD, Ne.symm d_b6_bD, d_b6_bB, Ne.symm d_b6_bB, d_b6_bN, Ne.symm d_b6_bN]
            refine hK _ _ ?_
            clear hK K
            exact cut_to (by simp [keepA, getS]) (.cons _ (.refl _)) ⟨fin (dn) (bw) (nm.set t y) (en) (er) hst rfl rfl (by simp), rfl⟩
          · simp [nameS, nameL, ht, hq] at hst
            have hq2 : ¬ nm[t] < 0 := by omega
            first | refine pwp_sr ?_ | refine pwp_regionM ?_
            intro K hK
            simp (disch := first | (refine Ok.mk ?_; (try simp only [Lm, La, Lc, Ln, Lt, Ld, Lr, Li, true_or, or_true, true_and, and_true]); omega) | (simp <;> fail) | skip) [runM_nil, stC, d_b4_b2, Ne.symm d_b4_b2, d_bD_b2, Ne.symm d_bD_b2, d_bD_b4, Ne.symm d_bD_b4, d_bB_b2, Ne.symm d_bB_b2, d_bB_b4, Ne.symm d_bB_b4, d_bB_bD, Ne.symm d_bB_bD, d_bN_b2, Ne.symm d_bN_b2, d_bN_b4, Ne.symm d_bN_b4, d_bN_bD, Ne.symm d_bN_bD, d_bN_bB, Ne.symm d_bN_bB, d_b6_b2, Ne.symm d_b6_b2, d_b6_b4, Ne.symm d_b6_b4, d_b6_bD, Ne.symm d_b6_bD, d_b6_bB, Ne.symm d_b6_bB, d_b6_bN, Ne.symm d_b6_bN]
            refine hK _ _ ?_
            clear hK K
            refine pwp_cF (by simp) ?_
            first | refine pwp_sd hmix ?_ | refine pwp_drawM hmix ?_
            intro K hK
            simp (disch := first | (refine Ok.mk ?_; (try simp only [Lm, La, Lc, Ln, Lt, Ld, Lr, Li, true_or, or_true, true_and, and_true]); omega) | (simp <;> fail) | skip) [runM_nil, stC, d_b4_b2, Ne.symm d_b4_b2, d_bD_b2, Ne.symm d_bD_b2, d_bD_b4, Ne.symm d_bD_b4, d_bB_b2, Ne.symm d_bB_b2, d_bB_b4, Ne.symm d_bB_b4, d_bB_bD, Ne.symm d_bB_bD, d_bN_b2, Ne.symm d_bN_b2, d_bN_b4, Ne.symm d_bN_b4, d_bN_bD, Ne.symm d_bN_bD, d_bN_bB, Ne.symm d_bN_bB, d_b6_b2, Ne.symm d_b6_b2, d_b6_b4, Ne.symm d_b6_b4, d_b6_bD, Ne.symm d_b6_bD, d_b6_bB, Ne.symm d_b6_bB, d_b6_bN, Ne.symm d_b6_bN]
            refine hK _ _ ?_
            clear hK K
            refine pwp_cF (by simp) ?_
            first | refine pwp_sr ?_ | refine pwp_regionM ?_
            intro K hK
            simp (disch := first | (refine Ok.mk ?_; (try simp only [Lm, La, Lc, Ln, Lt, Ld, Lr, Li, true_or, or_true, true_and, and_true]); omega) | (simp <;> fail) | skip) [runM_nil, stC, ht, g1, hlN, hq2, d_b4_b2, Ne.symm d_b4_b2, d_bD_b2, Ne.symm d_bD_b2, d_bD_b4, Ne.symm d_bD_b4, d_bB_b2, Ne.symm d_bB_b2, d_bB_b4, Ne.symm d_bB_b4, d_bB_bD, Ne.symm d_bB_bD, d_bN_b2, Ne.symm d_bN_b2, d_bN_b4, Ne.symm d_bN_b4, d_bN_bD, Ne.symm d_bN_bD, d_bN_bB, Ne.symm d_bN_bB, d_b6_b2, Ne.symm d_b6_b2, d_b6_b4, Ne.symm d_b6_b4, d_b6_bD, Ne.symm d_b6_bD, d_b6_bB, Ne.symm d_b6_bB, d_b6_bN, Ne.symm d_b6_bN]
            refine hK _ _ ?_
            clear hK K
            refine pwp_cF (by simp) ?_
            first | refine pwp_sr ?_ | refine pwp_regionM ?_
            intro K hK
            simp (disch := first | (refine Ok.mk ?_; (try simp only [Lm, La, Lc, Ln, Lt, Ld, Lr, Li, true_or, or_true, true_and, and_true]); omega) | (simp <;> fail) | skip) [runM_nil, stC, ht, g1, hlN, hq2, d_b4_b2, Ne.symm d_b4_b2, d_bD_b2, Ne.symm d_bD_b2, d_bD_b4, Ne.symm d_bD_b4, d_bB_b2, Ne.symm d_bB_b2, d_bB_b4, Ne.symm d_bB_b4, d_bB_bD, Ne.symm d_bB_bD, d_bN_b2, Ne.symm d_bN_b2, d_bN_b4, Ne.symm d_bN_b4, d_bN_bD, Ne.symm d_bN_bD, d_bN_bB, Ne.symm d_bN_bB, d_b6_b2, Ne.symm d_b6_b2, d_b6_b4, Ne.symm d_b6_b4, d_b6_bD, Ne.symm d_b6_bD, d_b6_bB, Ne.symm d_b6_bB, d_b6_bN, Ne.symm d_b6_bN]
            refine hK _ _ ?_
            clear hK K
            refine pwp_cF (by simp) (pwp_skip ?_)
            exact cut_to (by simp [keepA, getS]) (.cons _ (.refl _)) ⟨fin (dn) (bw) (nm) (en) (er) hst rfl rfl rfl, rfl⟩
        · simp [nameS, nameL, ht] at hst
          first | refine pwp_sr ?_ | refine pwp_regionM ?_
          intro K hK
          simp (disch := first | (refine Ok.mk ?_; (try simp only [Lm, La, Lc, Ln, Lt, Ld, Lr, Li, true_or, or_true, true_and, and_true]); omega) | (simp <;> fail) | skip) [runM_nil, stC, ht, d_b4_b2, Ne.symm d_b4_b2, d_bD_b2, Ne.symm d_bD_b2, d_bD_b4, Ne.symm d_bD_b4, d_bB_b2, Ne.symm d_bB_b2, d_bB_b4, Ne.symm d_bB_b4, d_bB_bD, Ne.symm d_bB_bD, d_bN_b2, Ne.symm d_bN_b2, d_bN_b4, Ne.symm d_bN_b4, d_bN_bD, Ne.symm d_bN_bD, d_bN_bB, Ne.symm d_bN_bB, d_b6_b2, Ne.symm d_b6_b2, d_b6_b4, Ne.symm d_b6_b4, d_b6_bD, Ne.symm d_b6_bD, d_b6_bB, Ne.symm d_b6_bB, d_b6_bN, Ne.symm d_b6_bN]
          refine hK _ _ ?_
          clear hK K
          refine pwp_cF (by simp) ?_
          first | refine pwp_sd hmix ?_ | refine pwp_drawM hmix ?_
          intro K hK
          simp (disch := first | (refine Ok.mk ?_; (try simp only [Lm, La, Lc, Ln, Lt, Ld, Lr, Li, true_or, or_true, true_and, and_true]); omega) | (simp <;> fail) | skip) [runM_nil, stC, ht, d_b4_b2, Ne.symm d_b4_b2, d_bD_b2, Ne.symm d_bD_b2, d_bD_b4, Ne.symm d_bD_b4, d_bB_b2, Ne.symm d_bB_b2, d_bB_b4, Ne.symm d_bB_b4, d_bB_bD, Ne.symm d_bB_bD, d_bN_b2, Ne.symm d_bN_b2, d_bN_b4, Ne.symm d_bN_b4, d_bN_bD, Ne.symm d_bN_bD, d_bN_bB, Ne.symm d_bN_bB, d_b6_b2, Ne.symm d_b6_b2, d_b6_b4, Ne.symm d_b6_b4, d_b6_bD, Ne.symm d_b6_bD, d_b6_bB, Ne.symm d_b6_bB, d_b6_bN, Ne.symm d_b6_bN]
          refine hK _ _ ?_
          clear hK K
          refine pwp_cF (by simp) ?_
          first | refine pwp_sr ?_ | refine pwp_regionM ?_
          intro K hK
          simp (disch := first | (refine Ok.mk ?_; (try simp only [Lm, La, Lc, Ln, Lt, Ld, Lr, Li, true_or, or_true, true_and, and_true]); omega) | (simp <;> fail) | skip) [runM_nil, stC, ht, d_b4_b2, Ne.symm d_b4_b2, d_bD_b2, Ne.symm d_bD_b2, d_bD_b4, Ne.symm d_bD_b4, d_bB_b2, Ne.symm d_bB_b2, d_bB_b4, Ne.symm d_bB_b4, d_bB_bD, Ne.symm d_bB_bD, d_bN_b2, Ne.symm d_bN_b2, d_bN_b4, Ne.symm d_bN_b4, d_bN_bD, Ne.symm d_bN_bD, d_bN_bB, Ne.symm d_bN_bB, d_b6_b2, Ne.symm d_b6_b2, d_b6_b4, Ne.symm d_b6_b4, d_b6_bD, Ne.symm d_b6_bD, d_b6_bB, Ne.symm d_b6_bB, d_b6_bN, Ne.symm d_b6_bN]
          refine hK _ _ ?_
          clear hK K
          refine pwp_cF (by simp) ?_
          first | refine pwp_sr ?_ | refine pwp_regionM ?_
          intro K hK
          simp (disch := first | (refine Ok.mk ?_; (try simp only [Lm, La, Lc, Ln, Lt, Ld, Lr, Li, true_or, or_true, true_and, and_true]); omega) | (simp <;> fail) | skip) [runM_nil, stC, ht, d_b4_b2, Ne.symm d_b4_b2, d_bD_b2, Ne.symm d_bD_b2, d_bD_b4, Ne.symm d_bD_b4, d_bB_b2, Ne.symm d_bB_b2, d_bB_b4, Ne.symm d_bB_b4, d_bB_bD, Ne.symm d_bB_bD, d_bN_b2, Ne.symm d_bN_b2, d_bN_b4, Ne.symm d_bN_b4, d_bN_bD, Ne.symm d_bN_bD, d_bN_bB, Ne.symm d_bN_bB, d_b6_b2, Ne.symm d_b6_b2, d_b6_b4, Ne.symm d_b6_b4, d_b6_bD, Ne.symm d_b6_bD, d_b6_bB, Ne.symm d_b6_bB, d_b6_bN, Ne.symm d_b6_bN]
          refine hK _ _ ?_
          clear hK K
          refine pwp_cF (by simp) (pwp_skip ?_)
          exact cut_to (by simp [keepA, getS]) (.cons _ (.refl _)) ⟨fin (dn) (bw) (nm) (en) (er) hst rfl rfl rfl, rfl⟩
      · have hst := step_some ⟨(5 : Nat), t, y, w⟩ ⟨dn, bw, nm, en, er⟩
        by_cases hen : en = 0
        · subst hen
          simp [endS, endL] at hst
          first | refine pwp_sr ?_ | refine pwp_regionM ?_
          intro K hK
          simp (disch := first | (refine Ok.mk ?_; (try simp only [Lm, La, Lc, Ln, Lt, Ld, Lr, Li, true_or, or_true, true_and, and_true]); omega) | (simp <;> fail) | skip) [runM_nil, stC, d_b4_b2, Ne.symm d_b4_b2, d_bD_b2, Ne.symm d_bD_b2, d_bD_b4, Ne.symm d_bD_b4, d_bB_b2, Ne.symm d_bB_b2, d_bB_b4, Ne.symm d_bB_b4, d_bB_bD, Ne.symm d_bB_bD, d_bN_b2, Ne.symm d_bN_b2, d_bN_b4, Ne.symm d_bN_b4, d_bN_bD, Ne.symm d_bN_bD, d_bN_bB, Ne.symm d_bN_bB, d_b6_b2, Ne.symm d_b6_b2, d_b6_b4, Ne.symm d_b6_b4, d_b6_bD, Ne.symm d_b6_bD, d_b6_bB, Ne.symm d_b6_bB, d_b6_bN, Ne.symm d_b6_bN]
          refine hK _ _ ?_
          clear hK K
          refine pwp_cF (by simp) ?_
          first | refine pwp_sd hmix ?_ | refine pwp_drawM hmix ?_
          intro K hK
          simp (disch := first | (refine Ok.mk ?_; (try simp only [Lm, La, Lc, Ln, Lt, Ld, Lr, Li, true_or, or_true, true_and, and_true]); omega) | (simp <;> fail) | skip) [runM_nil, stC, d_b4_b2, Ne.symm d_b4_b2, d_bD_b2, Ne.symm d_bD_b2, d_bD_b4, Ne.symm d_bD_b4, d_bB_b2, Ne.symm d_bB_b2, d_bB_b4, Ne.symm d_bB_b4, d_bB_bD, Ne.symm d_bB_bD, d_bN_b2, Ne.symm d_bN_b2, d_bN_b4, Ne.symm d_bN_b4, d_bN_bD, Ne.symm d_bN_bD, d_bN_bB, Ne.symm d_bN_bB, d_b6_b2, Ne.symm d_b6_b2, d_b6_b4, Ne.symm d_b6_b4, d_b6_bD, Ne.symm d_b6_bD, d_b6_bB, Ne.symm d_b6_bB, d_b6_bN, Ne.symm d_b6_bN]
          refine hK _ _ ?_
          clear hK K
          refine pwp_cF (by simp) ?_
          first | refine pwp_sr ?_ | refine pwp_regionM ?_
          intro K hK
          simp (disch := first | (refine Ok.mk ?_; (try simp only [Lm, La, Lc, Ln, Lt, Ld, Lr, Li, true_or, or_true, true_and, and_true]); omega) | (simp <;> fail) | skip) [runM_nil, stC, d_b4_b2, Ne.symm d_b4_b2, d_bD_b2, Ne.symm d_bD_b2, d_bD_b4, Ne.symm d_bD_b4, d_bB_b2, Ne.symm d_bB_b2, d_bB_b4, Ne.symm d_bB_b4, d_bB_bD, Ne.symm d_bB_bD, d_bN_b2, Ne.symm d_bN_b2, d_bN_b4, Ne.symm d_bN_b4, d_bN_bD, Ne.symm d_bN_bD, d_bN_bB, Ne.symm d_bN_bB, d_b6_b2, Ne.symm d_b6_b2, d_b6_b4, Ne.symm d_b6_b4, d_b6_bD, Ne.symm d_b6_bD, d_b6_bB, Ne.symm d_b6_bB, d_b6_bN, Ne.symm d_b6_bN]
          refine hK _ _ ?_
          clear hK K
          refine pwp_cF (by simp) ?_
          first | refine pwp_sr ?_ | refine pwp_regionM ?_
          intro K hK
          simp (disch := first | (refine Ok.mk ?_; (try simp only [Lm, La, Lc, Ln, Lt, Ld, Lr, Li, true_or, or_true, true_and, and_true]); omega) | (simp <;> fail) | skip) [runM_nil, stC, d_b4_b2, Ne.symm d_b4_b2, d_bD_b2, Ne.symm d_bD_b2, d_bD_b4, Ne.symm d_bD_b4, d_bB_b2, Ne.symm d_bB_b2, d_bB_b4, Ne.symm d_bB_b4, d_bB_bD, Ne.symm d_bB_bD, d_bN_b2, Ne.symm d_bN_b2, d_bN_b4, Ne.symm d_bN_b4, d_bN_bD, Ne.symm d_bN_bD, d_bN_bB, Ne.symm d_bN_bB, d_b6_b2, Ne.symm d_b6_b2, d_b6_b4, Ne.symm d_b6_b4, d_b6_bD, Ne.symm d_b6_bD, d_b6_bB, Ne.symm d_b6_bB, d_b6_bN, Ne.symm d_b6_bN]
          refine hK _ _ ?_
          clear hK K
          refine pwp_cT (by simp) ?_
          first | refine pwp_sr ?_ | refine pwp_regionM ?_
          intro K hK
          simp (disch := first | (refine Ok.mk ?_; (try simp only [Lm, La, Lc, Ln, Lt, Ld, Lr, Li, true_or, or_true, true_and, and_true]); omega) | (simp <;> fail) | skip) [runM_nil, stC, d_b4_b2, Ne.symm d_b4_b2, d_bD_b2, Ne.symm d_bD_b2, d_bD_b4, Ne.symm d_bD_b4, d_bB_b2, Ne.symm d_bB_b2, d_bB_b4, Ne.symm d_bB_b4, d_bB_bD, Ne.symm d_bB_bD, d_bN_b2, Ne.symm d_bN_b2, d_bN_b4, Ne.symm d_bN_b4, d_bN_bD, Ne.symm d_bN_bD, d_bN_bB, Ne.symm d_bN_bB, d_b6_b2, Ne.symm d_b6_b2, d_b6_b4, Ne.symm d_b6_b4, d_b6_bD, Ne.symm d_b6_bD, d_b6_bB, Ne.symm d_b6_bB, d_b6_bN, Ne.symm d_b6_bN]
          refine hK _ _ ?_
          clear hK K
          first | refine pwp_sr ?_ | refine pwp_regionM ?_
          intro K hK
          simp (disch := first | (refine Ok.mk ?_; (try simp only [Lm, La, Lc, Ln, Lt, Ld, Lr, Li, true_or, or_true, true_and, and_true]); omega) | (simp <;> fail) | skip) [runM_nil, stC, d_b4_b2, Ne.symm d_b4_b2, d_bD_b2, Ne.symm d_bD_b2, d_bD_b4, Ne.symm d_bD_b4, d_bB_b2, Ne.symm d_bB_b2, d_bB_b4, Ne.symm d_bB_b4, d_bB_bD, Ne.symm d_bB_bD, d_bN_b2, Ne.symm d_bN_b2, d_bN_b4, Ne.symm d_bN_b4, d_bN_bD, Ne.symm d_bN_bD, d_bN_bB, Ne.symm d_bN_bB, d_b6_b2, Ne.symm d_b6_b2, d_b6_b4, Ne.symm d_b6_b4, d_b6_bD, Ne.symm d_b6_bD, d_b6_bB, Ne.symm d_b6_bB, d_b6_bN, Ne.symm d_b6_bN]
          refine hK _ _ ?_
          clear hK K
          refine pwp_cF (by simp) (pwp_skip ?_)
          exact cut_to (by simp [keepA, getS]) (.cons _ (.refl _)) ⟨fin (dn) (bw) (nm) (5) (er) hst rfl rfl rfl, rfl⟩
        · simp [endS, endL, hen] at hst
          first | refine pwp_sr ?_ | refine pwp_regionM ?_
          intro K hK
          simp (disch := first | (refine Ok.mk ?_; (try simp only [Lm, La, Lc, Ln, Lt, Ld, Lr, Li, true_or, or_true, true_and, and_true]); omega) | (simp <;> fail) | skip) [runM_nil, stC, hen, d_b4_b2, Ne.symm d_b4_b2, d_bD_b2, Ne.symm d_bD_b2, d_bD_b4, Ne.symm d_bD_b4, d_bB_b2, Ne.symm d_bB_b2, d_bB_b4, Ne.symm d_bB_b4, d_bB_bD, Ne.symm d_bB_bD, d_bN_b2, Ne.symm d_bN_b2, d_bN_b4, Ne.symm d_bN_b4, d_bN_bD, Ne.symm d_bN_bD, d_bN_bB, Ne.symm d_bN_bB, d_b6_b2, Ne.symm d_b6_b2, d_b6_b4, Ne.symm d_b6_b4, d_b6_bD, Ne.symm d_b6_bD, d_b6_bB, Ne.symm d_b6_bB, d_b6_bN, Ne.symm d_b6_bN]
          refine hK _ _ ?_
          clear hK K
          refine pwp_cF (by simp) ?_
          first | refine pwp_sd hmix ?_ | refine pwp_drawM hmix ?_
          intro K hK
          simp (disch := first | (refine Ok.mk ?_; (try simp only [Lm, La, Lc, Ln, Lt, Ld, Lr, Li, true_or, or_true, true_and, and_true]); omega) | (simp <;> fail) | skip) [runM_nil, stC, hen, d_b4_b2, Ne.symm d_b4_b2, d_bD_b2, Ne.symm d_bD_b2, d_bD_b4, Ne.symm d_bD_b4, d_bB_b2, Ne.symm d_bB_b2, d_bB_b4, Ne.symm d_bB_b4, d_bB_bD, Ne.symm d_bB_bD, d_bN_b2, Ne.symm d_bN_b2, d_bN_b4, Ne.symm d_bN_b4, d_bN_bD, Ne.symm d_bN_bD, d_bN_bB, Ne.symm d_bN_bB, d_b6_b2, Ne.symm d_b6_b2, d_b6_b4, Ne.symm d_b6_b4, d_b6_bD, Ne.symm d_b6_bD, d_b6_bB, Ne.symm d_b6_bB, d_b6_bN, Ne.symm d_b6_bN]
          refine hK _ _ ?_
          clear hK K
          refine pwp_cF (by simp) ?_
          first | refine pwp_sr ?_ | refine pwp_regionM ?_
          intro K hK
          simp (disch := first | (refine Ok.mk ?_; (try simp only [Lm, La, Lc, Ln, Lt, Ld, Lr, Li, true_or, or_true, true_and, and_true]); omega) | (simp <;> fail) | skip) [runM_nil, stC, hen, d_b4_b2, Ne.symm d_b4_b2, d_bD_b2, Ne.symm d_bD_b2, d_bD_b4, Ne.symm d_bD_b4, d_bB_b2, Ne.symm d_bB_b2, d_bB_b4, Ne.symm d_bB_b4, d_bB_bD, Ne.symm d_bB_bD, d_bN_b2, Ne.symm d_bN_b2, d_bN_b4, Ne.symm d_bN_b4, d_bN_bD, Ne.symm d_bN_bD, d_bN_bB, Ne.symm d_bN_bB, d_b6_b2, Ne.symm d_b6_b2, d_b6_b4, Ne.symm d_b6_b4, d_b6_bD, Ne.symm d_b6_bD, d_b6_bB, Ne.symm d_b6_bB, d_b6_bN, Ne.symm d_b6_bN]
          refine hK _ _ ?_
          clear hK K
          refine pwp_cF (by simp) ?_
          first | refine pwp_sr ?_ | refine pwp_regionM ?_
          intro K hK
          simp (disch := first | (refine Ok.mk ?_; (try simp only [Lm, La, Lc, Ln, Lt, Ld, Lr, Li, true_or, or_true, true_and, and_true]); omega) | (simp <;> fail) | skip) [runM_nil, stC, hen, d_b4_b2, Ne.symm d_b4_b2, d_bD_b2, Ne.symm d_bD_b2, d_bD_b4, Ne.symm d_bD_b4, d_bB_b2, Ne.symm d_bB_b2, d_bB_b4, Ne.symm d_bB_b4, d_bB_bD, Ne.symm d_bB_bD, d_bN_b2, Ne.symm d_bN_b2, d_bN_b4, Ne.symm d_bN_b4, d_bN_bD, Ne.symm d_bN_bD, d_bN_bB, Ne.symm d_bN_bB, d_b6_b2, Ne.symm d_b6_b2, d_b6_b4, Ne.symm d_b6_b4, d_b6_bD, Ne.symm d_b6_bD, d_b6_bB, Ne.symm d_b6_bB, d_b6_bN, Ne.symm d_b6_bN]
          refine hK _ _ ?_
          clear hK K
          refine pwp_cF (by simp) (pwp_skip ?_)
          exact cut_to (by simp [keepA, getS]) (.cons _ (.refl _)) ⟨fin (dn) (bw) (nm) (en) (er) hst rfl rfl rfl, rfl⟩
      · have hst := step_some ⟨(6 : Nat), t, y, w⟩ ⟨dn, bw, nm, en, er⟩
        by_cases hen : en = 0
        · subst hen
          simp [endS, endL] at hst
          first | refine pwp_sr ?_ | refine pwp_regionM ?_
          intro K hK
          simp (disch := first | (refine Ok.mk ?_; (try simp only [Lm, La, Lc, Ln, Lt, Ld, Lr, Li, true_or, or_true, true_and, and_true]); omega) | (simp <;> fail) | skip) [runM_nil, stC, d_b4_b2, Ne.symm d_b4_b2, d_bD_b2, Ne.symm d_bD_b2, d_bD_b4, Ne.symm d_bD_b4, d_bB_b2, Ne.symm d_bB_b2, d_bB_b4, Ne.symm d_bB_b4, d_bB_bD, Ne.symm d_bB_bD, d_bN_b2, Ne.symm d_bN_b2, d_bN_b4, Ne.symm d_bN_b4, d_bN_bD, Ne.symm d_bN_bD, d_bN_bB, Ne.symm d_bN_bB, d_b6_b2, Ne.symm d_b6_b2, d_b6_b4, Ne.symm d_b6_b4, d_b6_bD, Ne.symm d_b6_bD, d_b6_bB, Ne.symm d_b6_bB, d_b6_bN, Ne.symm d_b6_bN]
          refine hK _ _ ?_
          clear hK K
          refine pwp_cF (by simp) ?_
          first | refine pwp_sd hmix ?_ | refine pwp_drawM hmix ?_
          intro K hK
          simp (disch := first | (refine Ok.mk ?_; (try simp only [Lm, La, Lc, Ln, Lt, Ld, Lr, Li, true_or, or_true, true_and, and_true]); omega) | (simp <;> fail) | skip) [runM_nil, stC, d_b4_b2, Ne.symm d_b4_b2, d_bD_b2, Ne.symm d_bD_b2, d_bD_b4, Ne.symm d_bD_b4, d_bB_b2, Ne.symm d_bB_b2, d_bB_b4, Ne.symm d_bB_b4, d_bB_bD, Ne.symm d_bB_bD, d_bN_b2, Ne.symm d_bN_b2, d_bN_b4, Ne.symm d_bN_b4, d_bN_bD, Ne.symm d_bN_bD, d_bN_bB, Ne.symm d_bN_bB, d_b6_b2, Ne.symm d_b6_b2, d_b6_b4, Ne.symm d_b6_b4, d_b6_bD, Ne.symm d_b6_bD, d_b6_bB, Ne.symm d_b6_bB, d_b6_bN, Ne.symm d_b6_bN]
          refine hK _ _ ?_
          clear hK K
          refine pwp_cF (by simp) ?_
          first | refine pwp_sr ?_ | refine pwp_regionM ?_
          intro K hK
          simp (disch := first | (refine Ok.mk ?_; (try simp only [Lm, La, Lc, Ln, Lt, Ld, Lr, Li, true_or, or_true, true_and, and_true]); omega) | (simp <;> fail) | skip) [runM_nil, stC, d_b4_b2, Ne.symm d_b4_b2, d_bD_b2, Ne.symm d_bD_b2, d_bD_b4, Ne.symm d_bD_b4, d_bB_b2, Ne.symm d_bB_b2, d_bB_b4, Ne.symm d_bB_b4, d_bB_bD, Ne.symm d_bB_bD, d_bN_b2, Ne.symm d_bN_b2, d_bN_b4, Ne.symm d_bN_b4, d_bN_bD, Ne.symm d_bN_bD, d_bN_bB, Ne.symm d_bN_bB, d_b6_b2, Ne.symm d_b6_b2, d_b6_b4, Ne.symm d_b6_b4, d_b6_bD, Ne.symm d_b6_bD, d_b6_bB, Ne.symm d_b6_bB, d_b6_bN, Ne.symm d_b6_bN]
          refine hK _ _ ?_
          clear hK K
          refine pwp_cF (by simp) ?_
          first | refine pwp_sr ?_ | refine pwp_regionM ?_
          intro K hK
          simp (disch := first | (refine Ok.mk ?_; (try simp only [Lm, La, Lc, Ln, Lt, Ld, Lr, Li, true_or, or_true, true_and, and_true]); omega) | (simp <;> fail) | skip) [runM_nil, stC, d_b4_b2, Ne.symm d_b4_b2, d_bD_b2, Ne.symm d_bD_b2, d_bD_b4, Ne.symm d_bD_b4, d_bB_b2, Ne.symm d_bB_b2, d_bB_b4, Ne.symm d_bB_b4, d_bB_bD, Ne.symm d_bB_bD, d_bN_b2, Ne.symm d_bN_b2, d_bN_b4, Ne.symm d_bN_b4, d_bN_bD, Ne.symm d_bN_bD, d_bN_bB, Ne.symm d_bN_bB, d_b6_b2, Ne.symm d_b6_b2, d_b6_b4, Ne.symm d_b6_b4, d_b6_bD, Ne.symm d_b6_bD, d_b6_bB, Ne.symm d_b6_bB, d_b6_bN, Ne.symm d_b6_bN]
          refine hK _ _ ?_
          clear hK K
          refine pwp_cT (by simp) ?_
          first | refine pwp_sr ?_ | refine pwp_regionM ?_
          intro K hK
          simp (disch := first | (refine Ok.mk ?_; (try simp only [Lm, La, Lc, Ln, Lt, Ld, Lr, Li, true_or, or_true, true_and, and_true]); omega) | (simp <;> fail) | skip) [runM_nil, stC, d_b4_b2, Ne.symm d_b4_b2, d_bD_b2, Ne.symm d_bD_b2, d_bD_b4, Ne.symm d_bD_b4, d_bB_b2, Ne.symm d_bB_b2, d_bB_b4, Ne.symm d_bB_b4, d_bB_bD, Ne.symm d_bB_bD, d_bN_b2, Ne.symm d_bN_b2, d_bN_b4, Ne.symm d_bN_b4, d_bN_bD, Ne.symm d_bN_bD, d_bN_bB, Ne.symm d_bN_bB, d_b6_b2, Ne.symm d_b6_b2, d_b6_b4, Ne.symm d_b6_b4, d_b6_bD, Ne.symm d_b6_bD, d_b6_bB, Ne.symm d_b6_bB, d_b6_bN, Ne.symm d_b6_bN]
          refine hK _ _ ?_
          clear hK K
          first | refine pwp_sr ?_ | refine pwp_regionM ?_
          intro K hK
          simp (disch := first | (refine Ok.mk ?_; (try simp only [Lm, La, Lc, Ln, Lt, Ld, Lr, Li, true_or, or_true, true_and, and_true]); omega) | (simp <;> fail) | skip) [runM_nil, stC, d_b4_b2, Ne.symm d_b4_b2, d_bD_b2, Ne.symm d_bD_b2, d_bD_b4, Ne.symm d_bD_b4, d_bB_b2, Ne.symm d_bB_b2, d_bB_b4, Ne.symm d_bB_b4, d_bB_bD, Ne.symm d_bB_bD, d_bN_b2, Ne.symm d_bN_b2, d_bN_b4, Ne.symm d_bN_b4, d_bN_bD, Ne.symm d_bN_bD, d_bN_bB, Ne.symm d_bN_bB, d_b6_b2, Ne.symm d_b6_b2, d_b6_b4, Ne.symm d_b6_b4, d_b6_bD, Ne.symm d_b6_bD, d_b6_bB, Ne.symm d_b6_bB, d_b6_bN, Ne.symm d_b6_bN]
          refine hK _ _ ?_
          clear hK K
          refine pwp_cT (by simp) ?_
          first | refine pwp_sr ?_ | refine pwp_regionM ?_
          intro K hK
          simp (disch := first | (refine Ok.mk ?_; (try simp only [Lm, La, Lc, Ln, Lt, Ld, Lr, Li, true_or, or_true, true_and, and_true]); omega) | (simp <;> fail) | skip) [runM_nil, stC, d_b4_b2, Ne.symm d_b4_b2, d_bD_b2, Ne.symm d_bD_b2, d_bD_b4, Ne.symm d_bD_b4, d_bB_b2, Ne.symm d_bB_b2, d_bB_b4, Ne.symm d_bB_b4, d_bB_bD, Ne.symm d_bB_bD, d_bN_b2, Ne.symm d_bN_b2, d_bN_b4, Ne.symm d_bN_b4, d_bN_bD, Ne.symm d_bN_bD, d_bN_bB, Ne.symm d_bN_bB, d_b6_b2, Ne.symm d_b6_b2, d_b6_b4, Ne.symm d_b6_b4, d_b6_bD, Ne.symm d_b6_bD, d_b6_bB, Ne.symm d_b6_bB, d_b6_bN, Ne.symm d_b6_bN]
          refine hK _ _ ?_
          clear hK K
          exact cut_to (by simp [keepA, getS]) (.cons _ (.refl _)) ⟨fin (dn) (bw) (nm) (6) (y) hst rfl rfl rfl, rfl⟩
        · simp [endS, endL, hen] at hst
          first | refine pwp_sr ?_ | refine pwp_regionM ?_
          intro K hK
          simp (disch := first | (refine Ok.mk ?_; (try simp only [Lm, La, Lc, Ln, Lt, Ld, Lr, Li, true_or, or_true, true_and, and_true]); omega) | (simp <;> fail) | skip) [runM_nil, stC, hen, d_b4_b2, Ne.symm d_b4_b2, d_bD_b2, Ne.symm d_bD_b2, d_bD_b4, Ne.symm d_bD_b4, d_bB_b2, Ne.symm d_bB_b2, d_bB_b4, Ne.symm d_bB_b4, d_bB_bD, Ne.symm d_bB_bD, d_bN_b2, Ne.symm d_bN_b2, d_bN_b4, Ne.symm d_bN_b4, d_bN_bD, Ne.symm d_bN_bD, d_bN_bB, Ne.symm d_bN_bB, d_b6_b2, Ne.symm d_b6_b2, d_b6_b4, Ne.symm d_b6_b4, d_b6_bD, Ne.symm d_b6_bD, d_b6_bB, Ne.symm d_b6_bB, d_b6_bN, Ne.symm d_b6_bN]
          refine hK _ _ ?_
          clear hK K
          refine pwp_cF (by simp) ?_
          first | refine pwp_sd hmix ?_ | refine pwp_drawM hmix ?_
          intro K hK
          simp (disch := first | (refine Ok.mk ?_; (try simp only [Lm, La, Lc, Ln, Lt, Ld, Lr, Li, true_or, or_true, true_and, and_true]); omega) | (simp <;> fail) | skip) [runM_nil, stC, hen, d_b4_b2, Ne.symm d_b4_b2, d_bD_b2, Ne.symm d_bD_b2, d_bD_b4, Ne.symm d_bD_b4, d_bB_b2, Ne.symm d_bB_b2, d_bB_b4, Ne.symm d_bB_b4, d_bB_bD, Ne.symm d_bB_bD, d_bN_b2, Ne.symm d_bN_b2, d_bN_b4, Ne.symm d_bN_b4, d_bN_bD, Ne.symm d_bN_bD, d_bN_bB, Ne.symm d_bN_bB, d_b6_b2, Ne.symm d_b6_b2, d_b6_b4, Ne.symm d_b6_b4, d_b6_bD, Ne.symm d_b6_bD, d_b6_bB, Ne.symm d_b6_bB, d_b6_bN, Ne.symm d_b6_bN]
          refine hK _ _ ?_
          clear hK K
          refine pwp_cF (by simp) ?_
          first | refine pwp_sr ?_ | refine pwp_regionM ?_
          intro K hK
          simp (disch := first | (refine Ok.mk ?_; (try simp only [Lm, La, Lc, Ln, Lt, Ld, Lr, Li, true_or, or_true, true_and, and_true]); omega) | (simp <;> fail) | skip) [runM_nil, stC, hen, d_b4_b2, Ne.symm d_b4_b2, d_bD_b2, Ne.symm d_bD_b2, d_bD_b4, Ne.symm d_bD_b4, d_bB_b2, Ne.symm d_bB_b2, d_bB_b4, Ne.symm d_bB_b4, d_bB_bD, Ne.symm d_bB_bD, d_bN_b2, Ne.symm d_bN_b2, d_bN_b4, Ne.symm d_bN_b4, d_bN_bD, Ne.symm d_bN_bD, d_bN_bB, Ne.symm d_bN_bB, d_b6_b2, Ne.symm d_b6_b2, d_b6_b4, Ne.symm d_b6_b4, d_b6_bD, Ne.symm d_b6_bD, d_b6_bB, Ne.symm d_b6_bB, d_b6_bN, Ne.symm d_b6_bN]
          refine hK _ _ ?_
          clear hK K
          refine pwp_cF (by simp) ?_
          first | refine pwp_sr ?_ | refine pwp_regionM ?_
          intro K hK
          simp (disch := first | (refine Ok.mk ?_; (try simp only [Lm, La, Lc, Ln, Lt, Ld, Lr, Li, true_or, or_true, true_and, and_true]); omega) | (simp <;> fail) | skip) [runM_nil, stC, hen, d_b4_b2, Ne.symm d_b4_b2, d_bD_b2, Ne.symm d_bD_b2, d_bD_b4, Ne.symm d_bD_b4, d_bB_b2, Ne.symm d_bB_b2, d_bB_b4, Ne.symm d_bB_b4, d_bB_bD, Ne.symm d_bB_bD, d_bN_b2, Ne.symm d_bN_b2, d_bN_b4, Ne.symm d_bN_b4, d_bN_bD, Ne.symm d_bN_bD, d_bN_bB, Ne.symm d_bN_bB, d_b6_b2, Ne.symm d_b6_b2, d_b6_b4, Ne.symm d_b6_b4, d_b6_bD, Ne.symm d_b6_bD, d_b6_bB, Ne.symm d_b6_bB, d_b6_bN, Ne.symm d_b6_bN]
          refine hK _ _ ?_
          clear hK K
          refine pwp_cF (by simp) (pwp_skip ?_)
          exact cut_to (by simp [keepA, getS]) (.cons _ (.refl _)) ⟨fin (dn) (bw) (nm) (en) (er) hst rfl rfl rfl, rfl⟩
    · rintro _ H2 ⟨hP, rfl⟩
      first | refine pwp_sr ?_ | refine pwp_regionM ?_
      intro K hK
      simp (disch := first | (refine Ok.mk ?_; (try simp only [Lm, La, Lc, Ln, Lt, Ld, Lr, Li, true_or, or_true, true_and, and_true]); omega) | (simp <;> fail) | skip) [runM_nil]
      refine hK _ _ ?_
      clear hK K
      have hsome : ∃ s', stepJ e (some s) = some s' := by
        cases h : stepJ e (some s) with
        | none =>
          rw [step_some] at h
          repeat' split at h
          all_goals cases h
        | some s' => exact ⟨s', rfl⟩
      obtain ⟨s', hs'⟩ := hsome
      rw [hs'] at hP hts
      exact ⟨l.length - (i + 1), by omega, _, .refl _, i + 1, s', by omega, rfl, hts, hP, by simp [keepL_MS, keepA, getS]⟩
  · obtain rfl : i = l.length := by omega
    rw [List.take_length] at hs
    rw [hs]
    refine pwp_seq ?_
    first | refine pwp_sr ?_ | refine pwp_regionM ?_
    intro K hK
    simp (disch := first | (refine Ok.mk ?_; (try simp only [Lm, La, Lc, Ln, Lt, Ld, Lr, Li, true_or, or_true, true_and, and_true]); omega) | (simp <;> fail) | skip) [runM_nil]
    refine hK _ _ ?_
    clear hK K
    refine pwp_cF (by simp) (pwp_exit ?_)
    obtain ⟨bD, bB, bN, cD, cB, cN, kD, kB, kN, ⟨e1, e2, e3⟩, ⟨e4, e5, e6, e7⟩, ⟨e8, e9, e10, e11, e12⟩, hcD, hcB, hcN, rfl⟩ := hI
    have rD := rowC_rowL (k := kD) hcD.1 hcD.2
    have rB := rowC_rowL (k := kB) hcB.1 hcB.2
    have rN := rowC_rowL (k := kN) hcN.1 hcN.2
    have hbs : hget H b4 = none := by simpa [hget, d0] using h_b4
    generalize hgN : rowC s.nm kN = xN at *
    generalize hgB : rowC s.bw kB = xB at *
    generalize hgD : rowC s.dn kD = xD at *
    refine pwp_freeze (b := bN) 1 false [b4] (by simp [hget]; rfl) ?_
    simp [planS_nil, stC, e8, e9, e10, e11, Ne.symm e8, Ne.symm e9, Ne.symm e10, Ne.symm e11, e5, e2, Ne.symm e5, Ne.symm e2, rN, d0, Ne.symm d0, frzH_id e12 (L := [b4]) (by simpa using hbs)]
    refine pwp_freeze (b := bB) 1 false [b4] (by simp [hget]; rfl) ?_
    simp [planS_nil, stC, e4, e5, e6, Ne.symm e4, Ne.symm e5, Ne.symm e6, e2, Ne.symm e2, rB, d0, Ne.symm d0, frzH_id e7 (L := [b4]) (by simpa using hbs)]
    refine pwp_freeze (b := bD) 1 false [b4] (by simp [hget]; rfl) ?_
    simp [planS_nil, stC, e1, e2, Ne.symm e1, Ne.symm e2, rD, d0, Ne.symm d0, frzH_id e3 (L := [b4]) (by simpa using hbs)]
    first | refine pwp_sr ?_ | refine pwp_regionM ?_
    intro K hK
    simp (disch := first | (refine Ok.mk ?_; (try simp only [Lm, La, Lc, Ln, Lt, Ld, Lr, Li, true_or, or_true, true_and, and_true]); omega) | (simp <;> fail) | skip) [runM_nil, stC0, d_b4_b2, Ne.symm d_b4_b2]
    refine hK _ _ ?_
    clear hK K
    refine pwp_ret ⟨.inr rfl, ?_⟩
    simp [runM_nil, resL, stC0, d0, Ne.symm d0]
    exact ⟨_, _, .cons _ (.cons _ (.refl _)), by simp [resV, stJ], rfl, rfl⟩
end Go.Proofs.Ytibmolekndeofaa.E
