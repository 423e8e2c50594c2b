/- Part 2 of the proof of BlockStores: what the program's functions come to. -/
import Derived.Test.YtkbdlgohmafglaaJBlockStores1
import Derived.Test.YtkbdlgohmafglaaL2
import Derived.Test.YtkbdlgohmafglaaProg
/- Sizes, which are damaged, and what is read. -/
namespace Go.Proofs.Ytkbdlgohmafglaa.E
open Go Go.RowKit Go.Proofs
set_option linter.unusedVariables false
set_option linter.unusedSimpArgs false
theorem size24_ok {s : Nat} {xs : List PV} {o : Bool} {b : List Nat} (hx : xs = b.map u8) (hl : b.length ≤ 1000000) :
    PSpec Try.prog 9 [.lst s xs o] (.int .i64 (szB b.length : Nat)) := by
  subst hx
  intro H
  have e : ((szB b.length : Nat) : Int) = (b.length : Int) / 68 * 64 + if 4 < (b.length : Int) % 68 then (b.length : Int) % 68 - 4 else 0 := by
    unfold szB
    split <;> omega
  rw [e]
  refine spec_of t9 (by simp [p9]) ?_
  simp only [p9]
  rcases (show 4 < (b.length : Int) % 68 ∨ ¬ 4 < (b.length : Int) % 68 by omega) with h | h
  · first | refine pwp_sr ?_ | refine pwp_regionM ?_
    intro K hK
    simp (disch := first | (refine Ok.mk ?_; (try simp only [Lm, La, Lc, Ln, Lt, Ld, Lr, Li, true_or, or_true, true_and, and_true]); omega) | (simp <;> fail) | skip) [runM_nil]
    refine hK _ _ ?_
    clear hK K
    first | refine pwp_sr ?_ | refine pwp_regionM ?_
    intro K hK
    simp (disch := first | (refine Ok.mk ?_; (try simp only [Lm, La, Lc, Ln, Lt, Ld, Lr, Li, true_or, or_true, true_and, and_true]); omega) | (simp <;> fail) | skip) [runM_nil]
    refine hK _ _ ?_
    clear hK K
    first | refine pwp_sr ?_ | refine pwp_regionM ?_
    intro K hK
    simp (disch := first | (refine Ok.mk ?_; (try simp only [Lm, La, Lc, Ln, Lt, Ld, Lr, Li, true_or, or_true, true_and, and_true]); omega) | (simp <;> fail) | skip) [runM_nil, h]
    refine hK _ _ ?_
    clear hK K
    refine pwp_ret ⟨.inr rfl, _, _, (by simp (disch := first | (refine Ok.mk ?_; (try simp only [Lm, La, Lc, Ln, Lt, Ld, Lr, Li, true_or, or_true, true_and, and_true]); omega) | (simp <;> fail) | skip) [runM_nil, resL, h]; rfl), .refl _, by simp (disch := first | (refine Ok.mk ?_; (try simp only [Lm, La, Lc, Ln, Lt, Ld, Lr, Li, true_or, or_true, true_and, and_true]); omega) | (simp <;> fail) | skip) [resV, h], rfl⟩
  · first | refine pwp_sr ?_ | refine pwp_regionM ?_
    intro K hK
    simp (disch := first | (refine Ok.mk ?_; (try simp only [Lm, La, Lc, Ln, Lt, Ld, Lr, Li, true_or, or_true, true_and, and_true]); omega) | (simp <;> fail) | skip) [runM_nil]
    refine hK _ _ ?_
    clear hK K
    first | refine pwp_sr ?_ | refine pwp_regionM ?_
    intro K hK
    simp (disch := first | (refine Ok.mk ?_; (try simp only [Lm, La, Lc, Ln, Lt, Ld, Lr, Li, true_or, or_true, true_and, and_true]); omega) | (simp <;> fail) | skip) [runM_nil]
    refine hK _ _ ?_
    clear hK K
    first | refine pwp_sr ?_ | refine pwp_regionM ?_
    intro K hK
    simp (disch := first | (refine Ok.mk ?_; (try simp only [Lm, La, Lc, Ln, Lt, Ld, Lr, Li, true_or, or_true, true_and, and_true]); omega) | (simp <;> fail) | skip) [runM_nil, h]
    refine hK _ _ ?_
    clear hK K
    refine pwp_ret ⟨.inr rfl, _, _, (by simp (disch := first | (refine Ok.mk ?_; (try simp only [Lm, La, Lc, Ln, Lt, Ld, Lr, Li, true_or, or_true, true_and, and_true]); omega) | (simp <;> fail) | skip) [runM_nil, resL, h]; rfl), .refl _, by simp (disch := first | (refine Ok.mk ?_; (try simp only [Lm, La, Lc, Ln, Lt, Ld, Lr, Li, true_or, or_true, true_and, and_true]); omega) | (simp <;> fail) | skip) [resV, h], rfl⟩
theorem stored_ok (n : Int) (h1 : -9223372036854775808 ≤ n) (h2 : n ≤ 2000000000000) : PSpec Try.prog 12 [.int .i64 n] (.int .i64 (stored n)) := by
  intro H
  unfold stored
  refine spec_of t12 (by simp [p12]) ?_
  simp only [p12]
  first | refine pwp_sr ?_ | refine pwp_regionM ?_
  intro K hK
  simp (disch := first | (refine Ok.mk ?_; (try simp only [Lm, La, Lc, Ln, Lt, Ld, Lr, Li, true_or, or_true, true_and, and_true]); omega) | (simp <;> fail) | skip) [runM_nil]
  refine hK _ _ ?_
  clear hK K
  by_cases h : n < 1
  · first | refine pwp_rif ?_ | refine pwp_rifE ?_
    intro K hK
    simp (disch := first | (refine Ok.mk ?_; (try simp only [Lm, La, Lc, Ln, Lt, Ld, Lr, Li, true_or, or_true, true_and, and_true]); omega) | (simp <;> fail) | skip) [runM_nil, h]
    refine hK _ _ ?_
    clear hK K
    refine ifT (by simp (disch := first | (refine Ok.mk ?_; (try simp only [Lm, La, Lc, Ln, Lt, Ld, Lr, Li, true_or, or_true, true_and, and_true]); omega) | (simp <;> fail) | skip) [runM_nil]) ?_
    first | refine pwp_sr ?_ | refine pwp_regionM ?_
    intro K hK
    simp (disch := first | (refine Ok.mk ?_; (try simp only [Lm, La, Lc, Ln, Lt, Ld, Lr, Li, true_or, or_true, true_and, and_true]); omega) | (simp <;> fail) | skip) [runM_nil]
    refine hK _ _ ?_
    clear hK K
    refine pwp_retT ⟨.inr rfl, _, _, (by simp (disch := first | (refine Ok.mk ?_; (try simp only [Lm, La, Lc, Ln, Lt, Ld, Lr, Li, true_or, or_true, true_and, and_true]); omega) | (simp <;> fail) | skip) [runM_nil, resL, h]; rfl), .refl _, by simp (disch := first | (refine Ok.mk ?_; (try simp only [Lm, La, Lc, Ln, Lt, Ld, Lr, Li, true_or, or_true, true_and, and_true]); omega) | (simp <;> fail) | skip) [resV, h], rfl⟩
  · first | refine pwp_rif ?_ | refine pwp_rifE ?_
    intro K hK
    simp (disch := first | (refine Ok.mk ?_; (try simp only [Lm, La, Lc, Ln, Lt, Ld, Lr, Li, true_or, or_true, true_and, and_true]); omega) | (simp <;> fail) | skip) [runM_nil, h]
    refine hK _ _ ?_
    clear hK K
    refine ifF (by simp (disch := first | (refine Ok.mk ?_; (try simp only [Lm, La, Lc, Ln, Lt, Ld, Lr, Li, true_or, or_true, true_and, and_true]); omega) | (simp <;> fail) | skip) [runM_nil]) (pwp_skip ?_)
    first | refine pwp_sr ?_ | refine pwp_regionM ?_
    intro K hK
    simp (disch := first | (refine Ok.mk ?_; (try simp only [Lm, La, Lc, Ln, Lt, Ld, Lr, Li, true_or, or_true, true_and, and_true]); omega) | (simp <;> fail) | skip) [runM_nil]
    refine hK _ _ ?_
    clear hK K
    refine pwp_ret ⟨.inr rfl, _, _, (by simp (disch := first | (refine Ok.mk ?_; (try simp only [Lm, La, Lc, Ln, Lt, Ld, Lr, Li, true_or, or_true, true_and, and_true]); omega) | (simp <;> fail) | skip) [runM_nil, resL, h]; rfl), .refl _, by simp (disch := first | (refine Ok.mk ?_; (try simp only [Lm, La, Lc, Ln, Lt, Ld, Lr, Li, true_or, or_true, true_and, and_true]); omega) | (simp <;> fail) | skip) [resV, h], rfl⟩
theorem load24_ok {s : Nat} {xs : List PV} {o : Bool} {b : List Nat} (hx : xs = b.map u8) (hs : s = 1 ∨ b.length = 0) (hw : ∀ x ∈ b, x < 256) (hl : b.length ≤ 1000000) :
    PSpec Try.prog 14 [.lst s xs o] (.tup [bV (loa b).1 false, .int .i64 ((loa b).2 : Nat)]) := by
  intro H
  have c := load_ok (o := false) hx hs hw hl
  generalize loa b = S at *
  refine spec_of t14 (by simp [p14]) ?_
  simp only [p14]
  first | refine pwp_sr ?_ | refine pwp_regionM ?_
  intro K hK
  simp (disch := first | (refine Ok.mk ?_; (try simp only [Lm, La, Lc, Ln, Lt, Ld, Lr, Li, true_or, or_true, true_and, and_true]); omega) | (simp <;> fail) | skip) [runM_nil]
  refine hK _ _ ?_
  clear hK K
  first | refine pwp_sr ?_ | refine pwp_regionM ?_
  intro K hK
  simp (disch := first | (refine Ok.mk ?_; (try simp only [Lm, La, Lc, Ln, Lt, Ld, Lr, Li, true_or, or_true, true_and, and_true]); omega) | (simp <;> fail) | skip) [runM_nil]
  refine useP (c) ?_
  simp (disch := first | (refine Ok.mk ?_; (try simp only [Lm, La, Lc, Ln, Lt, Ld, Lr, Li, true_or, or_true, true_and, and_true]); omega) | (simp <;> fail) | skip) [runM_nil]
  refine hK _ _ ?_
  clear hK K
  refine pwp_ret ⟨.inr rfl, _, _, (by simp (disch := first | (refine Ok.mk ?_; (try simp only [Lm, La, Lc, Ln, Lt, Ld, Lr, Li, true_or, or_true, true_and, and_true]); omega) | (simp <;> fail) | skip) [runM_nil, resL]; rfl), .refl _, by simp (disch := first | (refine Ok.mk ?_; (try simp only [Lm, La, Lc, Ln, Lt, Ld, Lr, Li, true_or, or_true, true_and, and_true]); omega) | (simp <;> fail) | skip) [resV], rfl⟩
def dmgTo (s : List Nat) (i : Nat) : List Nat := (List.range i).filter fun j => !(opb (ck 68 s j)).2
theorem dmgTo_succ (s : List Nat) (i : Nat) : dmgTo s (i + 1) = dmgTo s i ++ if (opb (ck 68 s i)).2 = true then [] else [i] := by
  unfold dmgTo
  rw [List.range_succ, List.filter_append]
  cases h : (opb (ck 68 s i)).2 <;> simp [h]
theorem dmgTo_le (s : List Nat) (i : Nat) : (dmgTo s i).length ≤ i := by
  have := List.length_filter_le (fun j => !(opb (ck 68 s j)).2) (List.range i)
  simpa [dmgTo] using this
def i64 (n : Nat) : PV := .int .i64 n
theorem damaged_ok {s : Nat} {xs : List PV} {o : Bool} {b : List Nat} (hx : xs = b.map u8) (hs : s = 1 ∨ b.length = 0) (hw : ∀ x ∈ b, x < 256) (hl : b.length ≤ 1000000) :
    PSpec Try.prog 13 [.lst s xs o] (.lst 1 ((dmg b).map i64) true) := by
  subst hx
  intro H
  have hN : dmg b = dmgTo b ((b.length + 67) / 68) := rfl
  rw [hN]
  refine spec_ofU t13 (by simp [p13]) ?_
  simp only [p13]
  first | refine pwp_sr ?_ | refine pwp_regionM ?_
  intro K hK
  simp (disch := first | (refine Ok.mk ?_; (try simp only [Lm, La, Lc, Ln, Lt, Ld, Lr, Li, true_or, or_true, true_and, and_true]); omega) | (simp <;> fail) | skip) [runM_nil]
  refine hK _ _ ?_
  clear hK K
  first | refine pwp_sr ?_ | refine pwp_regionM ?_
  intro K hK
  simp (disch := first | (refine Ok.mk ?_; (try simp only [Lm, La, Lc, Ln, Lt, Ld, Lr, Li, true_or, or_true, true_and, and_true]); omega) | (simp <;> fail) | skip) [runM_nil]
  refine hK _ _ ?_
  clear hK K
  first | refine pwp_sr ?_ | refine pwp_regionM ?_
  intro K hK
  simp (disch := first | (refine Ok.mk ?_; (try simp only [Lm, La, Lc, Ln, Lt, Ld, Lr, Li, true_or, or_true, true_and, and_true]); omega) | (simp <;> fail) | skip) [runM_nil]
  refine useP (table_ok) ?_
  simp (disch := first | (refine Ok.mk ?_; (try simp only [Lm, La, Lc, Ln, Lt, Ld, Lr, Li, true_or, or_true, true_and, and_true]); omega) | (simp <;> fail) | skip) [runM_nil]
  refine hK _ _ ?_
  clear hK K
  refine pwp_seq (pwp_seq ?_)
  first | refine pwp_sr ?_ | refine pwp_regionM ?_
  intro K hK
  simp (disch := first | (refine Ok.mk ?_; (try simp only [Lm, La, Lc, Ln, Lt, Ld, Lr, Li, true_or, or_true, true_and, and_true]); omega) | (simp <;> fail) | skip) [runM_nil]
  refine hK _ _ ?_
  clear hK K
  refine pwp_block ?_
  refine pwp_loopU [0, 3, 4, 5] (fun m st H' => ∃ i : Nat, i ≤ (b.length + 67) / 68 ∧ m = (b.length + 67) / 68 - i ∧ H' = H ∧ st = MS 36 [(0, .lst s (b.map u8) o), (3, .lst 1 ((dmgTo b i).map i64) true), (4, .lst 1 (tbl.map u32) false), (5, .int .i64 (i * 68 : Nat))]) (n := (b.length + 67) / 68)
    ⟨_, _, keep_up (l' := [(0, .lst s (b.map u8) o), (3, .lst 1 [] true), (4, .lst 1 (tbl.map u32) false), (5, .int .i64 0)]) (by simp), List.Sublist.refl _, 0, Nat.zero_le _, rfl, rfl, by simp [dmgTo]⟩ ?_
  rintro m st H' ⟨i, hi, rfl, rfl, rfl⟩
  by_cases hlt : i < (b.length + 67) / 68
  · have hib : i * 68 < b.length := by omega
    obtain rfl : s = 1 := hs.resolve_right (by omega)
    have hsu := dmgTo_succ b i
    have hdl := dmgTo_le b i
    have hck := ck_length 68 b i
    have c := open24_ok (ot := false) (o := false) (s := 1) (xs := (ck 68 b i).map u8) rfl (.inl rfl) (ck_lt hw i) (by omega)
    have hq : i * 68 / 68 = i := by omega
    have hnx : (i + 1) * 68 = i * 68 + 68 := by omega
    obtain ⟨e, he⟩ : ∃ e, e = min (i * 68 + 68) b.length := ⟨_, rfl⟩
    have hdt : ((b.map u8).take e).drop (i * 68) = (ck 68 b i).map u8 := by
      rw [ck, List.map_take, List.map_drop, List.drop_take, he]
      rcases Nat.le_total (i * 68 + 68) b.length with h | h
      · rw [Nat.min_eq_left h, show i * 68 + 68 - i * 68 = 68 by omega]
      · rw [Nat.min_eq_right h, List.take_of_length_le (by simp), List.take_of_length_le (by simp; omega)]
    generalize ck 68 b i = C at *
    generalize hP : (opb C).1 = P1 at *
    generalize hk : i * 68 = k at *
    have hmn : (if (b.length : Int) < (k : Int) + 68 then (b.length : Int) else (k : Int) + 68) = (e : Nat) := by split <;> omega
    have hke : k ≤ e := by omega
    have heb : e ≤ b.length := by omega
    have hib2 : (k : Int) < b.length := by omega
    have hqi : (k : Int) / 68 = i := by omega
    refine pwp_seq ?_
    first | refine pwp_sr ?_ | refine pwp_regionM ?_
    intro K hK
    simp (disch := first | (refine Ok.mk ?_; (try simp only [Lm, La, Lc, Ln, Lt, Ld, Lr, Li, true_or, or_true, true_and, and_true]); omega) | (simp <;> fail) | skip) [runM_nil, hib2]
    refine hK _ _ ?_
    clear hK K
    refine pwp_cT (by simp) (pwp_skip ?_)
    refine pwp_seq (pwp_block ?_)
    first | refine pwp_sr ?_ | refine pwp_regionM ?_
    intro K hK
    simp (disch := first | (refine Ok.mk ?_; (try simp only [Lm, La, Lc, Ln, Lt, Ld, Lr, Li, true_or, or_true, true_and, and_true]); omega) | (simp <;> fail) | skip) [runM_nil, hmn, hdt, hke, heb]
    refine useP (c) ?_
    simp (disch := first | (refine Ok.mk ?_; (try simp only [Lm, La, Lc, Ln, Lt, Ld, Lr, Li, true_or, or_true, true_and, and_true]); omega) | (simp <;> fail) | skip) [runM_nil, hmn, hdt, hke, heb]
    refine hK _ _ ?_
    clear hK K
    cases ho : (opb C).2 with
    | true =>
      first | refine pwp_rif ?_ | refine pwp_rifE ?_
      intro K hK
      simp (disch := first | (refine Ok.mk ?_; (try simp only [Lm, La, Lc, Ln, Lt, Ld, Lr, Li, true_or, or_true, true_and, and_true]); omega) | (simp <;> fail) | skip) [runM_nil, ho]
      refine hK _ _ ?_
      clear hK K
      refine ifF (by simp (disch := first | (refine Ok.mk ?_; (try simp only [Lm, La, Lc, Ln, Lt, Ld, Lr, Li, true_or, or_true, true_and, and_true]); omega) | (simp <;> fail) | skip) [runM_nil]) (pwp_skip ?_)
      first | refine pwp_sr ?_ | refine pwp_regionM ?_
      intro K hK
      simp (disch := first | (refine Ok.mk ?_; (try simp only [Lm, La, Lc, Ln, Lt, Ld, Lr, Li, true_or, or_true, true_and, and_true]); omega) | (simp <;> fail) | skip) [runM_nil]
      refine hK _ _ ?_
      clear hK K
      refine ⟨(b.length + 67) / 68 - (i + 1), by omega, _, _, keep_up (l' := [(0, .lst 1 (b.map u8) o), (3, .lst 1 ((dmgTo b i).map i64) true), (4, .lst 1 (tbl.map u32) false), (5, .int .i64 ((k : Int) + 68))]) (by simp), List.Sublist.refl _, i + 1, by omega, rfl, rfl, ?_⟩
      rw [hsu, if_pos ho, List.append_nil, hnx]
      simp
    | false =>
      first | refine pwp_rif ?_ | refine pwp_rifE ?_
      intro K hK
      simp (disch := first | (refine Ok.mk ?_; (try simp only [Lm, La, Lc, Ln, Lt, Ld, Lr, Li, true_or, or_true, true_and, and_true]); omega) | (simp <;> fail) | skip) [runM_nil, ho]
      refine hK _ _ ?_
      clear hK K
      refine ifT (by simp (disch := first | (refine Ok.mk ?_; (try simp only [Lm, La, Lc, Ln, Lt, Ld, Lr, Li, true_or, or_true, true_and, and_true]); omega) | (simp <;> fail) | skip) [runM_nil]) ?_
      first | refine pwp_sr ?_ | refine pwp_regionM ?_
      intro K hK
      simp (disch := first | (refine Ok.mk ?_; (try simp only [Lm, La, Lc, Ln, Lt, Ld, Lr, Li, true_or, or_true, true_and, and_true]); omega) | (simp <;> fail) | skip) [runM_nil, hqi]
      refine hK _ _ ?_
      clear hK K
      first | refine pwp_sr ?_ | refine pwp_regionM ?_
      intro K hK
      simp (disch := first | (refine Ok.mk ?_; (try simp only [Lm, La, Lc, Ln, Lt, Ld, Lr, Li, true_or, or_true, true_and, and_true]); omega) | (simp <;> fail) | skip) [runM_nil]
      refine hK _ _ ?_
      clear hK K
      refine ⟨(b.length + 67) / 68 - (i + 1), by omega, _, _, keep_up (l' := [(0, .lst 1 (b.map u8) o), (3, .lst 1 ((dmgTo b i).map i64 ++ [i64 i]) true), (4, .lst 1 (tbl.map u32) false), (5, .int .i64 ((k : Int) + 68))]) (by simp [i64]), List.Sublist.refl _, i + 1, by omega, rfl, rfl, ?_⟩
      rw [hsu, if_neg (by simp [ho]), hnx]
      simp
  · obtain rfl : i = (b.length + 67) / 68 := by omega
    have hib2 : ¬ (((((b.length + 67) / 68) * 68 : Nat) : Int) < b.length) := by omega
    generalize ((b.length + 67) / 68) * 68 = k at *
    refine pwp_seq ?_
    first | refine pwp_sr ?_ | refine pwp_regionM ?_
    intro K hK
    simp (disch := first | (refine Ok.mk ?_; (try simp only [Lm, La, Lc, Ln, Lt, Ld, Lr, Li, true_or, or_true, true_and, and_true]); omega) | (simp <;> fail) | skip) [runM_nil, hib2]
    refine hK _ _ ?_
    clear hK K
    refine pwp_cF (by simp) (pwp_exit ?_)
    first | refine pwp_sr ?_ | refine pwp_regionM ?_
    intro K hK
    simp (disch := first | (refine Ok.mk ?_; (try simp only [Lm, La, Lc, Ln, Lt, Ld, Lr, Li, true_or, or_true, true_and, and_true]); omega) | (simp <;> fail) | skip) [runM_nil]
    refine hK _ _ ?_
    clear hK K
    refine pwp_ret ⟨.inr rfl, _, _, _, (by simp (disch := first | (refine Ok.mk ?_; (try simp only [Lm, La, Lc, Ln, Lt, Ld, Lr, Li, true_or, or_true, true_and, and_true]); omega) | (simp <;> fail) | skip) [runM_nil, resL]; rfl), .refl _, (by simp (disch := first | (refine Ok.mk ?_; (try simp only [Lm, La, Lc, Ln, Lt, Ld, Lr, Li, true_or, or_true, true_and, and_true]); omega) | (simp <;> fail) | skip) [resV]), rfl, rfl⟩
end Go.Proofs.Ytkbdlgohmafglaa.E
/- What is read of stored bytes, and more behind them. -/
namespace Go.Proofs.Ytkbdlgohmafglaa.E
open Go Go.RowKit Go.Proofs
set_option linter.unusedVariables false
set_option linter.unusedSimpArgs false
theorem readBad_ok {xs : List PV} {o : Bool} {l : List Nat} (hx : xs = (sto l).map u8) (hl : l.length ≤ 100000) (f m : Nat) (hf : f ≤ 1000000) (hm : m ≤ 1000000) (h : l.length < f + m) :
    PSpec Try.prog 10 [.lst 1 xs o, .int .i64 f, .int .i64 m] (.tup [.lst 0 [] true, .int .i64 1]) := by
  have hsl := sto_len l
  have c := size24_ok (s := 1) (o := false) (b := sto l) hx (by omega)
  rw [szB_sto] at c
  intro H
  refine spec_of t10 (by simp [p10]) ?_
  simp only [p10]
  first | refine pwp_sr ?_ | refine pwp_regionM ?_
  intro K hK
  simp (disch := first | (refine Ok.mk ?_; (try simp only [Lm, La, Lc, Ln, Lt, Ld, Lr, Li, true_or, or_true, true_and, and_true]); omega) | (simp <;> fail) | skip) [runM_nil]
  refine hK _ _ ?_
  clear hK K
  first | refine pwp_sr ?_ | refine pwp_regionM ?_
  intro K hK
  simp (disch := first | (refine Ok.mk ?_; (try simp only [Lm, La, Lc, Ln, Lt, Ld, Lr, Li, true_or, or_true, true_and, and_true]); omega) | (simp <;> fail) | skip) [runM_nil]
  refine useP (c) ?_
  simp (disch := first | (refine Ok.mk ?_; (try simp only [Lm, La, Lc, Ln, Lt, Ld, Lr, Li, true_or, or_true, true_and, and_true]); omega) | (simp <;> fail) | skip) [runM_nil]
  refine hK _ _ ?_
  clear hK K
  rcases (show (l.length : Int) < f ∨ ¬ ((l.length : Int) < f) ∧ (l.length : Int) - f < m by omega) with h1 | ⟨h1, h2⟩
  · first | refine pwp_rif ?_ | refine pwp_rifE ?_
    intro K hK
    simp (disch := first | (refine Ok.mk ?_; (try simp only [Lm, La, Lc, Ln, Lt, Ld, Lr, Li, true_or, or_true, true_and, and_true]); omega) | (simp <;> fail) | skip) [runM_nil, h1]
    refine hK _ _ ?_
    clear hK K
    refine ifT (by simp (disch := first | (refine Ok.mk ?_; (try simp only [Lm, La, Lc, Ln, Lt, Ld, Lr, Li, true_or, or_true, true_and, and_true]); omega) | (simp <;> fail) | skip) [runM_nil]) ?_
    first | refine pwp_sr ?_ | refine pwp_regionM ?_
    intro K hK
    simp (disch := first | (refine Ok.mk ?_; (try simp only [Lm, La, Lc, Ln, Lt, Ld, Lr, Li, true_or, or_true, true_and, and_true]); omega) | (simp <;> fail) | skip) [runM_nil]
    refine hK _ _ ?_
    clear hK K
    refine pwp_retT ⟨.inr rfl, _, _, (by simp (disch := first | (refine Ok.mk ?_; (try simp only [Lm, La, Lc, Ln, Lt, Ld, Lr, Li, true_or, or_true, true_and, and_true]); omega) | (simp <;> fail) | skip) [runM_nil, resL]; rfl), .refl _, by simp (disch := first | (refine Ok.mk ?_; (try simp only [Lm, La, Lc, Ln, Lt, Ld, Lr, Li, true_or, or_true, true_and, and_true]); omega) | (simp <;> fail) | skip) [resV], rfl⟩
  · first | refine pwp_rif ?_ | refine pwp_rifE ?_
    intro K hK
    simp (disch := first | (refine Ok.mk ?_; (try simp only [Lm, La, Lc, Ln, Lt, Ld, Lr, Li, true_or, or_true, true_and, and_true]); omega) | (simp <;> fail) | skip) [runM_nil, h1, h2]
    refine hK _ _ ?_
    clear hK K
    refine ifT (by simp (disch := first | (refine Ok.mk ?_; (try simp only [Lm, La, Lc, Ln, Lt, Ld, Lr, Li, true_or, or_true, true_and, and_true]); omega) | (simp <;> fail) | skip) [runM_nil]) ?_
    first | refine pwp_sr ?_ | refine pwp_regionM ?_
    intro K hK
    simp (disch := first | (refine Ok.mk ?_; (try simp only [Lm, La, Lc, Ln, Lt, Ld, Lr, Li, true_or, or_true, true_and, and_true]); omega) | (simp <;> fail) | skip) [runM_nil]
    refine hK _ _ ?_
    clear hK K
    refine pwp_retT ⟨.inr rfl, _, _, (by simp (disch := first | (refine Ok.mk ?_; (try simp only [Lm, La, Lc, Ln, Lt, Ld, Lr, Li, true_or, or_true, true_and, and_true]); omega) | (simp <;> fail) | skip) [runM_nil, resL]; rfl), .refl _, by simp (disch := first | (refine Ok.mk ?_; (try simp only [Lm, La, Lc, Ln, Lt, Ld, Lr, Li, true_or, or_true, true_and, and_true]); omega) | (simp <;> fail) | skip) [resV], rfl⟩
theorem readAt_ok {xs : List PV} {o : Bool} {l : List Nat} (hx : xs = (sto l).map u8) (hw : ∀ x ∈ l, x < 256) (hl : l.length ≤ 100000) (f m : Nat) (h : f + m ≤ l.length) :
    PSpec Try.prog 10 [.lst 1 xs o, .int .i64 f, .int .i64 m] (.tup [bV ((l.drop f).take m) (decide (m = 0)), .int .i64 0]) := by
  have hsl := sto_len l
  have c := size24_ok (s := 1) (o := false) (b := sto l) hx (by omega)
  rw [szB_sto] at c
  intro H
  have h1 : ¬ (l.length : Int) < f := by omega
  have h2 : ¬ (l.length : Int) - f < m := by omega
  refine spec_ofU t10 (by simp [p10]) ?_
  simp only [p10]
  first | refine pwp_sr ?_ | refine pwp_regionM ?_
  intro K hK
  simp (disch := first | (refine Ok.mk ?_; (try simp only [Lm, La, Lc, Ln, Lt, Ld, Lr, Li, true_or, or_true, true_and, and_true]); omega) | (simp <;> fail) | skip) [runM_nil]
  refine hK _ _ ?_
  clear hK K
  first | refine pwp_sr ?_ | refine pwp_regionM ?_
  intro K hK
  simp (disch := first | (refine Ok.mk ?_; (try simp only [Lm, La, Lc, Ln, Lt, Ld, Lr, Li, true_or, or_true, true_and, and_true]); omega) | (simp <;> fail) | skip) [runM_nil]
  refine useP (c) ?_
  simp (disch := first | (refine Ok.mk ?_; (try simp only [Lm, La, Lc, Ln, Lt, Ld, Lr, Li, true_or, or_true, true_and, and_true]); omega) | (simp <;> fail) | skip) [runM_nil]
  refine hK _ _ ?_
  clear hK K
  first | refine pwp_rif ?_ | refine pwp_rifE ?_
  intro K hK
  simp (disch := first | (refine Ok.mk ?_; (try simp only [Lm, La, Lc, Ln, Lt, Ld, Lr, Li, true_or, or_true, true_and, and_true]); omega) | (simp <;> fail) | skip) [runM_nil, h1, h2]
  refine hK _ _ ?_
  clear hK K
  refine ifF (by simp (disch := first | (refine Ok.mk ?_; (try simp only [Lm, La, Lc, Ln, Lt, Ld, Lr, Li, true_or, or_true, true_and, and_true]); omega) | (simp <;> fail) | skip) [runM_nil]) (pwp_skip ?_)
  rcases Nat.eq_zero_or_pos m with h0 | h0
  · subst h0
    first | refine pwp_rif ?_ | refine pwp_rifE ?_
    intro K hK
    simp (disch := first | (refine Ok.mk ?_; (try simp only [Lm, La, Lc, Ln, Lt, Ld, Lr, Li, true_or, or_true, true_and, and_true]); omega) | (simp <;> fail) | skip) [runM_nil]
    refine hK _ _ ?_
    clear hK K
    refine ifT (by simp (disch := first | (refine Ok.mk ?_; (try simp only [Lm, La, Lc, Ln, Lt, Ld, Lr, Li, true_or, or_true, true_and, and_true]); omega) | (simp <;> fail) | skip) [runM_nil]) ?_
    first | refine pwp_sr ?_ | refine pwp_regionM ?_
    intro K hK
    simp (disch := first | (refine Ok.mk ?_; (try simp only [Lm, La, Lc, Ln, Lt, Ld, Lr, Li, true_or, or_true, true_and, and_true]); omega) | (simp <;> fail) | skip) [runM_nil]
    refine hK _ _ ?_
    clear hK K
    refine pwp_retT ⟨.inr rfl, _, _, _, (by simp [runM_nil, resL]; rfl), .refl _, (by simp [resV]), rfl, rfl⟩
  · have h3 : ¬ m = 0 := by omega
    first | refine pwp_rif ?_ | refine pwp_rifE ?_
    intro K hK
    simp (disch := first | (refine Ok.mk ?_; (try simp only [Lm, La, Lc, Ln, Lt, Ld, Lr, Li, true_or, or_true, true_and, and_true]); omega) | (simp <;> fail) | skip) [runM_nil, h3]
    refine hK _ _ ?_
    clear hK K
    refine ifF (by simp (disch := first | (refine Ok.mk ?_; (try simp only [Lm, La, Lc, Ln, Lt, Ld, Lr, Li, true_or, or_true, true_and, and_true]); omega) | (simp <;> fail) | skip) [runM_nil]) (pwp_skip ?_)
    obtain ⟨F, hF⟩ : ∃ F, F = f / 64 := ⟨_, rfl⟩
    obtain ⟨K, hK⟩ : ∃ K, K = (f + m - 1) / 64 := ⟨_, rfl⟩
    have hF2 : (f : Int) / 64 = F := by omega
    have hK2 : ((f : Int) + m - 1) / 64 = K := by omega
    first | refine pwp_sr ?_ | refine pwp_regionM ?_
    intro K hK
    simp (disch := first | (refine Ok.mk ?_; (try simp only [Lm, La, Lc, Ln, Lt, Ld, Lr, Li, true_or, or_true, true_and, and_true]); omega) | (simp <;> fail) | skip) [runM_nil, hF2, hK2]
    refine hK _ _ ?_
    clear hK K
    obtain ⟨e, he⟩ : ∃ e, e = min ((K + 1) * 68) (sto l).length := ⟨_, rfl⟩
    have hmn : (if ((sto l).length : Int) < ((K : Int) + 1) * 68 then ((sto l).length : Int) else ((K : Int) + 1) * 68) = (e : Nat) := by split <;> omega
    have hF68 : ((F : Int) * 68).toNat = F * 68 := by omega
    have hdt : (xs.take e).drop (F * 68) = (sto ((l.take ((K + 1) * 64)).drop (F * 64))).map u8 := by
      rw [hx, ← sto_dropk, ← sto_takek, List.map_drop, List.map_take, he]
      congr 1
      rcases Nat.le_total ((K + 1) * 68) (sto l).length with h | h
      · rw [Nat.min_eq_left h]
      · rw [Nat.min_eq_right h, List.take_of_length_le (by simp), List.take_of_length_le (by simpa using h)]
    have hdt2 : ((((l.take ((K + 1) * 64)).drop (F * 64)).map u8).take (f - F * 64 + m)).drop (f - F * 64) = ((l.drop f).take m).map u8 := by
      rw [← List.map_take, ← List.map_drop]
      congr 1
      rw [List.drop_take, List.drop_take, List.drop_take, List.take_take, List.drop_drop, show F * 64 + (f - F * 64) = f by omega]
      congr 1
      omega
    have hll : ((l.take ((K + 1) * 64)).drop (F * 64)).length = min ((K + 1) * 64) l.length - F * 64 := by simp
    have hwl : ∀ x ∈ (l.take ((K + 1) * 64)).drop (F * 64), x < 256 := fun x hx => hw x (List.mem_of_mem_take (List.mem_of_mem_drop hx))
    have c2 := load_ok (s := 1) (o := false) (xs := (sto ((l.take ((K + 1) * 64)).drop (F * 64))).map u8) rfl (.inl rfl) (sto_lt hwl) (by rw [sto_len]; omega)
    rw [loa_sto] at c2
    have hxl : xs.length = (sto l).length := by rw [hx, List.length_map]
    have hlo : F * 68 ≤ e := by omega
    have hhi : e ≤ xs.length := by omega
    generalize ((l.take ((K + 1) * 64)).drop (F * 64)) = L2 at *
    generalize (sto L2).map u8 = X2 at *
    obtain ⟨a, ha⟩ : ∃ a, a = f - F * 64 := ⟨_, rfl⟩
    rw [← ha] at hdt2
    have hat : (f : Int) - (F : Int) * 64 = (a : Nat) := by omega
    first | refine pwp_sr ?_ | refine pwp_regionM ?_
    intro K hK
    simp (disch := first | (refine Ok.mk ?_; (try simp only [Lm, La, Lc, Ln, Lt, Ld, Lr, Li, true_or, or_true, true_and, and_true]); omega) | (simp <;> fail) | skip) [runM_nil, hxl, hmn, hF68, hdt]
    refine useP (c2) ?_
    simp (disch := first | (refine Ok.mk ?_; (try simp only [Lm, La, Lc, Ln, Lt, Ld, Lr, Li, true_or, or_true, true_and, and_true]); omega) | (simp <;> fail) | skip) [runM_nil, hxl, hmn, hF68, hdt]
    refine hK _ _ ?_
    clear hK K
    first | refine pwp_rif ?_ | refine pwp_rifE ?_
    intro K hK
    simp (disch := first | (refine Ok.mk ?_; (try simp only [Lm, La, Lc, Ln, Lt, Ld, Lr, Li, true_or, or_true, true_and, and_true]); omega) | (simp <;> fail) | skip) [runM_nil]
    refine hK _ _ ?_
    clear hK K
    refine ifF (by simp (disch := first | (refine Ok.mk ?_; (try simp only [Lm, La, Lc, Ln, Lt, Ld, Lr, Li, true_or, or_true, true_and, and_true]); omega) | (simp <;> fail) | skip) [runM_nil]) (pwp_skip ?_)
    first | refine pwp_sr ?_ | refine pwp_regionM ?_
    intro K hK
    simp (disch := first | (refine Ok.mk ?_; (try simp only [Lm, La, Lc, Ln, Lt, Ld, Lr, Li, true_or, or_true, true_and, and_true]); omega) | (simp <;> fail) | skip) [runM_nil, hat]
    refine hK _ _ ?_
    clear hK K
    have hl2 : a + m ≤ L2.length := by omega
    have hat2 : ((a : Int) + (m : Int)).toNat = a + m := by omega
    first | refine pwp_sr ?_ | refine pwp_regionM ?_
    intro K hK
    simp (disch := first | (refine Ok.mk ?_; (try simp only [Lm, La, Lc, Ln, Lt, Ld, Lr, Li, true_or, or_true, true_and, and_true]); omega) | (simp <;> fail) | skip) [runM_nil, hat2, hdt2]
    refine hK _ _ ?_
    clear hK K
    refine pwp_ret ⟨.inr rfl, _, _, _, (by simp (disch := first | (refine Ok.mk ?_; (try simp only [Lm, La, Lc, Ln, Lt, Ld, Lr, Li, true_or, or_true, true_and, and_true]); omega) | (simp <;> fail) | skip) [runM_nil, resL, h3]; rfl), .refl _, (by simp (disch := first | (refine Ok.mk ?_; (try simp only [Lm, La, Lc, Ln, Lt, Ld, Lr, Li, true_or, or_true, true_and, and_true]); omega) | (simp <;> fail) | skip) [resV, h3]), rfl, rfl⟩
end Go.Proofs.Ytkbdlgohmafglaa.E
/- More behind stored bytes. -/
namespace Go.Proofs.Ytkbdlgohmafglaa.E
open Go Go.RowKit Go.Proofs
set_option linter.unusedVariables false
set_option linter.unusedSimpArgs false
theorem append_ok (hmix : Try.prog.follows .mixedOrders = true) {xs ys : List PV} {s2 : Nat} {o o2 : Bool} {l more : List Nat} (hx : xs = (sto l).map u8) (hy : ys = more.map u8) (hs2 : s2 = 1 ∨ more.length = 0) (hw : ∀ x ∈ l, x < 256) (hw2 : ∀ x ∈ more, x < 256) (hl : l.length ≤ 100000) (hl2 : more.length ≤ 100000) :
    PSpec Try.prog 8 [.lst 1 xs o, .lst s2 ys o2] (.tup [bV (sto (l ++ more)) true, .int .i64 0]) := by
  have hsl := sto_len l
  have hsl2 := sto_len (l ++ more)
  rw [List.length_append] at hsl2
  have hxl : xs.length = (sto l).length := by rw [hx, List.length_map]
  obtain ⟨K, hK⟩ : ∃ K, K = (l.length - 1) / 64 := ⟨_, rfl⟩
  have hmm : (if (1 : Int) < (xs.length : Int) then (xs.length : Int) - 1 else 0) / 68 * 68 = ((K * 68 : Nat) : Int) := by
    rw [hxl]
    split <;> omega
  have hkl : K * 64 ≤ l.length := by omega
  have hkx : K * 68 ≤ xs.length := by omega
  have hdr : xs.drop (K * 68) = (sto (l.drop (K * 64))).map u8 := by rw [hx, ← List.map_drop, sto_dropk]
  have htk : xs.take (K * 68) = (sto (l.take (K * 64))).map u8 := by rw [hx, ← List.map_take, sto_takek]
  have hwl : ∀ x ∈ l.drop (K * 64), x < 256 := fun x hx => hw x (List.mem_of_mem_drop hx)
  have c1 := load_ok (s := 1) (o := false) (xs := (sto (l.drop (K * 64))).map u8) rfl (.inl rfl) (sto_lt hwl) (by rw [sto_len, List.length_drop]; omega)
  rw [loa_sto] at c1
  have e1 : l.take (K * 64) = (l ++ more).take (K * 64) := by rw [List.take_append_of_le_length hkl]
  have e2 : l.drop (K * 64) ++ more = (l ++ more).drop (K * 64) := by rw [List.drop_append_of_le_length hkl]
  have hsp : sto (l.take (K * 64)) ++ sto (l.drop (K * 64) ++ more) = sto (l ++ more) := by rw [e1, e2, sto_split]
  have hld : (l.drop (K * 64)).length ≤ l.length := by simp
  have c2 := concat_ok (es := [.lst 1 ((l.drop (K * 64)).map u8) false, .lst s2 (more.map u8) false]) (o := false) [(1, l.drop (K * 64)), (s2, more)] rfl (by
    intro p hp
    rcases List.mem_cons.1 hp with rfl | hp
    · exact .inl rfl
    · rcases List.mem_cons.1 hp with rfl | hp
      · exact hs2
      · cases hp) (by simp) (by simp; omega)
  have e3 : List.flatMap (fun x : Nat × List Nat => x.2) [(1, l.drop (K * 64)), (s2, more)] = l.drop (K * 64) ++ more := by simp
  rw [e3] at c2
  have hwm : ∀ x ∈ l.drop (K * 64) ++ more, x < 256 := fun x hx => (List.mem_append.1 hx).elim (hwl x) (hw2 x)
  have c3 := store_ok (s := 1) (o := false) (xs := (l.drop (K * 64) ++ more).map u8) rfl (.inl rfl) hwm (by rw [List.length_append]; omega)
  have hlt : (sto (l.take (K * 64))).length + (sto (l.drop (K * 64) ++ more)).length = (sto (l ++ more)).length := by rw [← List.length_append, hsp]
  subst hy
  intro H
  generalize sto (l.take (K * 64)) = T1 at *
  generalize sto (l.drop (K * 64) ++ more) = T2 at *
  generalize (l.drop (K * 64) ++ more) = L3 at *
  generalize sto (l.drop (K * 64)) = L5 at *
  generalize l.drop (K * 64) = L4 at *
  generalize sto (l ++ more) = R at *
  subst hsp
  clear hx e1 e2
  generalize hk : K * 68 = k at *
  have hkn : ((k : Nat) : Int).toNat = k := by omega
  refine spec_of t8 (by simp [p8]) ?_
  simp only [p8]
  first | refine pwp_sr ?_ | refine pwp_regionM ?_
  intro K hK
  simp (disch := first | (refine Ok.mk ?_; (try simp only [Lm, La, Lc, Ln, Lt, Ld, Lr, Li, true_or, or_true, true_and, and_true]); omega) | (simp <;> fail) | skip) [runM_nil]
  refine hK _ _ ?_
  clear hK K
  first | refine pwp_sr ?_ | refine pwp_regionM ?_
  intro K hK
  simp (disch := first | (refine Ok.mk ?_; (try simp only [Lm, La, Lc, Ln, Lt, Ld, Lr, Li, true_or, or_true, true_and, and_true]); omega) | (simp <;> fail) | skip) [runM_nil, hmm]
  refine hK _ _ ?_
  clear hK K
  first | refine pwp_sr ?_ | refine pwp_regionM ?_
  intro K hK
  simp (disch := first | (refine Ok.mk ?_; (try simp only [Lm, La, Lc, Ln, Lt, Ld, Lr, Li, true_or, or_true, true_and, and_true]); omega) | (simp <;> fail) | skip) [runM_nil, hkn, hdr]
  refine useP (c1) ?_
  simp (disch := first | (refine Ok.mk ?_; (try simp only [Lm, La, Lc, Ln, Lt, Ld, Lr, Li, true_or, or_true, true_and, and_true]); omega) | (simp <;> fail) | skip) [runM_nil, hkn, hdr]
  refine hK _ _ ?_
  clear hK K
  first | refine pwp_rif ?_ | refine pwp_rifE ?_
  intro K hK
  simp (disch := first | (refine Ok.mk ?_; (try simp only [Lm, La, Lc, Ln, Lt, Ld, Lr, Li, true_or, or_true, true_and, and_true]); omega) | (simp <;> fail) | skip) [runM_nil]
  refine hK _ _ ?_
  clear hK K
  refine ifF (by simp (disch := first | (refine Ok.mk ?_; (try simp only [Lm, La, Lc, Ln, Lt, Ld, Lr, Li, true_or, or_true, true_and, and_true]); omega) | (simp <;> fail) | skip) [runM_nil]) (pwp_skip ?_)
  first | refine pwp_sd hmix ?_ | refine pwp_drawM hmix ?_
  intro K hK
  simp (disch := first | (refine Ok.mk ?_; (try simp only [Lm, La, Lc, Ln, Lt, Ld, Lr, Li, true_or, or_true, true_and, and_true]); omega) | (simp <;> fail) | skip) [runM_nil, hkn, htk]
  refine useD (c2) ?_
  simp (disch := first | (refine Ok.mk ?_; (try simp only [Lm, La, Lc, Ln, Lt, Ld, Lr, Li, true_or, or_true, true_and, and_true]); omega) | (simp <;> fail) | skip) [runM_nil, hkn, htk]
  refine useD (c3) ?_
  simp (disch := first | (refine Ok.mk ?_; (try simp only [Lm, La, Lc, Ln, Lt, Ld, Lr, Li, true_or, or_true, true_and, and_true]); omega) | (simp <;> fail) | skip) [runM_nil, hkn, htk]
  refine hK _ _ ?_
  clear hK K
  refine pwp_ret ⟨.inr rfl, _, _, (by simp (disch := first | (refine Ok.mk ?_; (try simp only [Lm, La, Lc, Ln, Lt, Ld, Lr, Li, true_or, or_true, true_and, and_true]); omega) | (simp <;> fail) | skip) [runM_nil, resL]; rfl), .refl _, by simp (disch := first | (refine Ok.mk ?_; (try simp only [Lm, La, Lc, Ln, Lt, Ld, Lr, Li, true_or, or_true, true_and, and_true]); omega) | (simp <;> fail) | skip) [resV], rfl⟩
end Go.Proofs.Ytkbdlgohmafglaa.E
/- The live question, and there and back. -/
namespace Go.Proofs.Ytkbdlgohmafglaa.E
open Go Go.RowKit Go.Proofs
set_option linter.unusedVariables false
set_option linter.unusedSimpArgs false
theorem mix24 : Try.prog.follows .mixedOrders = true := by kernel_rfl
theorem alive_ok : PSpec Try.prog 7 [] (.bool true) := by
  intro H
  have hw : ∀ x ∈ List.replicate 65 0, x < 256 := by simp
  have c1 := store_ok (s := 1) (xs := List.replicate 65 (.int .u8 0)) (o := false) (b := List.replicate 65 0) (by simp) (.inl rfl) hw (by simp)
  have c2 := readAt_ok (xs := (sto (List.replicate 65 0)).map u8) (o := false) (l := List.replicate 65 0) rfl hw (by simp) 64 1 (by simp)
  have c3 := readBad_ok (xs := (sto (List.replicate 65 0)).map u8) (o := false) (l := List.replicate 65 0) rfl (by simp) 64 2 (by omega) (by omega) (by simp)
  have c4 := size24_ok (s := 1) (xs := (sto (List.replicate 65 0)).map u8) (o := false) (b := sto (List.replicate 65 0)) rfl (by rw [sto_len]; simp)
  rw [szB_sto] at c4
  have c5 := stored_ok 65 (by omega) (by omega)
  have h5 : stored 65 = 73 := by decide
  have hl : (sto (List.replicate 65 0)).length = 73 := by rw [sto_len]; simp
  have e2 : ((List.replicate 65 0).drop 64).take 1 = [0] := by decide
  rw [e2] at c2
  rw [h5] at c5
  rw [List.length_replicate] at c4
  generalize sto (List.replicate 65 0) = S at *
  simp at c2 c3 c4
  have hr : List.replicate 65 (PV.int .u8 0) = List.replicate 65 (PV.int .u8 0) := rfl
  generalize hR : List.replicate 65 (PV.int .u8 0) = R at *
  refine spec_of t7 (by simp [p7]) ?_
  simp only [p7]
  first | refine pwp_sr ?_ | refine pwp_regionM ?_
  intro K hK
  simp (disch := first | (refine Ok.mk ?_; (try simp only [Lm, La, Lc, Ln, Lt, Ld, Lr, Li, true_or, or_true, true_and, and_true]); omega) | (simp <;> fail) | skip) [runM_nil]
  refine hK _ _ ?_
  clear hK K
  first | refine pwp_sr ?_ | refine pwp_regionM ?_
  intro K hK
  simp (disch := first | (refine Ok.mk ?_; (try simp only [Lm, La, Lc, Ln, Lt, Ld, Lr, Li, true_or, or_true, true_and, and_true]); omega) | (simp <;> fail) | skip) [runM_nil, -List.reduceReplicate, hR]
  refine useP (c1) ?_
  simp (disch := first | (refine Ok.mk ?_; (try simp only [Lm, La, Lc, Ln, Lt, Ld, Lr, Li, true_or, or_true, true_and, and_true]); omega) | (simp <;> fail) | skip) [runM_nil, -List.reduceReplicate, hR]
  refine hK _ _ ?_
  clear hK K
  first | refine pwp_sr ?_ | refine pwp_regionM ?_
  intro K hK
  simp (disch := first | (refine Ok.mk ?_; (try simp only [Lm, La, Lc, Ln, Lt, Ld, Lr, Li, true_or, or_true, true_and, and_true]); omega) | (simp <;> fail) | skip) [runM_nil]
  refine useP (c2) ?_
  simp (disch := first | (refine Ok.mk ?_; (try simp only [Lm, La, Lc, Ln, Lt, Ld, Lr, Li, true_or, or_true, true_and, and_true]); omega) | (simp <;> fail) | skip) [runM_nil]
  refine hK _ _ ?_
  clear hK K
  first | refine pwp_sr ?_ | refine pwp_regionM ?_
  intro K hK
  simp (disch := first | (refine Ok.mk ?_; (try simp only [Lm, La, Lc, Ln, Lt, Ld, Lr, Li, true_or, or_true, true_and, and_true]); omega) | (simp <;> fail) | skip) [runM_nil]
  refine useP (c3) ?_
  simp (disch := first | (refine Ok.mk ?_; (try simp only [Lm, La, Lc, Ln, Lt, Ld, Lr, Li, true_or, or_true, true_and, and_true]); omega) | (simp <;> fail) | skip) [runM_nil]
  refine hK _ _ ?_
  clear hK K
  first | refine pwp_sr ?_ | refine pwp_regionM ?_
  intro K hK
  simp (disch := first | (refine Ok.mk ?_; (try simp only [Lm, La, Lc, Ln, Lt, Ld, Lr, Li, true_or, or_true, true_and, and_true]); omega) | (simp <;> fail) | skip) [runM_nil, hl]
  refine useP (c5) ?_
  simp (disch := first | (refine Ok.mk ?_; (try simp only [Lm, La, Lc, Ln, Lt, Ld, Lr, Li, true_or, or_true, true_and, and_true]); omega) | (simp <;> fail) | skip) [runM_nil, hl]
  refine useP (c4) ?_
  simp (disch := first | (refine Ok.mk ?_; (try simp only [Lm, La, Lc, Ln, Lt, Ld, Lr, Li, true_or, or_true, true_and, and_true]); omega) | (simp <;> fail) | skip) [runM_nil, hl]
  refine hK _ _ ?_
  clear hK K
  refine pwp_ret ⟨.inr rfl, _, _, (by simp (disch := first | (refine Ok.mk ?_; (try simp only [Lm, La, Lc, Ln, Lt, Ld, Lr, Li, true_or, or_true, true_and, and_true]); omega) | (simp <;> fail) | skip) [runM_nil, resL]; rfl), .refl _, by simp (disch := first | (refine Ok.mk ?_; (try simp only [Lm, La, Lc, Ln, Lt, Ld, Lr, Li, true_or, or_true, true_and, and_true]); omega) | (simp <;> fail) | skip) [resV], rfl⟩
theorem back24_ok {o : Bool} {b : List Nat} (hw : ∀ x ∈ b, x < 256) (hl0 : b.length ≤ 9223372036854775807) (f t : Int) (hf : -9223372036854775808 ≤ f) (ht : t ≤ 9223372036854775807) :
    PSpec Try.prog 6 [.lst 1 (b.map u8) o, .int .i64 f, .int .i64 t] (.bool true) := by
  intro H
  have hmix := mix24
  have ca := alive_ok
  refine spec_of t6 (by simp [p6]) ?_
  simp only [p6]
  first | refine pwp_sr ?_ | refine pwp_regionM ?_
  intro K hK
  simp (disch := first | (refine Ok.mk ?_; (try simp only [Lm, La, Lc, Ln, Lt, Ld, Lr, Li, true_or, or_true, true_and, and_true]); omega) | (simp <;> fail) | skip) [runM_nil]
  refine hK _ _ ?_
  clear hK K
  rcases Nat.lt_or_ge 800 b.length with h1 | h1
  · first | refine pwp_rif ?_ | refine pwp_rifE ?_
    intro K hK
    simp (disch := first | (refine Ok.mk ?_; (try simp only [Lm, La, Lc, Ln, Lt, Ld, Lr, Li, true_or, or_true, true_and, and_true]); omega) | (simp <;> fail) | skip) [runM_nil, h1]
    refine hK _ _ ?_
    clear hK K
    refine ifT (by simp (disch := first | (refine Ok.mk ?_; (try simp only [Lm, La, Lc, Ln, Lt, Ld, Lr, Li, true_or, or_true, true_and, and_true]); omega) | (simp <;> fail) | skip) [runM_nil]) ?_
    first | refine pwp_sr ?_ | refine pwp_regionM ?_
    intro K hK
    simp (disch := first | (refine Ok.mk ?_; (try simp only [Lm, La, Lc, Ln, Lt, Ld, Lr, Li, true_or, or_true, true_and, and_true]); omega) | (simp <;> fail) | skip) [runM_nil]
    refine useP (ca) ?_
    simp (disch := first | (refine Ok.mk ?_; (try simp only [Lm, La, Lc, Ln, Lt, Ld, Lr, Li, true_or, or_true, true_and, and_true]); omega) | (simp <;> fail) | skip) [runM_nil]
    refine hK _ _ ?_
    clear hK K
    refine pwp_retT ⟨.inr rfl, _, _, (by simp (disch := first | (refine Ok.mk ?_; (try simp only [Lm, La, Lc, Ln, Lt, Ld, Lr, Li, true_or, or_true, true_and, and_true]); omega) | (simp <;> fail) | skip) [runM_nil, resL]; rfl), .refl _, by simp (disch := first | (refine Ok.mk ?_; (try simp only [Lm, La, Lc, Ln, Lt, Ld, Lr, Li, true_or, or_true, true_and, and_true]); omega) | (simp <;> fail) | skip) [resV], rfl⟩
  have h2 : ¬ 800 < b.length := by omega
  first | refine pwp_rif ?_ | refine pwp_rifE ?_
  intro K hK
  simp (disch := first | (refine Ok.mk ?_; (try simp only [Lm, La, Lc, Ln, Lt, Ld, Lr, Li, true_or, or_true, true_and, and_true]); omega) | (simp <;> fail) | skip) [runM_nil, h2]
  refine hK _ _ ?_
  clear hK K
  refine ifF (by simp (disch := first | (refine Ok.mk ?_; (try simp only [Lm, La, Lc, Ln, Lt, Ld, Lr, Li, true_or, or_true, true_and, and_true]); omega) | (simp <;> fail) | skip) [runM_nil]) (pwp_skip ?_)
  have c1 := store_ok (s := 1) (xs := b.map u8) (o := false) (b := b) rfl (.inl rfl) hw (by omega)
  have hsl := sto_len b
  have hsw := sto_lt hw
  have c2 := load24_ok (s := 1) (xs := (sto b).map u8) (o := false) (b := sto b) rfl (.inl rfl) hsw (by omega)
  rw [loa_sto] at c2
  have c3 := damaged_ok (s := 1) (xs := (sto b).map u8) (o := false) (b := sto b) rfl (.inl rfl) hsw (by omega)
  rw [dmg_sto] at c3
  have c4 := size24_ok (s := 1) (xs := (sto b).map u8) (o := false) (b := sto b) rfl (by omega)
  rw [szB_sto] at c4
  have c5 := stored_ok b.length (by omega) (by omega)
  rw [stored_sto] at c5
  have v1 : ∀ o, cvSP (.lst 1 (b.map u8) o) = some (.str (ci b)) := fun o => cvS_u8 rfl (.inl rfl) hw
  first | refine pwp_sr ?_ | refine pwp_regionM ?_
  intro K hK
  simp (disch := first | (refine Ok.mk ?_; (try simp only [Lm, La, Lc, Ln, Lt, Ld, Lr, Li, true_or, or_true, true_and, and_true]); omega) | (simp <;> fail) | skip) [runM_nil]
  refine useP (c1) ?_
  simp (disch := first | (refine Ok.mk ?_; (try simp only [Lm, La, Lc, Ln, Lt, Ld, Lr, Li, true_or, or_true, true_and, and_true]); omega) | (simp <;> fail) | skip) [runM_nil]
  refine hK _ _ ?_
  clear hK K
  first | refine pwp_sr ?_ | refine pwp_regionM ?_
  intro K hK
  simp (disch := first | (refine Ok.mk ?_; (try simp only [Lm, La, Lc, Ln, Lt, Ld, Lr, Li, true_or, or_true, true_and, and_true]); omega) | (simp <;> fail) | skip) [runM_nil]
  refine useP (c2) ?_
  simp (disch := first | (refine Ok.mk ?_; (try simp only [Lm, La, Lc, Ln, Lt, Ld, Lr, Li, true_or, or_true, true_and, and_true]); omega) | (simp <;> fail) | skip) [runM_nil]
  refine hK _ _ ?_
  clear hK K
  first | refine pwp_rif ?_ | refine pwp_rifE ?_
  intro K hK
  simp (disch := first | (refine Ok.mk ?_; (try simp only [Lm, La, Lc, Ln, Lt, Ld, Lr, Li, true_or, or_true, true_and, and_true]); omega) | (simp <;> fail) | skip) [runM_nil, v1, strP]
  refine useP (c3) ?_
  simp (disch := first | (refine Ok.mk ?_; (try simp only [Lm, La, Lc, Ln, Lt, Ld, Lr, Li, true_or, or_true, true_and, and_true]); omega) | (simp <;> fail) | skip) [runM_nil, v1, strP]
  refine useP (c4) ?_
  simp (disch := first | (refine Ok.mk ?_; (try simp only [Lm, La, Lc, Ln, Lt, Ld, Lr, Li, true_or, or_true, true_and, and_true]); omega) | (simp <;> fail) | skip) [runM_nil, v1, strP]
  refine useP (c5) ?_
  simp (disch := first | (refine Ok.mk ?_; (try simp only [Lm, La, Lc, Ln, Lt, Ld, Lr, Li, true_or, or_true, true_and, and_true]); omega) | (simp <;> fail) | skip) [runM_nil, v1, strP]
  refine hK _ _ ?_
  clear hK K
  refine ifF (by simp (disch := first | (refine Ok.mk ?_; (try simp only [Lm, La, Lc, Ln, Lt, Ld, Lr, Li, true_or, or_true, true_and, and_true]); omega) | (simp <;> fail) | skip) [runM_nil]) (pwp_skip ?_)
  by_cases hr : 0 ≤ f ∧ f ≤ t ∧ t ≤ b.length
  · obtain ⟨hr1, hr2, hr3⟩ := hr
    obtain ⟨F, rfl⟩ := Int.eq_ofNat_of_zero_le hr1
    obtain ⟨m, hm⟩ := Int.eq_ofNat_of_zero_le (show 0 ≤ t - F by omega)
    obtain rfl : t = ((F + m : Nat) : Int) := by omega
    have hm2 : ((F : Int) + m) - F = m := by omega
    have g1 : ¬ ((F : Int) + m < F) := by omega
    have g2 : ¬ ((b.length : Int) < (F : Int) + m) := by omega
    have hFm : F + m ≤ b.length := by omega
    have c6 := readAt_ok (xs := (sto b).map u8) (o := false) (l := b) rfl hw (by omega) F m hFm
    have htl : (b.take F).length = F := by rw [List.length_take]; omega
    have hdl : (b.drop F).length = b.length - F := List.length_drop
    have hw1 : ∀ x ∈ b.take F, x < 256 := fun x hx => hw x (List.mem_of_mem_take hx)
    have hw2 : ∀ x ∈ b.drop F, x < 256 := fun x hx => hw x (List.mem_of_mem_drop hx)
    have c7 := store_ok (s := 1) (xs := (b.take F).map u8) (o := false) (b := b.take F) rfl (.inl rfl) hw1 (by omega)
    have c8 := append_ok hmix (xs := (sto (b.take F)).map u8) (ys := (b.drop F).map u8) (s2 := 1) (o := false) (o2 := false) (l := b.take F) (more := b.drop F) rfl rfl (.inl rfl) hw1 hw2 (by omega) (by omega)
    rw [List.take_append_drop] at c8
    have hw3 : ∀ x ∈ (b.drop F).take m, x < 256 := fun x hx => hw2 x (List.mem_of_mem_take hx)
    have v2 : ∀ o, cvSP (.lst 1 (((b.drop F).take m).map u8) o) = some (.str (ci ((b.drop F).take m))) := fun o => cvS_u8 rfl (.inl rfl) hw3
    have v3 : ∀ o, cvSP (.lst 1 ((sto b).map u8) o) = some (.str (ci (sto b))) := fun o => cvS_u8 rfl (.inl rfl) hsw
    have e1 : (b.map u8).take F = (b.take F).map u8 := (List.map_take ..).symm
    have e2 : (b.map u8).drop F = (b.drop F).map u8 := (List.map_drop ..).symm
    have e3 : ((b.map u8).take (F + m)).drop F = ((b.drop F).take m).map u8 := by rw [← List.map_take, ← List.map_drop, List.drop_take, show F + m - F = m by omega]
    have hF1 : ((F : Nat) : Int).toNat = F := by omega
    have hF2 : ((F : Int) + (m : Int)).toNat = F + m := by omega
    generalize (b.drop F).take m = B3 at *
    generalize sto (b.take F) = S1 at *
    generalize sto b = S at *
    generalize b.take F = B1 at *
    generalize b.drop F = B2 at *
    first | refine pwp_rif ?_ | refine pwp_rifE ?_
    intro K hK
    simp (disch := first | (refine Ok.mk ?_; (try simp only [Lm, La, Lc, Ln, Lt, Ld, Lr, Li, true_or, or_true, true_and, and_true]); omega) | (simp <;> fail) | skip) [runM_nil, g1, g2]
    refine hK _ _ ?_
    clear hK K
    refine ifF (by simp (disch := first | (refine Ok.mk ?_; (try simp only [Lm, La, Lc, Ln, Lt, Ld, Lr, Li, true_or, or_true, true_and, and_true]); omega) | (simp <;> fail) | skip) [runM_nil]) (pwp_skip ?_)
    first | refine pwp_sr ?_ | refine pwp_regionM ?_
    intro K hK
    simp (disch := first | (refine Ok.mk ?_; (try simp only [Lm, La, Lc, Ln, Lt, Ld, Lr, Li, true_or, or_true, true_and, and_true]); omega) | (simp <;> fail) | skip) [runM_nil, hm2]
    refine useP (c6) ?_
    simp (disch := first | (refine Ok.mk ?_; (try simp only [Lm, La, Lc, Ln, Lt, Ld, Lr, Li, true_or, or_true, true_and, and_true]); omega) | (simp <;> fail) | skip) [runM_nil, hm2]
    refine hK _ _ ?_
    clear hK K
    first | refine pwp_sd hmix ?_ | refine pwp_drawM hmix ?_
    intro K hK
    simp (disch := first | (refine Ok.mk ?_; (try simp only [Lm, La, Lc, Ln, Lt, Ld, Lr, Li, true_or, or_true, true_and, and_true]); omega) | (simp <;> fail) | skip) [runM_nil, e1, e2]
    refine useD (c7) ?_
    simp (disch := first | (refine Ok.mk ?_; (try simp only [Lm, La, Lc, Ln, Lt, Ld, Lr, Li, true_or, or_true, true_and, and_true]); omega) | (simp <;> fail) | skip) [runM_nil, e1, e2]
    refine useD (c8) ?_
    simp (disch := first | (refine Ok.mk ?_; (try simp only [Lm, La, Lc, Ln, Lt, Ld, Lr, Li, true_or, or_true, true_and, and_true]); omega) | (simp <;> fail) | skip) [runM_nil, e1, e2]
    refine hK _ _ ?_
    clear hK K
    first | refine pwp_sd hmix ?_ | refine pwp_drawM hmix ?_
    intro K hK
    simp (disch := first | (refine Ok.mk ?_; (try simp only [Lm, La, Lc, Ln, Lt, Ld, Lr, Li, true_or, or_true, true_and, and_true]); omega) | (simp <;> fail) | skip) [runM_nil, hF2, e3, v2, v3, strP]
    refine useD (ca) ?_
    simp (disch := first | (refine Ok.mk ?_; (try simp only [Lm, La, Lc, Ln, Lt, Ld, Lr, Li, true_or, or_true, true_and, and_true]); omega) | (simp <;> fail) | skip) [runM_nil, hF2, e3, v2, v3, strP]
    refine hK _ _ ?_
    clear hK K
    refine pwp_ret ⟨.inr rfl, _, _, (by simp (disch := first | (refine Ok.mk ?_; (try simp only [Lm, La, Lc, Ln, Lt, Ld, Lr, Li, true_or, or_true, true_and, and_true]); omega) | (simp <;> fail) | skip) [runM_nil, resL]; rfl), .refl _, by simp (disch := first | (refine Ok.mk ?_; (try simp only [Lm, La, Lc, Ln, Lt, Ld, Lr, Li, true_or, or_true, true_and, and_true]); omega) | (simp <;> fail) | skip) [resV], rfl⟩
  · rcases (show f < 0 ∨ ¬ f < 0 ∧ t < f ∨ ¬ f < 0 ∧ ¬ t < f ∧ (b.length : Int) < t by omega) with g1 | ⟨g1, g2⟩ | ⟨g1, g2, g3⟩
    · first | refine pwp_rif ?_ | refine pwp_rifE ?_
      intro K hK
      simp (disch := first | (refine Ok.mk ?_; (try simp only [Lm, La, Lc, Ln, Lt, Ld, Lr, Li, true_or, or_true, true_and, and_true]); omega) | (simp <;> fail) | skip) [runM_nil, g1]
      refine hK _ _ ?_
      clear hK K
      refine ifT (by simp (disch := first | (refine Ok.mk ?_; (try simp only [Lm, La, Lc, Ln, Lt, Ld, Lr, Li, true_or, or_true, true_and, and_true]); omega) | (simp <;> fail) | skip) [runM_nil]) ?_
      first | refine pwp_sr ?_ | refine pwp_regionM ?_
      intro K hK
      simp (disch := first | (refine Ok.mk ?_; (try simp only [Lm, La, Lc, Ln, Lt, Ld, Lr, Li, true_or, or_true, true_and, and_true]); omega) | (simp <;> fail) | skip) [runM_nil]
      refine useP (ca) ?_
      simp (disch := first | (refine Ok.mk ?_; (try simp only [Lm, La, Lc, Ln, Lt, Ld, Lr, Li, true_or, or_true, true_and, and_true]); omega) | (simp <;> fail) | skip) [runM_nil]
      refine hK _ _ ?_
      clear hK K
      refine pwp_retT ⟨.inr rfl, _, _, (by simp (disch := first | (refine Ok.mk ?_; (try simp only [Lm, La, Lc, Ln, Lt, Ld, Lr, Li, true_or, or_true, true_and, and_true]); omega) | (simp <;> fail) | skip) [runM_nil, resL]; rfl), .refl _, by simp (disch := first | (refine Ok.mk ?_; (try simp only [Lm, La, Lc, Ln, Lt, Ld, Lr, Li, true_or, or_true, true_and, and_true]); omega) | (simp <;> fail) | skip) [resV], rfl⟩
    · first | refine pwp_rif ?_ | refine pwp_rifE ?_
      intro K hK
      simp (disch := first | (refine Ok.mk ?_; (try simp only [Lm, La, Lc, Ln, Lt, Ld, Lr, Li, true_or, or_true, true_and, and_true]); omega) | (simp <;> fail) | skip) [runM_nil, g1, g2]
      refine hK _ _ ?_
      clear hK K
      refine ifT (by simp (disch := first | (refine Ok.mk ?_; (try simp only [Lm, La, Lc, Ln, Lt, Ld, Lr, Li, true_or, or_true, true_and, and_true]); omega) | (simp <;> fail) | skip) [runM_nil]) ?_
      first | refine pwp_sr ?_ | refine pwp_regionM ?_
      intro K hK
      simp (disch := first | (refine Ok.mk ?_; (try simp only [Lm, La, Lc, Ln, Lt, Ld, Lr, Li, true_or, or_true, true_and, and_true]); omega) | (simp <;> fail) | skip) [runM_nil]
      refine useP (ca) ?_
      simp (disch := first | (refine Ok.mk ?_; (try simp only [Lm, La, Lc, Ln, Lt, Ld, Lr, Li, true_or, or_true, true_and, and_true]); omega) | (simp <;> fail) | skip) [runM_nil]
      refine hK _ _ ?_
      clear hK K
      refine pwp_retT ⟨.inr rfl, _, _, (by simp (disch := first | (refine Ok.mk ?_; (try simp only [Lm, La, Lc, Ln, Lt, Ld, Lr, Li, true_or, or_true, true_and, and_true]); omega) | (simp <;> fail) | skip) [runM_nil, resL]; rfl), .refl _, by simp (disch := first | (refine Ok.mk ?_; (try simp only [Lm, La, Lc, Ln, Lt, Ld, Lr, Li, true_or, or_true, true_and, and_true]); omega) | (simp <;> fail) | skip) [resV], rfl⟩
    · first | refine pwp_rif ?_ | refine pwp_rifE ?_
      intro K hK
      simp (disch := first | (refine Ok.mk ?_; (try simp only [Lm, La, Lc, Ln, Lt, Ld, Lr, Li, true_or, or_true, true_and, and_true]); omega) | (simp <;> fail) | skip) [runM_nil, g1, g2, g3]
      refine hK _ _ ?_
      clear hK K
      refine ifT (by simp (disch := first | (refine Ok.mk ?_; (try simp only [Lm, La, Lc, Ln, Lt, Ld, Lr, Li, true_or, or_true, true_and, and_true]); omega) | (simp <;> fail) | skip) [runM_nil]) ?_
      first | refine pwp_sr ?_ | refine pwp_regionM ?_
      intro K hK
      simp (disch := first | (refine Ok.mk ?_; (try simp only [Lm, La, Lc, Ln, Lt, Ld, Lr, Li, true_or, or_true, true_and, and_true]); omega) | (simp <;> fail) | skip) [runM_nil]
      refine useP (ca) ?_
      simp (disch := first | (refine Ok.mk ?_; (try simp only [Lm, La, Lc, Ln, Lt, Ld, Lr, Li, true_or, or_true, true_and, and_true]); omega) | (simp <;> fail) | skip) [runM_nil]
      refine hK _ _ ?_
      clear hK K
      refine pwp_retT ⟨.inr rfl, _, _, (by simp (disch := first | (refine Ok.mk ?_; (try simp only [Lm, La, Lc, Ln, Lt, Ld, Lr, Li, true_or, or_true, true_and, and_true]); omega) | (simp <;> fail) | skip) [runM_nil, resL]; rfl), .refl _, by simp (disch := first | (refine Ok.mk ?_; (try simp only [Lm, La, Lc, Ln, Lt, Ld, Lr, Li, true_or, or_true, true_and, and_true]); omega) | (simp <;> fail) | skip) [resV], rfl⟩
end Go.Proofs.Ytkbdlgohmafglaa.E
/- The document's blocks. -/
namespace Go.Proofs.Ytkbdlgohmafglaa.E
open Go Go.RowKit Go.Proofs
set_option linter.unusedVariables false
set_option linter.unusedSimpArgs false
def rowV (p : List Nat) : PV := .lst 1 (p.map u8) false
theorem rblocks_ok {s : Nat} {xs : List PV} {o : Bool} {b : List Nat} (hx : xs = b.map u8) (hs : s = 1 ∨ b.length = 0) (hl : b.length ≤ 1000000) :
    PSpec Try.prog 27 [.lst s xs o] (.lst 1 ((rws 68 b).map rowV) true) := by
  subst hx
  intro H
  refine spec_of t27 (by simp [p27]) ?_
  simp only [p27]
  first | refine pwp_sr ?_ | refine pwp_regionM ?_
  intro K hK
  simp (disch := first | (refine Ok.mk ?_; (try simp only [Lm, La, Lc, Ln, Lt, Ld, Lr, Li, true_or, or_true, true_and, and_true]); omega) | (simp <;> fail) | skip) [runM_nil]
  refine hK _ _ ?_
  clear hK K
  first | refine pwp_sr ?_ | refine pwp_regionM ?_
  intro K hK
  simp (disch := first | (refine Ok.mk ?_; (try simp only [Lm, La, Lc, Ln, Lt, Ld, Lr, Li, true_or, or_true, true_and, and_true]); omega) | (simp <;> fail) | skip) [runM_nil]
  refine hK _ _ ?_
  clear hK K
  refine pwp_seq (pwp_block ?_)
  refine pwp_loopK [0, 3] (fun m st H' => ∃ (acc : List (List Nat)) (l : List Nat) (s2 : Nat) (o1 : Bool), (s2 = 1 ∨ l.length = 0) ∧ rws 68 b = acc ++ rws 68 l ∧ acc.length + l.length ≤ 1000000 ∧ m = l.length ∧ H' = H ∧ st = MS 22 [(0, .lst s2 (l.map u8) o1), (3, .lst 1 (acc.map rowV) true)]) (n := b.length)
    ⟨_, .refl _, [], b, s, o, hs, rfl, by simpa using hl, rfl, rfl, by simp [keepL_MS, keepA, getS]⟩ ?_
  rintro m st H' ⟨acc, l, s2, o1, hs2, hr, hal, rfl, rfl, rfl⟩
  rcases Nat.eq_zero_or_pos l.length with h0 | h0
  · have hl0 : l = [] := List.eq_nil_of_length_eq_zero h0
    have hr2 : rws 68 b = acc := by rw [hr, hl0, rws_nil _ (by omega), List.append_nil]
    subst hl0
    refine pwp_seq ?_
    first | refine pwp_sr ?_ | refine pwp_regionM ?_
    intro K hK
    simp (disch := first | (refine Ok.mk ?_; (try simp only [Lm, La, Lc, Ln, Lt, Ld, Lr, Li, true_or, or_true, true_and, and_true]); omega) | (simp <;> fail) | skip) [runM_nil]
    refine hK _ _ ?_
    clear hK K
    refine pwp_cF (by simp) (pwp_exit ?_)
    first | refine pwp_sr ?_ | refine pwp_regionM ?_
    intro K hK
    simp (disch := first | (refine Ok.mk ?_; (try simp only [Lm, La, Lc, Ln, Lt, Ld, Lr, Li, true_or, or_true, true_and, and_true]); omega) | (simp <;> fail) | skip) [runM_nil]
    refine hK _ _ ?_
    clear hK K
    refine pwp_ret ⟨.inr rfl, _, _, (by simp (disch := first | (refine Ok.mk ?_; (try simp only [Lm, La, Lc, Ln, Lt, Ld, Lr, Li, true_or, or_true, true_and, and_true]); omega) | (simp <;> fail) | skip) [runM_nil, resL, hr2]; rfl), .refl _, by simp (disch := first | (refine Ok.mk ?_; (try simp only [Lm, La, Lc, Ln, Lt, Ld, Lr, Li, true_or, or_true, true_and, and_true]); omega) | (simp <;> fail) | skip) [resV, hr2], rfl⟩
  · obtain rfl : s2 = 1 := hs2.resolve_right (by omega)
    have hne : l ≠ [] := List.length_pos_iff.1 h0
    have hc := rws_cons (m := 68) (by omega) hne
    have h1 : (0 : Int) < l.length := by omega
    obtain ⟨e, he⟩ : ∃ e, e = min 68 l.length := ⟨_, rfl⟩
    have hmn : (if (l.length : Int) < 68 then (l.length : Int) else 68) = (e : Nat) := by split <;> omega
    have htk : (l.map u8).take e = (l.take 68).map u8 := by
      rw [← List.map_take, he]
      rcases Nat.le_total 68 l.length with h | h
      · rw [Nat.min_eq_left h]
      · rw [Nat.min_eq_right h, List.take_of_length_le (Nat.le_refl _), List.take_of_length_le h]
    have hdr : (l.map u8).drop e = (l.drop 68).map u8 := by
      rw [← List.map_drop, he]
      rcases Nat.le_total 68 l.length with h | h
      · rw [Nat.min_eq_left h]
      · rw [Nat.min_eq_right h, List.drop_of_length_le (Nat.le_refl _), List.drop_of_length_le h]
    have hel : e ≤ l.length := by omega
    have hdl : (l.drop 68).length = l.length - 68 := List.length_drop
    rw [hc] at hr
    generalize l.take 68 = T at *
    generalize hD : l.drop 68 = D at *
    refine pwp_seq ?_
    first | refine pwp_sr ?_ | refine pwp_regionM ?_
    intro K hK
    simp (disch := first | (refine Ok.mk ?_; (try simp only [Lm, La, Lc, Ln, Lt, Ld, Lr, Li, true_or, or_true, true_and, and_true]); omega) | (simp <;> fail) | skip) [runM_nil, h1]
    refine hK _ _ ?_
    clear hK K
    refine pwp_cT (by simp) (pwp_skip ?_)
    refine pwp_block ?_
    first | refine pwp_sr ?_ | refine pwp_regionM ?_
    intro K hK
    simp (disch := first | (refine Ok.mk ?_; (try simp only [Lm, La, Lc, Ln, Lt, Ld, Lr, Li, true_or, or_true, true_and, and_true]); omega) | (simp <;> fail) | skip) [runM_nil, hmn]
    refine hK _ _ ?_
    clear hK K
    first | refine pwp_sr ?_ | refine pwp_regionM ?_
    intro K hK
    simp (disch := first | (refine Ok.mk ?_; (try simp only [Lm, La, Lc, Ln, Lt, Ld, Lr, Li, true_or, or_true, true_and, and_true]); omega) | (simp <;> fail) | skip) [runM_nil, htk]
    refine hK _ _ ?_
    clear hK K
    first | refine pwp_sr ?_ | refine pwp_regionM ?_
    intro K hK
    simp (disch := first | (refine Ok.mk ?_; (try simp only [Lm, La, Lc, Ln, Lt, Ld, Lr, Li, true_or, or_true, true_and, and_true]); omega) | (simp <;> fail) | skip) [runM_nil, hdr]
    refine hK _ _ ?_
    clear hK K
    exact ⟨D.length, by omega, _, .refl _, acc ++ [T], D, 1, false, .inl rfl, by rw [hr, List.append_assoc]; rfl, by simp; omega, rfl, rfl, by simp [keepL_MS, keepA, getS, rowV]⟩
theorem opb_len (b : List Nat) : (opb b).2 = (decide ((opened tbl b).2 = 0) && decide (5 ≤ b.length)) := by
  unfold opb opened
  split
  · rename_i h
    simp
  · rename_i h
    split
    · rename_i h2
      simp only [List.length_take, true_and, decide_true, Bool.true_and]
      congr 1
      apply propext
      omega
    · simp
theorem ropen_ok {s : Nat} {xs : List PV} {o : Bool} {b : List Nat} (hx : xs = b.map u8) (hs : s = 1 ∨ b.length = 0) (hw : ∀ x ∈ b, x < 256) (hl : b.length ≤ 1000000) :
    PSpec Try.prog 28 [.lst s xs o] (.tup [bV (opb b).1 true, .bool (opb b).2]) := by
  intro H
  have c := rOpened_ok (o := false) hx hs hw (by omega)
  have e : opb b = ((opened tbl b).1, (decide ((opened tbl b).2 = 0) && decide (5 ≤ b.length))) := Prod.ext rfl (opb_len b)
  rw [e]
  have hxl : xs.length = b.length := by rw [hx, List.length_map]
  generalize (opened tbl b).1 = B at *
  generalize (opened tbl b).2 = E at *
  refine spec_of t28 (by simp [p28]) ?_
  simp only [p28]
  first | refine pwp_sr ?_ | refine pwp_regionM ?_
  intro K hK
  simp (disch := first | (refine Ok.mk ?_; (try simp only [Lm, La, Lc, Ln, Lt, Ld, Lr, Li, true_or, or_true, true_and, and_true]); omega) | (simp <;> fail) | skip) [runM_nil]
  refine hK _ _ ?_
  clear hK K
  first | refine pwp_sr ?_ | refine pwp_regionM ?_
  intro K hK
  simp (disch := first | (refine Ok.mk ?_; (try simp only [Lm, La, Lc, Ln, Lt, Ld, Lr, Li, true_or, or_true, true_and, and_true]); omega) | (simp <;> fail) | skip) [runM_nil]
  refine useP (c) ?_
  simp (disch := first | (refine Ok.mk ?_; (try simp only [Lm, La, Lc, Ln, Lt, Ld, Lr, Li, true_or, or_true, true_and, and_true]); omega) | (simp <;> fail) | skip) [runM_nil]
  refine hK _ _ ?_
  clear hK K
  rcases Nat.eq_zero_or_pos E with h0 | h0
  · subst h0
    rcases Nat.lt_or_ge b.length 5 with h5 | h5
    · have h6 : ¬ 5 ≤ b.length := by omega
      first | refine pwp_sr ?_ | refine pwp_regionM ?_
      intro K hK
      simp (disch := first | (refine Ok.mk ?_; (try simp only [Lm, La, Lc, Ln, Lt, Ld, Lr, Li, true_or, or_true, true_and, and_true]); omega) | (simp <;> fail) | skip) [runM_nil, hxl, h6]
      refine hK _ _ ?_
      clear hK K
      refine pwp_ret ⟨.inr rfl, _, _, (by simp (disch := first | (refine Ok.mk ?_; (try simp only [Lm, La, Lc, Ln, Lt, Ld, Lr, Li, true_or, or_true, true_and, and_true]); omega) | (simp <;> fail) | skip) [runM_nil, resL, h6]; rfl), .refl _, by simp (disch := first | (refine Ok.mk ?_; (try simp only [Lm, La, Lc, Ln, Lt, Ld, Lr, Li, true_or, or_true, true_and, and_true]); omega) | (simp <;> fail) | skip) [resV, h6], rfl⟩
    · first | refine pwp_sr ?_ | refine pwp_regionM ?_
      intro K hK
      simp (disch := first | (refine Ok.mk ?_; (try simp only [Lm, La, Lc, Ln, Lt, Ld, Lr, Li, true_or, or_true, true_and, and_true]); omega) | (simp <;> fail) | skip) [runM_nil, hxl, h5]
      refine hK _ _ ?_
      clear hK K
      refine pwp_ret ⟨.inr rfl, _, _, (by simp (disch := first | (refine Ok.mk ?_; (try simp only [Lm, La, Lc, Ln, Lt, Ld, Lr, Li, true_or, or_true, true_and, and_true]); omega) | (simp <;> fail) | skip) [runM_nil, resL, h5]; rfl), .refl _, by simp (disch := first | (refine Ok.mk ?_; (try simp only [Lm, La, Lc, Ln, Lt, Ld, Lr, Li, true_or, or_true, true_and, and_true]); omega) | (simp <;> fail) | skip) [resV, h5], rfl⟩
  · have h1 : ¬ E = 0 := by omega
    first | refine pwp_sr ?_ | refine pwp_regionM ?_
    intro K hK
    simp (disch := first | (refine Ok.mk ?_; (try simp only [Lm, La, Lc, Ln, Lt, Ld, Lr, Li, true_or, or_true, true_and, and_true]); omega) | (simp <;> fail) | skip) [runM_nil, h1]
    refine hK _ _ ?_
    clear hK K
    refine pwp_ret ⟨.inr rfl, _, _, (by simp (disch := first | (refine Ok.mk ?_; (try simp only [Lm, La, Lc, Ln, Lt, Ld, Lr, Li, true_or, or_true, true_and, and_true]); omega) | (simp <;> fail) | skip) [runM_nil, resL, h1]; rfl), .refl _, by simp (disch := first | (refine Ok.mk ?_; (try simp only [Lm, La, Lc, Ln, Lt, Ld, Lr, Li, true_or, or_true, true_and, and_true]); omega) | (simp <;> fail) | skip) [resV, h1], rfl⟩
theorem rstored_ok (n : Int) (h1 : -9223372036854775808 ≤ n) (h2 : n ≤ 2000000000000) : PSpec Try.prog 20 [.int .i64 n] (.int .i64 (stored n)) := by
  intro H
  unfold stored
  refine spec_of t20 (by simp [p20]) ?_
  simp only [p20]
  first | refine pwp_sr ?_ | refine pwp_regionM ?_
  intro K hK
  simp (disch := first | (refine Ok.mk ?_; (try simp only [Lm, La, Lc, Ln, Lt, Ld, Lr, Li, true_or, or_true, true_and, and_true]); omega) | (simp <;> fail) | skip) [runM_nil]
  refine hK _ _ ?_
  clear hK K
  by_cases h : n < 1
  · first | refine pwp_rif ?_ | refine pwp_rifE ?_
    intro K hK
    simp (disch := first | (refine Ok.mk ?_; (try simp only [Lm, La, Lc, Ln, Lt, Ld, Lr, Li, true_or, or_true, true_and, and_true]); omega) | (simp <;> fail) | skip) [runM_nil, h]
    refine hK _ _ ?_
    clear hK K
    refine ifT (by simp (disch := first | (refine Ok.mk ?_; (try simp only [Lm, La, Lc, Ln, Lt, Ld, Lr, Li, true_or, or_true, true_and, and_true]); omega) | (simp <;> fail) | skip) [runM_nil]) ?_
    first | refine pwp_sr ?_ | refine pwp_regionM ?_
    intro K hK
    simp (disch := first | (refine Ok.mk ?_; (try simp only [Lm, La, Lc, Ln, Lt, Ld, Lr, Li, true_or, or_true, true_and, and_true]); omega) | (simp <;> fail) | skip) [runM_nil]
    refine hK _ _ ?_
    clear hK K
    refine pwp_retT ⟨.inr rfl, _, _, (by simp (disch := first | (refine Ok.mk ?_; (try simp only [Lm, La, Lc, Ln, Lt, Ld, Lr, Li, true_or, or_true, true_and, and_true]); omega) | (simp <;> fail) | skip) [runM_nil, resL, h]; rfl), .refl _, by simp (disch := first | (refine Ok.mk ?_; (try simp only [Lm, La, Lc, Ln, Lt, Ld, Lr, Li, true_or, or_true, true_and, and_true]); omega) | (simp <;> fail) | skip) [resV, h], rfl⟩
  · first | refine pwp_rif ?_ | refine pwp_rifE ?_
    intro K hK
    simp (disch := first | (refine Ok.mk ?_; (try simp only [Lm, La, Lc, Ln, Lt, Ld, Lr, Li, true_or, or_true, true_and, and_true]); omega) | (simp <;> fail) | skip) [runM_nil, h]
    refine hK _ _ ?_
    clear hK K
    refine ifF (by simp (disch := first | (refine Ok.mk ?_; (try simp only [Lm, La, Lc, Ln, Lt, Ld, Lr, Li, true_or, or_true, true_and, and_true]); omega) | (simp <;> fail) | skip) [runM_nil]) (pwp_skip ?_)
    first | refine pwp_sr ?_ | refine pwp_regionM ?_
    intro K hK
    simp (disch := first | (refine Ok.mk ?_; (try simp only [Lm, La, Lc, Ln, Lt, Ld, Lr, Li, true_or, or_true, true_and, and_true]); omega) | (simp <;> fail) | skip) [runM_nil]
    refine hK _ _ ?_
    clear hK K
    refine pwp_ret ⟨.inr rfl, _, _, (by simp [runM_nil, resL]; rfl), .refl _, ?_, rfl⟩
    simp [resV, h]
    omega
theorem rstore_ok {s : Nat} {xs : List PV} {o : Bool} {b : List Nat} (hx : xs = b.map u8) (hs : s = 1 ∨ b.length = 0) (hw : ∀ x ∈ b, x < 256) (hl : b.length ≤ 1000000) :
    PSpec Try.prog 16 [.lst s xs o] (bV (sto b) true) := by
  subst hx
  intro H
  refine spec_of t16 (by simp [p16]) ?_
  simp only [p16]
  first | refine pwp_sr ?_ | refine pwp_regionM ?_
  intro K hK
  simp (disch := first | (refine Ok.mk ?_; (try simp only [Lm, La, Lc, Ln, Lt, Ld, Lr, Li, true_or, or_true, true_and, and_true]); omega) | (simp <;> fail) | skip) [runM_nil]
  refine hK _ _ ?_
  clear hK K
  first | refine pwp_sr ?_ | refine pwp_regionM ?_
  intro K hK
  simp (disch := first | (refine Ok.mk ?_; (try simp only [Lm, La, Lc, Ln, Lt, Ld, Lr, Li, true_or, or_true, true_and, and_true]); omega) | (simp <;> fail) | skip) [runM_nil]
  refine hK _ _ ?_
  clear hK K
  refine pwp_seq (pwp_block ?_)
  refine pwp_loopK [0, 3] (fun m st H' => ∃ (acc l : List Nat) (s2 : Nat) (o1 : Bool), (s2 = 1 ∨ l.length = 0) ∧ (∀ x ∈ l, x < 256) ∧ sto b = acc ++ sto l ∧ m = l.length ∧ H' = H ∧ st = MS 22 [(0, .lst s2 (l.map u8) o1), (3, bV acc true)]) (n := b.length)
    ⟨_, .refl _, [], b, s, o, hs, hw, rfl, rfl, rfl, by simp [keepL_MS, keepA, getS]⟩ ?_
  have hsb := sto_len b
  rintro m st H' ⟨acc, l, s2, o1, hs2, hlw, hr, rfl, rfl, rfl⟩
  rcases Nat.eq_zero_or_pos l.length with h0 | h0
  · have hl0 : l = [] := List.eq_nil_of_length_eq_zero h0
    have hr2 : sto b = acc := by rw [hr, hl0, sto_nil, List.append_nil]
    subst hl0
    refine pwp_seq ?_
    first | refine pwp_sr ?_ | refine pwp_regionM ?_
    intro K hK
    simp (disch := first | (refine Ok.mk ?_; (try simp only [Lm, La, Lc, Ln, Lt, Ld, Lr, Li, true_or, or_true, true_and, and_true]); omega) | (simp <;> fail) | skip) [runM_nil]
    refine hK _ _ ?_
    clear hK K
    refine pwp_cF (by simp) (pwp_exit ?_)
    first | refine pwp_sr ?_ | refine pwp_regionM ?_
    intro K hK
    simp (disch := first | (refine Ok.mk ?_; (try simp only [Lm, La, Lc, Ln, Lt, Ld, Lr, Li, true_or, or_true, true_and, and_true]); omega) | (simp <;> fail) | skip) [runM_nil]
    refine hK _ _ ?_
    clear hK K
    refine pwp_ret ⟨.inr rfl, _, _, (by simp (disch := first | (refine Ok.mk ?_; (try simp only [Lm, La, Lc, Ln, Lt, Ld, Lr, Li, true_or, or_true, true_and, and_true]); omega) | (simp <;> fail) | skip) [runM_nil, resL, hr2]; rfl), .refl _, by simp (disch := first | (refine Ok.mk ?_; (try simp only [Lm, La, Lc, Ln, Lt, Ld, Lr, Li, true_or, or_true, true_and, and_true]); omega) | (simp <;> fail) | skip) [resV, hr2], rfl⟩
  · obtain rfl : s2 = 1 := hs2.resolve_right (by omega)
    have hne : l ≠ [] := List.length_pos_iff.1 h0
    have hc := sto_cons hne
    have h1 : (0 : Int) < l.length := by omega
    obtain ⟨e, he⟩ : ∃ e, e = min 64 l.length := ⟨_, rfl⟩
    have hmn : (if (l.length : Int) < 64 then (l.length : Int) else 64) = (e : Nat) := by split <;> omega
    have htk : (l.map u8).take e = (l.take 64).map u8 := by
      rw [← List.map_take, he]
      rcases Nat.le_total 64 l.length with h | h
      · rw [Nat.min_eq_left h]
      · rw [Nat.min_eq_right h, List.take_of_length_le (Nat.le_refl _), List.take_of_length_le h]
    have hdr : (l.map u8).drop e = (l.drop 64).map u8 := by
      rw [← List.map_drop, he]
      rcases Nat.le_total 64 l.length with h | h
      · rw [Nat.min_eq_left h]
      · rw [Nat.min_eq_right h, List.drop_of_length_le (Nat.le_refl _), List.drop_of_length_le h]
    have hel : e ≤ l.length := by omega
    have hdl : (l.drop 64).length = l.length - 64 := List.length_drop
    have htl : (l.take 64).length ≤ 64 := by simp; omega
    have hw1 : ∀ x ∈ l.take 64, x < 256 := fun x hx => hlw x (List.mem_of_mem_take hx)
    have hw2 : ∀ x ∈ l.drop 64, x < 256 := fun x hx => hlw x (List.mem_of_mem_drop hx)
    have c := sealed_ok (s := 1) (o := false) (xs := (l.take 64).map u8) rfl (.inl rfl) hw1 (by omega)
    rw [hc] at hr
    have hrl := congrArg List.length hr
    rw [List.length_append, List.length_append] at hrl
    generalize l.take 64 = T at *
    generalize l.drop 64 = D at *
    generalize sealed tbl T = Z at *
    refine pwp_seq ?_
    first | refine pwp_sr ?_ | refine pwp_regionM ?_
    intro K hK
    simp (disch := first | (refine Ok.mk ?_; (try simp only [Lm, La, Lc, Ln, Lt, Ld, Lr, Li, true_or, or_true, true_and, and_true]); omega) | (simp <;> fail) | skip) [runM_nil, h1]
    refine hK _ _ ?_
    clear hK K
    refine pwp_cT (by simp) (pwp_skip ?_)
    refine pwp_block ?_
    first | refine pwp_sr ?_ | refine pwp_regionM ?_
    intro K hK
    simp (disch := first | (refine Ok.mk ?_; (try simp only [Lm, La, Lc, Ln, Lt, Ld, Lr, Li, true_or, or_true, true_and, and_true]); omega) | (simp <;> fail) | skip) [runM_nil, hmn]
    refine hK _ _ ?_
    clear hK K
    first | refine pwp_sr ?_ | refine pwp_regionM ?_
    intro K hK
    simp (disch := first | (refine Ok.mk ?_; (try simp only [Lm, La, Lc, Ln, Lt, Ld, Lr, Li, true_or, or_true, true_and, and_true]); omega) | (simp <;> fail) | skip) [runM_nil, htk]
    refine useP (c) ?_
    simp (disch := first | (refine Ok.mk ?_; (try simp only [Lm, La, Lc, Ln, Lt, Ld, Lr, Li, true_or, or_true, true_and, and_true]); omega) | (simp <;> fail) | skip) [runM_nil, htk]
    refine hK _ _ ?_
    clear hK K
    first | refine pwp_sr ?_ | refine pwp_regionM ?_
    intro K hK
    simp (disch := first | (refine Ok.mk ?_; (try simp only [Lm, La, Lc, Ln, Lt, Ld, Lr, Li, true_or, or_true, true_and, and_true]); omega) | (simp <;> fail) | skip) [runM_nil, hdr]
    refine hK _ _ ?_
    clear hK K
    exact ⟨D.length, by omega, _, .refl _, acc ++ Z, D, 1, false, .inl rfl, hw2, by rw [hr, List.append_assoc], rfl, rfl, by simp [keepL_MS, keepA, getS]⟩
end Go.Proofs.Ytkbdlgohmafglaa.E
/- The document's Load, Size, Damaged; the law of both. -/
namespace Go.Proofs.Ytkbdlgohmafglaa.E
open Go Go.RowKit Go.Proofs
set_option linter.unusedVariables false
set_option linter.unusedSimpArgs false
theorem rws_get {b : List Nat} {i : Nat} (h : i < (rws 68 b).length) : (rws 68 b)[i] = ck 68 b i := by simp [rws]
theorem rload_ok {s : Nat} {xs : List PV} {o : Bool} {b : List Nat} (hx : xs = b.map u8) (hs : s = 1 ∨ b.length = 0) (hw : ∀ x ∈ b, x < 256) (hl : b.length ≤ 1000000) :
    PSpec Try.prog 15 [.lst s xs o] (.tup [bV (loa b).1 true, .int .i64 ((loa b).2 : Nat)]) := by
  intro H
  have c := rblocks_ok (o := false) hx hs hl
  have hloa : loa b = if (rws 68 b).all (fun p => (opb p).2) then ((rws 68 b).flatMap (fun p => (opb p).1), 0) else ([], 16) := rfl
  have hro : ∀ p ∈ rws 68 b, (∀ x ∈ p, x < 256) ∧ p.length ≤ 68 ∧ (opb p).1.length ≤ 64 := fun p hp => by
    obtain ⟨j, hj, rfl⟩ := rws_mem (by omega) hp
    have h1 := ck_length 68 b j
    have h2 := opened_length (ck 68 b j)
    exact ⟨ck_lt hw j, by omega, by show (opened tbl _).1.length ≤ 64; omega⟩
  have hcnt := rws_count 68 b
  generalize rws 68 b = R at *
  generalize loa b = S at *
  have hge : ∀ i (h : i < R.length), (R.map rowV)[i]? = some (.lst 1 (R[i].map u8) false) := fun i h => by rw [List.getElem?_map, List.getElem?_eq_getElem h]; rfl
  have hRl : (R.map rowV).length = R.length := List.length_map _
  refine spec_ofU t15 (by simp [p15]) ?_
  simp only [p15]
  generalize R.map rowV = es at *
  first | refine pwp_sr ?_ | refine pwp_regionM ?_
  intro K hK
  simp (disch := first | (refine Ok.mk ?_; (try simp only [Lm, La, Lc, Ln, Lt, Ld, Lr, Li, true_or, or_true, true_and, and_true]); omega) | (simp <;> fail) | skip) [runM_nil]
  refine hK _ _ ?_
  clear hK K
  first | refine pwp_sr ?_ | refine pwp_regionM ?_
  intro K hK
  simp (disch := first | (refine Ok.mk ?_; (try simp only [Lm, La, Lc, Ln, Lt, Ld, Lr, Li, true_or, or_true, true_and, and_true]); omega) | (simp <;> fail) | skip) [runM_nil]
  refine hK _ _ ?_
  clear hK K
  first | refine pwp_sr ?_ | refine pwp_regionM ?_
  intro K hK
  simp (disch := first | (refine Ok.mk ?_; (try simp only [Lm, La, Lc, Ln, Lt, Ld, Lr, Li, true_or, or_true, true_and, and_true]); omega) | (simp <;> fail) | skip) [runM_nil]
  refine useP (c) ?_
  simp (disch := first | (refine Ok.mk ?_; (try simp only [Lm, La, Lc, Ln, Lt, Ld, Lr, Li, true_or, or_true, true_and, and_true]); omega) | (simp <;> fail) | skip) [runM_nil]
  refine hK _ _ ?_
  clear hK K
  refine pwp_seq (pwp_seq ?_)
  first | refine pwp_sr ?_ | refine pwp_regionM ?_
  intro K hK
  simp (disch := first | (refine Ok.mk ?_; (try simp only [Lm, La, Lc, Ln, Lt, Ld, Lr, Li, true_or, or_true, true_and, and_true]); omega) | (simp <;> fail) | skip) [runM_nil]
  refine hK _ _ ?_
  clear hK K
  refine pwp_block ?_
  refine pwp_loopK [4, 5, 6] (fun m st H' => ∃ i : Nat, i ≤ R.length ∧ (∀ p ∈ R.take i, (opb p).2 = true) ∧ ((R.take i).flatMap (fun p => (opb p).1)).length ≤ i * 64 ∧ m = R.length - i ∧ H' = H ∧ st = MS 32 [(4, bV ((R.take i).flatMap (fun p => (opb p).1)) true), (5, .lst 1 es true), (6, .int .i64 i)]) (n := R.length)
    ⟨_, .refl _, 0, Nat.zero_le _, by simp, by simp, rfl, rfl, by simp [keepL_MS, keepA, getS]⟩ ?_
  rintro m st H' ⟨i, hi, hall, hfl, rfl, rfl, rfl⟩
  by_cases hlt : i < R.length
  · have hg := hge i hlt
    obtain ⟨hp1, hp2, hp3⟩ := hro _ (List.getElem_mem hlt)
    have hsu := List.take_succ_eq_append_getElem hlt
    have hmem := List.getElem_mem hlt
    have c2 := ropen_ok (s := 1) (o := false) (xs := R[i].map u8) rfl (.inl rfl) hp1 (by omega)
    generalize R[i] = p at *
    generalize hA : (R.take i).flatMap (fun p => (opb p).1) = A at *
    generalize hP : (opb p).1 = P1 at *
    refine pwp_seq ?_
    first | refine pwp_sr ?_ | refine pwp_regionM ?_
    intro K hK
    simp (disch := first | (refine Ok.mk ?_; (try simp only [Lm, La, Lc, Ln, Lt, Ld, Lr, Li, true_or, or_true, true_and, and_true]); omega) | (simp <;> fail) | skip) [runM_nil, hRl]
    refine hK _ _ ?_
    clear hK K
    refine pwp_cT (by simp) (pwp_skip ?_)
    refine pwp_seq (pwp_block ?_)
    first | refine pwp_sr ?_ | refine pwp_regionM ?_
    intro K hK
    simp (disch := first | (refine Ok.mk ?_; (try simp only [Lm, La, Lc, Ln, Lt, Ld, Lr, Li, true_or, or_true, true_and, and_true]); omega) | (simp <;> fail) | skip) [runM_nil, hg, hRl]
    refine useP (c2) ?_
    simp (disch := first | (refine Ok.mk ?_; (try simp only [Lm, La, Lc, Ln, Lt, Ld, Lr, Li, true_or, or_true, true_and, and_true]); omega) | (simp <;> fail) | skip) [runM_nil, hg, hRl]
    refine hK _ _ ?_
    clear hK K
    refine pwp_seq ?_
    cases ho : (opb p).2 with
    | true =>
      first | refine pwp_sr ?_ | refine pwp_regionM ?_
      intro K hK
      simp (disch := first | (refine Ok.mk ?_; (try simp only [Lm, La, Lc, Ln, Lt, Ld, Lr, Li, true_or, or_true, true_and, and_true]); omega) | (simp <;> fail) | skip) [runM_nil, ho]
      refine hK _ _ ?_
      clear hK K
      refine pwp_cF (by simp) (pwp_skip ?_)
      first | refine pwp_sr ?_ | refine pwp_regionM ?_
      intro K hK
      simp (disch := first | (refine Ok.mk ?_; (try simp only [Lm, La, Lc, Ln, Lt, Ld, Lr, Li, true_or, or_true, true_and, and_true]); omega) | (simp <;> fail) | skip) [runM_nil]
      refine hK _ _ ?_
      clear hK K
      first | refine pwp_sr ?_ | refine pwp_regionM ?_
      intro K hK
      simp (disch := first | (refine Ok.mk ?_; (try simp only [Lm, La, Lc, Ln, Lt, Ld, Lr, Li, true_or, or_true, true_and, and_true]); omega) | (simp <;> fail) | skip) [runM_nil]
      refine hK _ _ ?_
      clear hK K
      refine ⟨R.length - (i + 1), by omega, _, .refl _, i + 1, by omega, ?_, ?_, rfl, rfl, ?_⟩
      · intro q hq
        rw [hsu] at hq
        rcases List.mem_append.1 hq with hq | hq
        · exact hall q hq
        · simp only [List.mem_singleton] at hq
          rw [hq]; exact ho
      · rw [hsu, List.flatMap_append, List.length_append, hA]
        simp [hP]
        omega
      · simp [keepL_MS, keepA, getS, hsu, hA, hP]
    | false =>
      have ha : ¬ R.all (fun p => (opb p).2) = true := fun h => by
        have := List.all_eq_true.1 h p hmem
        rw [ho] at this
        cases this
      rw [if_neg ha] at hloa
      subst hloa
      first | refine pwp_sr ?_ | refine pwp_regionM ?_
      intro K hK
      simp (disch := first | (refine Ok.mk ?_; (try simp only [Lm, La, Lc, Ln, Lt, Ld, Lr, Li, true_or, or_true, true_and, and_true]); omega) | (simp <;> fail) | skip) [runM_nil, ho]
      refine hK _ _ ?_
      clear hK K
      refine pwp_cT (by simp) ?_
      first | refine pwp_sr ?_ | refine pwp_regionM ?_
      intro K hK
      simp (disch := first | (refine Ok.mk ?_; (try simp only [Lm, La, Lc, Ln, Lt, Ld, Lr, Li, true_or, or_true, true_and, and_true]); omega) | (simp <;> fail) | skip) [runM_nil]
      refine hK _ _ ?_
      clear hK K
      refine pwp_ret ⟨.inr rfl, _, _, _, (by simp (disch := first | (refine Ok.mk ?_; (try simp only [Lm, La, Lc, Ln, Lt, Ld, Lr, Li, true_or, or_true, true_and, and_true]); omega) | (simp <;> fail) | skip) [runM_nil, resL]; rfl), .refl _, (by simp (disch := first | (refine Ok.mk ?_; (try simp only [Lm, La, Lc, Ln, Lt, Ld, Lr, Li, true_or, or_true, true_and, and_true]); omega) | (simp <;> fail) | skip) [resV]), rfl, rfl⟩
  · obtain rfl : i = R.length := by omega
    rw [List.take_length] at *
    have ha : R.all (fun p => (opb p).2) = true := List.all_eq_true.2 hall
    rw [if_pos ha] at hloa
    subst hloa
    refine pwp_seq ?_
    first | refine pwp_sr ?_ | refine pwp_regionM ?_
    intro K hK
    simp (disch := first | (refine Ok.mk ?_; (try simp only [Lm, La, Lc, Ln, Lt, Ld, Lr, Li, true_or, or_true, true_and, and_true]); omega) | (simp <;> fail) | skip) [runM_nil, hRl]
    refine hK _ _ ?_
    clear hK K
    refine pwp_cF (by simp) (pwp_exit ?_)
    first | refine pwp_sr ?_ | refine pwp_regionM ?_
    intro K hK
    simp (disch := first | (refine Ok.mk ?_; (try simp only [Lm, La, Lc, Ln, Lt, Ld, Lr, Li, true_or, or_true, true_and, and_true]); omega) | (simp <;> fail) | skip) [runM_nil]
    refine hK _ _ ?_
    clear hK K
    refine pwp_ret ⟨.inr rfl, _, _, _, (by simp (disch := first | (refine Ok.mk ?_; (try simp only [Lm, La, Lc, Ln, Lt, Ld, Lr, Li, true_or, or_true, true_and, and_true]); omega) | (simp <;> fail) | skip) [runM_nil, resL]; rfl), .refl _, (by simp (disch := first | (refine Ok.mk ?_; (try simp only [Lm, La, Lc, Ln, Lt, Ld, Lr, Li, true_or, or_true, true_and, and_true]); omega) | (simp <;> fail) | skip) [resV]), rfl, rfl⟩
theorem szB_step {n : Nat} (h : 0 < n) : szB n = (min 68 n - 4) + szB (n - 68) := by
  unfold szB
  omega
theorem szB_rows : ∀ (k : Nat) (b : List Nat), b.length ≤ k → ((rws 68 b).map fun p => p.length - 4).sum = szB b.length
  | 0, b, h => by
    have : b = [] := List.eq_nil_of_length_eq_zero (by omega)
    subst this
    rw [rws_nil _ (by omega)]
    rfl
  | k + 1, b, h => by
    by_cases h0 : b = []
    · subst h0
      rw [rws_nil _ (by omega)]
      rfl
    have hl := List.length_pos_iff.2 h0
    rw [rws_cons (by omega) h0, List.map_cons, List.sum_cons, szB_rows k _ (by rw [List.length_drop]; omega), szB_step hl, List.length_drop, List.length_take]
theorem rsize_ok {s : Nat} {xs : List PV} {o : Bool} {b : List Nat} (hx : xs = b.map u8) (hs : s = 1 ∨ b.length = 0) (hl : b.length ≤ 1000000) :
    PSpec Try.prog 17 [.lst s xs o] (.int .i64 (szB b.length : Nat)) := by
  intro H
  have c := rblocks_ok (o := false) hx hs hl
  rw [← szB_rows _ b (Nat.le_refl _)]
  have hro : ∀ p ∈ rws 68 b, p.length ≤ 68 := fun p hp => by
    obtain ⟨j, hj, rfl⟩ := rws_mem (by omega) hp
    have h1 := ck_length 68 b j
    omega
  have hcnt := rws_count 68 b
  generalize rws 68 b = R at *
  have hge : ∀ i (h : i < R.length), (R.map rowV)[i]? = some (.lst 1 (R[i].map u8) false) := fun i h => by rw [List.getElem?_map, List.getElem?_eq_getElem h]; rfl
  have hRl : (R.map rowV).length = R.length := List.length_map _
  refine spec_of t17 (by simp [p17]) ?_
  simp only [p17]
  generalize R.map rowV = es at *
  first | refine pwp_sr ?_ | refine pwp_regionM ?_
  intro K hK
  simp (disch := first | (refine Ok.mk ?_; (try simp only [Lm, La, Lc, Ln, Lt, Ld, Lr, Li, true_or, or_true, true_and, and_true]); omega) | (simp <;> fail) | skip) [runM_nil]
  refine hK _ _ ?_
  clear hK K
  first | refine pwp_sr ?_ | refine pwp_regionM ?_
  intro K hK
  simp (disch := first | (refine Ok.mk ?_; (try simp only [Lm, La, Lc, Ln, Lt, Ld, Lr, Li, true_or, or_true, true_and, and_true]); omega) | (simp <;> fail) | skip) [runM_nil]
  refine hK _ _ ?_
  clear hK K
  first | refine pwp_sr ?_ | refine pwp_regionM ?_
  intro K hK
  simp (disch := first | (refine Ok.mk ?_; (try simp only [Lm, La, Lc, Ln, Lt, Ld, Lr, Li, true_or, or_true, true_and, and_true]); omega) | (simp <;> fail) | skip) [runM_nil]
  refine useP (c) ?_
  simp (disch := first | (refine Ok.mk ?_; (try simp only [Lm, La, Lc, Ln, Lt, Ld, Lr, Li, true_or, or_true, true_and, and_true]); omega) | (simp <;> fail) | skip) [runM_nil]
  refine hK _ _ ?_
  clear hK K
  refine pwp_seq (pwp_seq ?_)
  first | refine pwp_sr ?_ | refine pwp_regionM ?_
  intro K hK
  simp (disch := first | (refine Ok.mk ?_; (try simp only [Lm, La, Lc, Ln, Lt, Ld, Lr, Li, true_or, or_true, true_and, and_true]); omega) | (simp <;> fail) | skip) [runM_nil]
  refine hK _ _ ?_
  clear hK K
  refine pwp_block ?_
  refine pwp_loopK [3, 4, 5] (fun m st H' => ∃ i : Nat, i ≤ R.length ∧ ((R.take i).map fun p => p.length - 4).sum ≤ i * 64 ∧ m = R.length - i ∧ H' = H ∧ st = MS 24 [(3, .int .i64 (((R.take i).map fun p => p.length - 4).sum : Nat)), (4, .lst 1 es true), (5, .int .i64 i)]) (n := R.length)
    ⟨_, .refl _, 0, Nat.zero_le _, by simp, rfl, rfl, by simp [keepL_MS, keepA, getS]⟩ ?_
  rintro m st H' ⟨i, hi, hfl, rfl, rfl, rfl⟩
  by_cases hlt : i < R.length
  · have hg := hge i hlt
    have hp2 := hro _ (List.getElem_mem hlt)
    have hsu : ((R.take (i + 1)).map fun p => p.length - 4).sum = ((R.take i).map fun p => p.length - 4).sum + (R[i].length - 4) := by
      rw [List.take_succ_eq_append_getElem hlt, List.map_append, List.sum_append]
      simp
    generalize R[i] = p at *
    generalize ((R.take i).map fun p => p.length - 4).sum = A at *
    have hmm : (A : Int) + (if (4 : Int) < p.length then (p.length : Int) - 4 else 0) = ((A + (p.length - 4) : Nat) : Int) := by split <;> omega
    refine pwp_seq ?_
    first | refine pwp_sr ?_ | refine pwp_regionM ?_
    intro K hK
    simp (disch := first | (refine Ok.mk ?_; (try simp only [Lm, La, Lc, Ln, Lt, Ld, Lr, Li, true_or, or_true, true_and, and_true]); omega) | (simp <;> fail) | skip) [runM_nil, hRl]
    refine hK _ _ ?_
    clear hK K
    refine pwp_cT (by simp) (pwp_skip ?_)
    refine pwp_seq (pwp_block ?_)
    rcases (show (4 : Int) < p.length ∨ ¬ (4 : Int) < p.length by omega) with h4 | h4
    · rw [if_pos h4] at hmm
      first | refine pwp_sr ?_ | refine pwp_regionM ?_
      intro K hK
      simp (disch := first | (refine Ok.mk ?_; (try simp only [Lm, La, Lc, Ln, Lt, Ld, Lr, Li, true_or, or_true, true_and, and_true]); omega) | (simp <;> fail) | skip) [runM_nil, hg, hRl, h4]
      refine hK _ _ ?_
      clear hK K
      first | refine pwp_sr ?_ | refine pwp_regionM ?_
      intro K hK
      simp (disch := first | (refine Ok.mk ?_; (try simp only [Lm, La, Lc, Ln, Lt, Ld, Lr, Li, true_or, or_true, true_and, and_true]); omega) | (simp <;> fail) | skip) [runM_nil]
      refine hK _ _ ?_
      clear hK K
      refine ⟨R.length - (i + 1), by omega, _, .refl _, i + 1, by omega, by omega, rfl, rfl, ?_⟩
      rw [hsu, ← hmm]
      simp [keepL_MS, keepA, getS]
    · rw [if_neg h4] at hmm
      first | refine pwp_sr ?_ | refine pwp_regionM ?_
      intro K hK
      simp (disch := first | (refine Ok.mk ?_; (try simp only [Lm, La, Lc, Ln, Lt, Ld, Lr, Li, true_or, or_true, true_and, and_true]); omega) | (simp <;> fail) | skip) [runM_nil, hg, hRl, h4]
      refine hK _ _ ?_
      clear hK K
      first | refine pwp_sr ?_ | refine pwp_regionM ?_
      intro K hK
      simp (disch := first | (refine Ok.mk ?_; (try simp only [Lm, La, Lc, Ln, Lt, Ld, Lr, Li, true_or, or_true, true_and, and_true]); omega) | (simp <;> fail) | skip) [runM_nil]
      refine hK _ _ ?_
      clear hK K
      refine ⟨R.length - (i + 1), by omega, _, .refl _, i + 1, by omega, by omega, rfl, rfl, ?_⟩
      rw [hsu, ← hmm]
      simp [keepL_MS, keepA, getS]
  · obtain rfl : i = R.length := by omega
    rw [List.take_length] at *
    generalize (R.map fun p => p.length - 4).sum = A at *
    refine pwp_seq ?_
    first | refine pwp_sr ?_ | refine pwp_regionM ?_
    intro K hK
    simp (disch := first | (refine Ok.mk ?_; (try simp only [Lm, La, Lc, Ln, Lt, Ld, Lr, Li, true_or, or_true, true_and, and_true]); omega) | (simp <;> fail) | skip) [runM_nil, hRl]
    refine hK _ _ ?_
    clear hK K
    refine pwp_cF (by simp) (pwp_exit ?_)
    first | refine pwp_sr ?_ | refine pwp_regionM ?_
    intro K hK
    simp (disch := first | (refine Ok.mk ?_; (try simp only [Lm, La, Lc, Ln, Lt, Ld, Lr, Li, true_or, or_true, true_and, and_true]); omega) | (simp <;> fail) | skip) [runM_nil]
    refine hK _ _ ?_
    clear hK K
    refine pwp_ret ⟨.inr rfl, _, _, (by simp (disch := first | (refine Ok.mk ?_; (try simp only [Lm, La, Lc, Ln, Lt, Ld, Lr, Li, true_or, or_true, true_and, and_true]); omega) | (simp <;> fail) | skip) [runM_nil, resL]; rfl), .refl _, by simp (disch := first | (refine Ok.mk ?_; (try simp only [Lm, La, Lc, Ln, Lt, Ld, Lr, Li, true_or, or_true, true_and, and_true]); omega) | (simp <;> fail) | skip) [resV], rfl⟩
theorem rdamaged_ok {s : Nat} {xs : List PV} {o : Bool} {b : List Nat} (hx : xs = b.map u8) (hs : s = 1 ∨ b.length = 0) (hw : ∀ x ∈ b, x < 256) (hl : b.length ≤ 1000000) :
    PSpec Try.prog 19 [.lst s xs o] (.lst 1 ((dmg b).map i64) true) := by
  intro H
  have c := rblocks_ok (o := false) hx hs hl
  have hN : dmg b = dmgTo b (rws 68 b).length := by rw [rws_count]; rfl
  rw [hN]
  have hro : ∀ i (h : i < (rws 68 b).length), (rws 68 b)[i] = ck 68 b i := fun i h => rws_get h
  have hcnt := rws_count 68 b
  generalize rws 68 b = R at *
  have hge : ∀ i (h : i < R.length), (R.map rowV)[i]? = some (.lst 1 ((ck 68 b i).map u8) false) := fun i h => by rw [List.getElem?_map, List.getElem?_eq_getElem h, ← hro i h]; rfl
  have hRl : (R.map rowV).length = R.length := List.length_map _
  refine spec_of t19 (by simp [p19]) ?_
  simp only [p19]
  generalize R.map rowV = es at *
  first | refine pwp_sr ?_ | refine pwp_regionM ?_
  intro K hK
  simp (disch := first | (refine Ok.mk ?_; (try simp only [Lm, La, Lc, Ln, Lt, Ld, Lr, Li, true_or, or_true, true_and, and_true]); omega) | (simp <;> fail) | skip) [runM_nil]
  refine hK _ _ ?_
  clear hK K
  first | refine pwp_sr ?_ | refine pwp_regionM ?_
  intro K hK
  simp (disch := first | (refine Ok.mk ?_; (try simp only [Lm, La, Lc, Ln, Lt, Ld, Lr, Li, true_or, or_true, true_and, and_true]); omega) | (simp <;> fail) | skip) [runM_nil]
  refine hK _ _ ?_
  clear hK K
  first | refine pwp_sr ?_ | refine pwp_regionM ?_
  intro K hK
  simp (disch := first | (refine Ok.mk ?_; (try simp only [Lm, La, Lc, Ln, Lt, Ld, Lr, Li, true_or, or_true, true_and, and_true]); omega) | (simp <;> fail) | skip) [runM_nil]
  refine useP (c) ?_
  simp (disch := first | (refine Ok.mk ?_; (try simp only [Lm, La, Lc, Ln, Lt, Ld, Lr, Li, true_or, or_true, true_and, and_true]); omega) | (simp <;> fail) | skip) [runM_nil]
  refine hK _ _ ?_
  clear hK K
  refine pwp_seq (pwp_seq ?_)
  first | refine pwp_sr ?_ | refine pwp_regionM ?_
  intro K hK
  simp (disch := first | (refine Ok.mk ?_; (try simp only [Lm, La, Lc, Ln, Lt, Ld, Lr, Li, true_or, or_true, true_and, and_true]); omega) | (simp <;> fail) | skip) [runM_nil]
  refine hK _ _ ?_
  clear hK K
  refine pwp_block ?_
  refine pwp_loopK [3, 4, 5] (fun m st H' => ∃ i : Nat, i ≤ R.length ∧ m = R.length - i ∧ H' = H ∧ st = MS 32 [(3, .lst 1 ((dmgTo b i).map i64) true), (4, .lst 1 es true), (5, .int .i64 i)]) (n := R.length)
    ⟨_, .refl _, 0, Nat.zero_le _, rfl, rfl, by simp [keepL_MS, keepA, getS, dmgTo]⟩ ?_
  rintro m st H' ⟨i, hi, rfl, rfl, rfl⟩
  by_cases hlt : i < R.length
  · have hg := hge i hlt
    have hsu := dmgTo_succ b i
    have hdl := dmgTo_le b i
    have hck := ck_length 68 b i
    have c2 := ropen_ok (s := 1) (o := false) (xs := (ck 68 b i).map u8) rfl (.inl rfl) (ck_lt hw i) (by omega)
    generalize ck 68 b i = C at *
    generalize hP : (opb C).1 = P1 at *
    refine pwp_seq ?_
    first | refine pwp_sr ?_ | refine pwp_regionM ?_
    intro K hK
    simp (disch := first | (refine Ok.mk ?_; (try simp only [Lm, La, Lc, Ln, Lt, Ld, Lr, Li, true_or, or_true, true_and, and_true]); omega) | (simp <;> fail) | skip) [runM_nil, hRl]
    refine hK _ _ ?_
    clear hK K
    refine pwp_cT (by simp) (pwp_skip ?_)
    refine pwp_seq (pwp_block ?_)
    first | refine pwp_sr ?_ | refine pwp_regionM ?_
    intro K hK
    simp (disch := first | (refine Ok.mk ?_; (try simp only [Lm, La, Lc, Ln, Lt, Ld, Lr, Li, true_or, or_true, true_and, and_true]); omega) | (simp <;> fail) | skip) [runM_nil, hg, hRl]
    refine useP (c2) ?_
    simp (disch := first | (refine Ok.mk ?_; (try simp only [Lm, La, Lc, Ln, Lt, Ld, Lr, Li, true_or, or_true, true_and, and_true]); omega) | (simp <;> fail) | skip) [runM_nil, hg, hRl]
    refine hK _ _ ?_
    clear hK K
    cases ho : (opb C).2 with
    | true =>
      first | refine pwp_rif ?_ | refine pwp_rifE ?_
      intro K hK
      simp (disch := first | (refine Ok.mk ?_; (try simp only [Lm, La, Lc, Ln, Lt, Ld, Lr, Li, true_or, or_true, true_and, and_true]); omega) | (simp <;> fail) | skip) [runM_nil, ho]
      refine hK _ _ ?_
      clear hK K
      refine ifF (by simp (disch := first | (refine Ok.mk ?_; (try simp only [Lm, La, Lc, Ln, Lt, Ld, Lr, Li, true_or, or_true, true_and, and_true]); omega) | (simp <;> fail) | skip) [runM_nil]) (pwp_skip ?_)
      first | refine pwp_sr ?_ | refine pwp_regionM ?_
      intro K hK
      simp (disch := first | (refine Ok.mk ?_; (try simp only [Lm, La, Lc, Ln, Lt, Ld, Lr, Li, true_or, or_true, true_and, and_true]); omega) | (simp <;> fail) | skip) [runM_nil]
      refine hK _ _ ?_
      clear hK K
      refine ⟨R.length - (i + 1), by omega, _, .refl _, i + 1, by omega, rfl, rfl, ?_⟩
      rw [hsu, if_pos ho, List.append_nil]
      simp [keepL_MS, keepA, getS]
    | false =>
      first | refine pwp_rif ?_ | refine pwp_rifE ?_
      intro K hK
      simp (disch := first | (refine Ok.mk ?_; (try simp only [Lm, La, Lc, Ln, Lt, Ld, Lr, Li, true_or, or_true, true_and, and_true]); omega) | (simp <;> fail) | skip) [runM_nil, ho]
      refine hK _ _ ?_
      clear hK K
      refine ifT (by simp (disch := first | (refine Ok.mk ?_; (try simp only [Lm, La, Lc, Ln, Lt, Ld, Lr, Li, true_or, or_true, true_and, and_true]); omega) | (simp <;> fail) | skip) [runM_nil]) ?_
      first | refine pwp_sr ?_ | refine pwp_regionM ?_
      intro K hK
      simp (disch := first | (refine Ok.mk ?_; (try simp only [Lm, La, Lc, Ln, Lt, Ld, Lr, Li, true_or, or_true, true_and, and_true]); omega) | (simp <;> fail) | skip) [runM_nil]
      refine hK _ _ ?_
      clear hK K
      first | refine pwp_sr ?_ | refine pwp_regionM ?_
      intro K hK
      simp (disch := first | (refine Ok.mk ?_; (try simp only [Lm, La, Lc, Ln, Lt, Ld, Lr, Li, true_or, or_true, true_and, and_true]); omega) | (simp <;> fail) | skip) [runM_nil]
      refine hK _ _ ?_
      clear hK K
      refine ⟨R.length - (i + 1), by omega, _, .refl _, i + 1, by omega, rfl, rfl, ?_⟩
      rw [hsu, if_neg (by simp [ho])]
      simp [keepL_MS, keepA, getS, i64]
  · obtain rfl : i = R.length := by omega
    refine pwp_seq ?_
    first | refine pwp_sr ?_ | refine pwp_regionM ?_
    intro K hK
    simp (disch := first | (refine Ok.mk ?_; (try simp only [Lm, La, Lc, Ln, Lt, Ld, Lr, Li, true_or, or_true, true_and, and_true]); omega) | (simp <;> fail) | skip) [runM_nil, hRl]
    refine hK _ _ ?_
    clear hK K
    refine pwp_cF (by simp) (pwp_exit ?_)
    first | refine pwp_sr ?_ | refine pwp_regionM ?_
    intro K hK
    simp (disch := first | (refine Ok.mk ?_; (try simp only [Lm, La, Lc, Ln, Lt, Ld, Lr, Li, true_or, or_true, true_and, and_true]); omega) | (simp <;> fail) | skip) [runM_nil]
    refine hK _ _ ?_
    clear hK K
    refine pwp_ret ⟨.inr rfl, _, _, (by simp (disch := first | (refine Ok.mk ?_; (try simp only [Lm, La, Lc, Ln, Lt, Ld, Lr, Li, true_or, or_true, true_and, and_true]); omega) | (simp <;> fail) | skip) [runM_nil, resL]; rfl), .refl _, by simp (disch := first | (refine Ok.mk ?_; (try simp only [Lm, La, Lc, Ln, Lt, Ld, Lr, Li, true_or, or_true, true_and, and_true]); omega) | (simp <;> fail) | skip) [resV], rfl⟩
end Go.Proofs.Ytkbdlgohmafglaa.E
/- What is stored and loaded, by both. -/
namespace Go.Proofs.Ytkbdlgohmafglaa.E
open Go Go.RowKit Go.Proofs
set_option linter.unusedVariables false
set_option linter.unusedSimpArgs false
theorem intsSame_ok {l : List Nat} (hl : l.length ≤ 1000000) {o q : Bool} : PSpec Try.prog 18 [.lst 1 (l.map i64) o, .lst 1 (l.map i64) q] (.bool true) := by
  intro H
  have hmix := mix24
  refine spec_of t18 (by simp [p18]) ?_
  simp only [p18]
  first | refine pwp_sr ?_ | refine pwp_regionM ?_
  intro K hK
  simp (disch := first | (refine Ok.mk ?_; (try simp only [Lm, La, Lc, Ln, Lt, Ld, Lr, Li, true_or, or_true, true_and, and_true]); omega) | (simp <;> fail) | skip) [runM_nil]
  refine hK _ _ ?_
  clear hK K
  refine pwp_seq ?_
  first | refine pwp_sr ?_ | refine pwp_regionM ?_
  intro K hK
  simp (disch := first | (refine Ok.mk ?_; (try simp only [Lm, La, Lc, Ln, Lt, Ld, Lr, Li, true_or, or_true, true_and, and_true]); omega) | (simp <;> fail) | skip) [runM_nil]
  refine hK _ _ ?_
  clear hK K
  refine pwp_cF (by simp) (pwp_skip ?_)
  refine pwp_seq (pwp_seq ?_)
  first | refine pwp_sr ?_ | refine pwp_regionM ?_
  intro K hK
  simp (disch := first | (refine Ok.mk ?_; (try simp only [Lm, La, Lc, Ln, Lt, Ld, Lr, Li, true_or, or_true, true_and, and_true]); omega) | (simp <;> fail) | skip) [runM_nil]
  refine hK _ _ ?_
  clear hK K
  refine pwp_block ?_
  refine pwp_loopK [0, 1, 5] (fun m st H' => ∃ i, i ≤ l.length ∧ m = l.length - i ∧ H' = H ∧ st = MS 26 [(0, .lst 1 (l.map i64) o), (1, .lst 1 (l.map i64) q), (5, .int .i64 i)]) (n := l.length)
    ⟨_, .refl _, 0, Nat.zero_le _, rfl, rfl, by simp [keepL_MS, keepA, getS]⟩ ?_
  rintro m st H1 ⟨i, hi, rfl, rfl, rfl⟩
  by_cases hlt : i < l.length
  · have g1 : l[i]? = some l[i] := List.getElem?_eq_getElem hlt
    generalize l[i] = e at *
    refine pwp_seq ?_
    first | refine pwp_sr ?_ | refine pwp_regionM ?_
    intro K hK
    simp (disch := first | (refine Ok.mk ?_; (try simp only [Lm, La, Lc, Ln, Lt, Ld, Lr, Li, true_or, or_true, true_and, and_true]); omega) | (simp <;> fail) | skip) [runM_nil]
    refine hK _ _ ?_
    clear hK K
    refine pwp_cT (by simp) (pwp_skip ?_)
    refine pwp_seq (pwp_block ?_)
    first | refine pwp_sd hmix ?_ | refine pwp_drawM hmix ?_
    intro K hK
    simp (disch := first | (refine Ok.mk ?_; (try simp only [Lm, La, Lc, Ln, Lt, Ld, Lr, Li, true_or, or_true, true_and, and_true]); omega) | (simp <;> fail) | skip) [runM_nil, g1, i64]
    refine hK _ _ ?_
    clear hK K
    refine pwp_cF (by simp) (pwp_skip ?_)
    first | refine pwp_sr ?_ | refine pwp_regionM ?_
    intro K hK
    simp (disch := first | (refine Ok.mk ?_; (try simp only [Lm, La, Lc, Ln, Lt, Ld, Lr, Li, true_or, or_true, true_and, and_true]); omega) | (simp <;> fail) | skip) [runM_nil]
    refine hK _ _ ?_
    clear hK K
    exact ⟨l.length - (i + 1), by omega, _, .refl _, i + 1, by omega, rfl, rfl, by simp [keepL_MS, keepA, getS]⟩
  · obtain rfl : i = l.length := by omega
    refine pwp_seq ?_
    first | refine pwp_sr ?_ | refine pwp_regionM ?_
    intro K hK
    simp (disch := first | (refine Ok.mk ?_; (try simp only [Lm, La, Lc, Ln, Lt, Ld, Lr, Li, true_or, or_true, true_and, and_true]); omega) | (simp <;> fail) | skip) [runM_nil]
    refine hK _ _ ?_
    clear hK K
    refine pwp_cF (by simp) (pwp_exit ?_)
    first | refine pwp_sr ?_ | refine pwp_regionM ?_
    intro K hK
    simp (disch := first | (refine Ok.mk ?_; (try simp only [Lm, La, Lc, Ln, Lt, Ld, Lr, Li, true_or, or_true, true_and, and_true]); omega) | (simp <;> fail) | skip) [runM_nil]
    refine hK _ _ ?_
    clear hK K
    refine pwp_ret ⟨.inr rfl, _, _, (by simp (disch := first | (refine Ok.mk ?_; (try simp only [Lm, La, Lc, Ln, Lt, Ld, Lr, Li, true_or, or_true, true_and, and_true]); omega) | (simp <;> fail) | skip) [runM_nil, resL]; rfl), .refl _, by simp (disch := first | (refine Ok.mk ?_; (try simp only [Lm, La, Lc, Ln, Lt, Ld, Lr, Li, true_or, or_true, true_and, and_true]); omega) | (simp <;> fail) | skip) [resV], rfl⟩
theorem stores_ok {o o2 : Bool} {b s : List Nat} (hb : ∀ x ∈ b, x < 256) (hs : ∀ x ∈ s, x < 256) (hbl : b.length ≤ 140737488351232) (hsl : s.length ≤ 140737488351232) (n : Int) (hn : -9223372036854775808 ≤ n) :
    PSpec Try.prog 5 [.lst 1 (b.map u8) o, .lst 1 (s.map u8) o2, .int .i64 n] (.bool true) := by
  intro H
  have hmix := mix24
  have ca := alive_ok
  refine spec_of t5 (by simp [p5]) ?_
  simp only [p5]
  first | refine pwp_sr ?_ | refine pwp_regionM ?_
  intro K hK
  simp (disch := first | (refine Ok.mk ?_; (try simp only [Lm, La, Lc, Ln, Lt, Ld, Lr, Li, true_or, or_true, true_and, and_true]); omega) | (simp <;> fail) | skip) [runM_nil]
  refine hK _ _ ?_
  clear hK K
  rcases (show 800 < b.length ∨ ¬ 800 < b.length ∧ 800 < s.length ∨ ¬ 800 < b.length ∧ ¬ 800 < s.length ∧ 1099511627776 < n ∨ ¬ 800 < b.length ∧ ¬ 800 < s.length ∧ ¬ 1099511627776 < n by omega) with h1 | ⟨h1, h2⟩ | ⟨h1, h2, h3⟩ | ⟨h1, h2, h3⟩
  · first | refine pwp_rif ?_ | refine pwp_rifE ?_
    intro K hK
    simp (disch := first | (refine Ok.mk ?_; (try simp only [Lm, La, Lc, Ln, Lt, Ld, Lr, Li, true_or, or_true, true_and, and_true]); omega) | (simp <;> fail) | skip) [runM_nil, h1]
    refine hK _ _ ?_
    clear hK K
    refine ifT (by simp (disch := first | (refine Ok.mk ?_; (try simp only [Lm, La, Lc, Ln, Lt, Ld, Lr, Li, true_or, or_true, true_and, and_true]); omega) | (simp <;> fail) | skip) [runM_nil]) ?_
    first | refine pwp_sr ?_ | refine pwp_regionM ?_
    intro K hK
    simp (disch := first | (refine Ok.mk ?_; (try simp only [Lm, La, Lc, Ln, Lt, Ld, Lr, Li, true_or, or_true, true_and, and_true]); omega) | (simp <;> fail) | skip) [runM_nil]
    refine useP (ca) ?_
    simp (disch := first | (refine Ok.mk ?_; (try simp only [Lm, La, Lc, Ln, Lt, Ld, Lr, Li, true_or, or_true, true_and, and_true]); omega) | (simp <;> fail) | skip) [runM_nil]
    refine hK _ _ ?_
    clear hK K
    refine pwp_retT ⟨.inr rfl, _, _, (by simp (disch := first | (refine Ok.mk ?_; (try simp only [Lm, La, Lc, Ln, Lt, Ld, Lr, Li, true_or, or_true, true_and, and_true]); omega) | (simp <;> fail) | skip) [runM_nil, resL]; rfl), .refl _, by simp (disch := first | (refine Ok.mk ?_; (try simp only [Lm, La, Lc, Ln, Lt, Ld, Lr, Li, true_or, or_true, true_and, and_true]); omega) | (simp <;> fail) | skip) [resV], rfl⟩
  · first | refine pwp_rif ?_ | refine pwp_rifE ?_
    intro K hK
    simp (disch := first | (refine Ok.mk ?_; (try simp only [Lm, La, Lc, Ln, Lt, Ld, Lr, Li, true_or, or_true, true_and, and_true]); omega) | (simp <;> fail) | skip) [runM_nil, h1, h2]
    refine hK _ _ ?_
    clear hK K
    refine ifT (by simp (disch := first | (refine Ok.mk ?_; (try simp only [Lm, La, Lc, Ln, Lt, Ld, Lr, Li, true_or, or_true, true_and, and_true]); omega) | (simp <;> fail) | skip) [runM_nil]) ?_
    first | refine pwp_sr ?_ | refine pwp_regionM ?_
    intro K hK
    simp (disch := first | (refine Ok.mk ?_; (try simp only [Lm, La, Lc, Ln, Lt, Ld, Lr, Li, true_or, or_true, true_and, and_true]); omega) | (simp <;> fail) | skip) [runM_nil]
    refine useP (ca) ?_
    simp (disch := first | (refine Ok.mk ?_; (try simp only [Lm, La, Lc, Ln, Lt, Ld, Lr, Li, true_or, or_true, true_and, and_true]); omega) | (simp <;> fail) | skip) [runM_nil]
    refine hK _ _ ?_
    clear hK K
    refine pwp_retT ⟨.inr rfl, _, _, (by simp (disch := first | (refine Ok.mk ?_; (try simp only [Lm, La, Lc, Ln, Lt, Ld, Lr, Li, true_or, or_true, true_and, and_true]); omega) | (simp <;> fail) | skip) [runM_nil, resL]; rfl), .refl _, by simp (disch := first | (refine Ok.mk ?_; (try simp only [Lm, La, Lc, Ln, Lt, Ld, Lr, Li, true_or, or_true, true_and, and_true]); omega) | (simp <;> fail) | skip) [resV], rfl⟩
  · first | refine pwp_rif ?_ | refine pwp_rifE ?_
    intro K hK
    simp (disch := first | (refine Ok.mk ?_; (try simp only [Lm, La, Lc, Ln, Lt, Ld, Lr, Li, true_or, or_true, true_and, and_true]); omega) | (simp <;> fail) | skip) [runM_nil, h1, h2, h3]
    refine hK _ _ ?_
    clear hK K
    refine ifT (by simp (disch := first | (refine Ok.mk ?_; (try simp only [Lm, La, Lc, Ln, Lt, Ld, Lr, Li, true_or, or_true, true_and, and_true]); omega) | (simp <;> fail) | skip) [runM_nil]) ?_
    first | refine pwp_sr ?_ | refine pwp_regionM ?_
    intro K hK
    simp (disch := first | (refine Ok.mk ?_; (try simp only [Lm, La, Lc, Ln, Lt, Ld, Lr, Li, true_or, or_true, true_and, and_true]); omega) | (simp <;> fail) | skip) [runM_nil]
    refine useP (ca) ?_
    simp (disch := first | (refine Ok.mk ?_; (try simp only [Lm, La, Lc, Ln, Lt, Ld, Lr, Li, true_or, or_true, true_and, and_true]); omega) | (simp <;> fail) | skip) [runM_nil]
    refine hK _ _ ?_
    clear hK K
    refine pwp_retT ⟨.inr rfl, _, _, (by simp (disch := first | (refine Ok.mk ?_; (try simp only [Lm, La, Lc, Ln, Lt, Ld, Lr, Li, true_or, or_true, true_and, and_true]); omega) | (simp <;> fail) | skip) [runM_nil, resL]; rfl), .refl _, by simp (disch := first | (refine Ok.mk ?_; (try simp only [Lm, La, Lc, Ln, Lt, Ld, Lr, Li, true_or, or_true, true_and, and_true]); omega) | (simp <;> fail) | skip) [resV], rfl⟩
  · first | refine pwp_rif ?_ | refine pwp_rifE ?_
    intro K hK
    simp (disch := first | (refine Ok.mk ?_; (try simp only [Lm, La, Lc, Ln, Lt, Ld, Lr, Li, true_or, or_true, true_and, and_true]); omega) | (simp <;> fail) | skip) [runM_nil, h1, h2, h3]
    refine hK _ _ ?_
    clear hK K
    refine ifF (by simp (disch := first | (refine Ok.mk ?_; (try simp only [Lm, La, Lc, Ln, Lt, Ld, Lr, Li, true_or, or_true, true_and, and_true]); omega) | (simp <;> fail) | skip) [runM_nil]) (pwp_skip ?_)
    have c1 := load24_ok (s := 1) (xs := s.map u8) (o := false) (b := s) rfl (.inl rfl) hs (by omega)
    have c2 := rload_ok (s := 1) (xs := s.map u8) (o := false) (b := s) rfl (.inl rfl) hs (by omega)
    have c3 := store_ok (s := 1) (xs := b.map u8) (o := false) (b := b) rfl (.inl rfl) hb (by omega)
    have c4 := rstore_ok (s := 1) (xs := b.map u8) (o := false) (b := b) rfl (.inl rfl) hb (by omega)
    have c5 := size24_ok (s := 1) (xs := s.map u8) (o := false) (b := s) rfl (by omega)
    have c6 := rsize_ok (s := 1) (xs := s.map u8) (o := false) (b := s) rfl (.inl rfl) (by omega)
    have c7 := damaged_ok (s := 1) (xs := s.map u8) (o := false) (b := s) rfl (.inl rfl) hs (by omega)
    have c8 := rdamaged_ok (s := 1) (xs := s.map u8) (o := false) (b := s) rfl (.inl rfl) hs (by omega)
    have hdl : (dmg s).length ≤ 1000000 := by
      have := dmgTo_le s ((s.length + 67) / 68)
      show (dmgTo s ((s.length + 67) / 68)).length ≤ 1000000
      omega
    have c9 := intsSame_ok (l := dmg s) hdl (o := false) (q := false)
    have c10 := stored_ok n (by omega) (by omega)
    have c11 := rstored_ok n (by omega) (by omega)
    have v1 : ∀ o, cvSP (.lst 1 (s.map u8) o) = some (.str (ci s)) := fun o => cvS_u8 rfl (.inl rfl) hs
    have v2 : ∀ o, cvSP (.lst 1 ((loa s).1.map u8) o) = some (.str (ci (loa s).1)) := fun o => cvS_u8 rfl (.inl rfl) (loa_lt hs)
    have v3 : ∀ o, cvSP (.lst 1 ((sto b).map u8) o) = some (.str (ci (sto b))) := fun o => cvS_u8 rfl (.inl rfl) (sto_lt hb)
    generalize loa s = L at *
    generalize sto b = S at *
    generalize dmg s = D at *
    generalize stored n = N at *
    generalize szB s.length = Z at *
    first | refine pwp_sr ?_ | refine pwp_regionM ?_
    intro K hK
    simp (disch := first | (refine Ok.mk ?_; (try simp only [Lm, La, Lc, Ln, Lt, Ld, Lr, Li, true_or, or_true, true_and, and_true]); omega) | (simp <;> fail) | skip) [runM_nil]
    refine hK _ _ ?_
    clear hK K
    first | refine pwp_sr ?_ | refine pwp_regionM ?_
    intro K hK
    simp (disch := first | (refine Ok.mk ?_; (try simp only [Lm, La, Lc, Ln, Lt, Ld, Lr, Li, true_or, or_true, true_and, and_true]); omega) | (simp <;> fail) | skip) [runM_nil]
    refine useP (c1) ?_
    simp (disch := first | (refine Ok.mk ?_; (try simp only [Lm, La, Lc, Ln, Lt, Ld, Lr, Li, true_or, or_true, true_and, and_true]); omega) | (simp <;> fail) | skip) [runM_nil]
    refine hK _ _ ?_
    clear hK K
    first | refine pwp_sr ?_ | refine pwp_regionM ?_
    intro K hK
    simp (disch := first | (refine Ok.mk ?_; (try simp only [Lm, La, Lc, Ln, Lt, Ld, Lr, Li, true_or, or_true, true_and, and_true]); omega) | (simp <;> fail) | skip) [runM_nil]
    refine useP (c2) ?_
    simp (disch := first | (refine Ok.mk ?_; (try simp only [Lm, La, Lc, Ln, Lt, Ld, Lr, Li, true_or, or_true, true_and, and_true]); omega) | (simp <;> fail) | skip) [runM_nil]
    refine hK _ _ ?_
    clear hK K
    first | refine pwp_sd hmix ?_ | refine pwp_drawM hmix ?_
    intro K hK
    simp (disch := first | (refine Ok.mk ?_; (try simp only [Lm, La, Lc, Ln, Lt, Ld, Lr, Li, true_or, or_true, true_and, and_true]); omega) | (simp <;> fail) | skip) [runM_nil, v1, v2, v3, strP]
    refine useD (ca) ?_
    simp (disch := first | (refine Ok.mk ?_; (try simp only [Lm, La, Lc, Ln, Lt, Ld, Lr, Li, true_or, or_true, true_and, and_true]); omega) | (simp <;> fail) | skip) [runM_nil, v1, v2, v3, strP]
    refine useD (c3) ?_
    simp (disch := first | (refine Ok.mk ?_; (try simp only [Lm, La, Lc, Ln, Lt, Ld, Lr, Li, true_or, or_true, true_and, and_true]); omega) | (simp <;> fail) | skip) [runM_nil, v1, v2, v3, strP]
    refine useD (c4) ?_
    simp (disch := first | (refine Ok.mk ?_; (try simp only [Lm, La, Lc, Ln, Lt, Ld, Lr, Li, true_or, or_true, true_and, and_true]); omega) | (simp <;> fail) | skip) [runM_nil, v1, v2, v3, strP]
    refine useD (c5) ?_
    simp (disch := first | (refine Ok.mk ?_; (try simp only [Lm, La, Lc, Ln, Lt, Ld, Lr, Li, true_or, or_true, true_and, and_true]); omega) | (simp <;> fail) | skip) [runM_nil, v1, v2, v3, strP]
    refine useD (c6) ?_
    simp (disch := first | (refine Ok.mk ?_; (try simp only [Lm, La, Lc, Ln, Lt, Ld, Lr, Li, true_or, or_true, true_and, and_true]); omega) | (simp <;> fail) | skip) [runM_nil, v1, v2, v3, strP]
    refine useD (c7) ?_
    simp (disch := first | (refine Ok.mk ?_; (try simp only [Lm, La, Lc, Ln, Lt, Ld, Lr, Li, true_or, or_true, true_and, and_true]); omega) | (simp <;> fail) | skip) [runM_nil, v1, v2, v3, strP]
    refine useD (c8) ?_
    simp (disch := first | (refine Ok.mk ?_; (try simp only [Lm, La, Lc, Ln, Lt, Ld, Lr, Li, true_or, or_true, true_and, and_true]); omega) | (simp <;> fail) | skip) [runM_nil, v1, v2, v3, strP]
    refine useD (c9) ?_
    simp (disch := first | (refine Ok.mk ?_; (try simp only [Lm, La, Lc, Ln, Lt, Ld, Lr, Li, true_or, or_true, true_and, and_true]); omega) | (simp <;> fail) | skip) [runM_nil, v1, v2, v3, strP]
    refine useD (c10) ?_
    simp (disch := first | (refine Ok.mk ?_; (try simp only [Lm, La, Lc, Ln, Lt, Ld, Lr, Li, true_or, or_true, true_and, and_true]); omega) | (simp <;> fail) | skip) [runM_nil, v1, v2, v3, strP]
    refine useD (c11) ?_
    simp (disch := first | (refine Ok.mk ?_; (try simp only [Lm, La, Lc, Ln, Lt, Ld, Lr, Li, true_or, or_true, true_and, and_true]); omega) | (simp <;> fail) | skip) [runM_nil, v1, v2, v3, strP]
    refine hK _ _ ?_
    clear hK K
    refine pwp_ret ⟨.inr rfl, _, _, (by simp (disch := first | (refine Ok.mk ?_; (try simp only [Lm, La, Lc, Ln, Lt, Ld, Lr, Li, true_or, or_true, true_and, and_true]); omega) | (simp <;> fail) | skip) [runM_nil, resL]; rfl), .refl _, by simp (disch := first | (refine Ok.mk ?_; (try simp only [Lm, La, Lc, Ln, Lt, Ld, Lr, Li, true_or, or_true, true_and, and_true]); omega) | (simp <;> fail) | skip) [resV], rfl⟩
end Go.Proofs.Ytkbdlgohmafglaa.E
/- What a row hands over, as bytes and numbers. -/
namespace Go.Proofs.Ytkbdlgohmafglaa.E
open Go Go.RowKit Go.Proofs Go.ChangeShapes Go.WideShapes
set_option linter.unusedVariables false
set_option linter.unusedSimpArgs false
theorem bytes_of {xs : List PV} (h : ∀ x ∈ xs, el false (fun ps => ∃ n : Int, ps = [.int .u8 n] ∧ (Lit.int .u8 n).wf = true) x) : ∃ l : List Nat, xs = l.map u8 ∧ ∀ x ∈ l, x < 256 := by
  induction xs with
  | nil => exact ⟨[], rfl, fun c hc => by cases hc⟩
  | cons x xs ih =>
    obtain ⟨l, rfl, hl⟩ := ih fun y hy => h y (List.mem_cons_of_mem _ hy)
    obtain ⟨n, e, hn⟩ := h x (List.mem_cons_self ..)
    cases e
    have hw : 0 ≤ n ∧ n ≤ 255 := by simpa [Lit.wf, IntKind.min, IntKind.max, IntKind.signed, IntKind.bits] using hn
    refine ⟨n.toNat :: l, ?_, fun c hc => ?_⟩
    · have : ((n.toNat : Nat) : Int) = n := by omega
      simp [u8, this]
    · rcases List.mem_cons.1 hc with rfl | hc
      · omega
      · exact hl c hc
theorem openBytes : OpnV Try.prog 23 1 (fun ps => ∃ l : List Nat, ps = [.lst 1 (l.map u8) false] ∧ (∀ x ∈ l, x < 256) ∧ l.length ≤ 140737488351232) :=
  (OpnV.slice (B := 1) false Try.underlying23 (by kernel_rfl) (by kernel_rfl) (OpnV.int Try.underlying5 (by kernel_rfl)) (fun _ => rfl) (by omega)).weaken (by
    rintro _ ⟨xs, rfl, h1, _, h2⟩
    obtain ⟨l, rfl, h3⟩ := bytes_of h2
    rw [List.length_map] at h1
    exact ⟨l, rfl, h3, by omega⟩)
theorem openIntB : OpnV Try.prog 3 1 (fun ps => ∃ n : Int, ps = [.int .i64 n] ∧ -9223372036854775808 ≤ n ∧ n ≤ 9223372036854775807) := (OpnV.int Try.underlying3 (by kernel_rfl)).weaken (by
  rintro _ ⟨n, rfl, h⟩
  have hw : -9223372036854775808 ≤ n ∧ n ≤ 9223372036854775807 := by simpa [Lit.wf, IntKind.min, IntKind.max, IntKind.signed, IntKind.bits] using h
  exact ⟨n, rfl, hw⟩)
theorem bytess_of {xs : List PV} (h : ∀ x ∈ xs, el false (fun ps => ∃ l : List Nat, ps = [.lst 1 (l.map u8) false] ∧ (∀ x ∈ l, x < 256) ∧ l.length ≤ 140737488351232) x) :
    ∃ ls : List (List Nat), xs = ls.map (fun p => .lst 1 (p.map u8) false) ∧ ∀ p ∈ ls, (∀ x ∈ p, x < 256) ∧ p.length ≤ 140737488351232 := by
  induction xs with
  | nil => exact ⟨[], rfl, fun c hc => by cases hc⟩
  | cons x xs ih =>
    obtain ⟨ls, rfl, hl⟩ := ih fun y hy => h y (List.mem_cons_of_mem _ hy)
    obtain ⟨p, e, hp⟩ := h x (List.mem_cons_self ..)
    cases e
    refine ⟨p :: ls, rfl, fun c hc => ?_⟩
    rcases List.mem_cons.1 hc with rfl | hc
    · exact hp
    · exact hl c hc
end Go.Proofs.Ytkbdlgohmafglaa.E
