/- SPOILT: of what is stored (at most 800 bytes) one byte that is another one spoils its own row and no other. Condition: none beyond the row's own. -/
import Derived.Test.YtkbdlgohmafglaaLBlockChanged
import Derived.Test.YtkbdlgohmafglaaPAx6
set_option linter.unusedVariables false
namespace Go.Proofs.Ytkbdlgohmafglaa.Pure
open Go.RowKit Go.Proofs.Ytkbdlgohmafglaa.PA Go.Proofs.YtkbdlgohmafglaaW.PrintWords Go.Proofs.YtkbdlgohmafglaaW.PrintLast Go.Proofs.YtkbdlgohmafglaaW.PrintMore
attribute [local irreducible] sto sealed opened opb ck rws mor
theorem balive_val : threshinglaw24_alive.f 3000 = some true := by decide +kernel
theorem balive_ev : Ev (fun k => threshinglaw24_alive.f k) true := Ev.of threshinglaw24_alive.mono balive_val
set_option maxHeartbeats 2000000 in
theorem spoilt_loop {l : List Nat} (hl : ∀ x ∈ l, x < 256) (hlen : l.length ≤ 800) {i a : Nat} (hi : i < (sto l).length) (ha : a < 256) (ha0 : a ≠ 0) : ∀ (d x : Nat), d + x = l.length →
    Ev (fun k => threshinglaw24_BlockSpoilt.l0 k (ci l) (ci ((sto l).set i ((sto l).getD i 0 ^^^ a))) [((i / 68 : Nat) : Int)] (x : Int)) true
  | 0, x, hd => by
    refine Ev.succ ?_
    simp only [threshinglaw24_BlockSpoilt.l0, ci_length]
    exact Ev.neg (by omega) (Ev.bind balive_ev (Ev.now _))
  | d + 1, x, hd => by
    have hsl := sto_length _ l (Nat.le_refl _)
    have hv : (sto l).getD i 0 ^^^ a < 256 := xor_lt8 (getD_lt (sto_lt hl) (by omega)) ha
    have hbad := bad_row hl hi ha ha0
    have hoth := fun (h : i / 68 ≠ x / 64) => other_row l i ((sto l).getD i 0 ^^^ a) (x / 64) (by omega) h
    obtain ⟨y, hy⟩ : ∃ y, (sto l).set i ((sto l).getD i 0 ^^^ a) = y := ⟨_, rfl⟩
    have hylt : ∀ z ∈ y, z < 256 := by
      rw [← hy]
      intro z hz
      rcases List.mem_or_eq_of_mem_set hz with h | h
      · exact sto_lt hl z h
      · rw [h]; exact hv
    have hyl : y.length = l.length + (l.length + 63) / 64 * 4 := by rw [← hy, List.length_set]; exact hsl
    rw [hy] at hbad hoth ⊢
    have hra := readat_ev hylt l.length (by omega) hyl (by omega) x (by omega)
    have e3 : wrap64 (Int.tdiv (x : Int) 64) = ((x / 64 : Nat) : Int) := by
      rw [show (64 : Int) = ((64 : Nat) : Int) from rfl, tdiv_nat, w64 (by omega) (by omega)]
    have e4 : wrap64 ((x : Int) + 1) = ((x + 1 : Nat) : Int) := w64s x (by omega)
    have erd : rd [((i / 68 : Nat) : Int)] 0 = ((i / 68 : Nat) : Int) := rfl
    refine Ev.succ ?_
    simp only [threshinglaw24_BlockSpoilt.l0, ci_length, e3, e4, erd]
    clear e3 e4 erd
    refine Ev.pos (by omega) ?_
    by_cases h : i / 68 = x / 64
    · rw [h] at hbad
      refine Ev.bind (hra.1 hbad) (Ev.pos (by simp) (Ev.pos (by omega) (Ev.pos rfl ?_)))
      have e := spoilt_loop hl hlen hi ha ha0 d (x + 1) (by omega)
      rw [hy] at e
      exact e
    · have hg := good_row l (x / 64) (by omega)
      rw [← hoth h] at hg
      have hcl := ck_length 64 l (x / 64)
      refine Ev.bind (hra.2 _ hg (by omega)) (Ev.pos (by simp) (Ev.neg (by omega) (Ev.pos rfl (Ev.pos rfl (Ev.pos (by simp) (Ev.pos (by omega) (Ev.pos ?_ ?_)))))))
      · rw [ck_getD 64 l (x / 64) (x % 64) (by omega), show x / 64 * 64 + x % 64 = x by omega, rd_ci]
        rfl
      · have e := spoilt_loop hl hlen hi ha ha0 d (x + 1) (by omega)
        rw [hy] at e
        exact e
theorem spoilt_in {l : List Nat} (hl : ∀ x ∈ l, x < 256) (hlen : l.length ≤ 800) (i : Int) (a : Nat) (ha : a < 256) (ha0 : a ≠ 0) :
    Ev (fun k => threshinglaw24_BlockSpoilt.j0 k (ci l) i (a : Int) false) true := by
  have hsl := sto_length _ l (Nat.le_refl _)
  have out : ∀ x y z w, Ev (fun k => threshinglaw24_BlockSpoilt.j1 k x y z w true) true := by
    intro x y z w
    refine Ev.succ ?_
    simp only [threshinglaw24_BlockSpoilt.j1]
    exact Ev.pos (by simp) (Ev.bind balive_ev (Ev.now _))
  refine Ev.succ ?_
  simp only [threshinglaw24_BlockSpoilt.j0]
  refine Ev.neg (by decide) (Ev.bind (store_ev hl (by omega)) ?_)
  by_cases g0 : i < 0
  · exact Ev.pos g0 (out _ _ _ _)
  refine Ev.neg g0 ?_
  rw [ci_length]
  by_cases g1 : i ≥ ((sto l).length : Int)
  · rw [decide_eq_true g1]; exact out _ _ _ _
  rw [decide_eq_false g1]
  obtain ⟨n, rfl⟩ := Int.eq_ofNat_of_zero_le (Int.not_lt.1 g0)
  have hn : n < (sto l).length := by omega
  have hg : (sto l).getD n 0 < 256 := getD_lt (sto_lt hl) (by omega)
  refine Ev.succ ?_
  simp only [threshinglaw24_BlockSpoilt.j1]
  rw [ci_length]
  refine Ev.neg (by decide) (Ev.pos (by omega) (Ev.pos (by omega) ?_))
  have eset : (ci (sto l)).set ((n : Int)).toNat (Go.bits .xor .u8 (rd (ci (sto l)) (n : Int)) (a : Int)) = ci ((sto l).set n ((sto l).getD n 0 ^^^ a)) := by
    rw [rd_ci, x8 _ _ hg ha, Int.toNat_natCast, ci_set]
  rw [eset]
  have hbad := bad_row hl hn ha ha0
  have hrow := row_in hn
  have hylt : ∀ z ∈ (sto l).set n ((sto l).getD n 0 ^^^ a), z < 256 := by
    intro z hz
    rcases List.mem_or_eq_of_mem_set hz with h | h
    · exact sto_lt hl z h
    · rw [h]; exact xor_lt8 hg ha
  have hd := damaged_ev hylt (by rw [List.length_set]; omega)
  rw [bad_one _ (n / 68) hbad _ 0 (fun x _ h2 h3 => by
    rw [List.length_set] at h2
    rw [other_row l n _ x (by omega) (fun e => h3 e.symm), good_row l x (by omega)]), List.length_set, if_pos (by omega)] at hd
  refine Ev.some (Ev.bind hd ?_)
  refine Ev.pos rfl (Ev.pos (by simp) ?_)
  have e3 : wrap64 (Int.tdiv (n : Int) 68) = ((n / 68 : Nat) : Int) := by
    rw [show (68 : Int) = ((68 : Nat) : Int) from rfl, tdiv_nat, w64 (by omega) (by omega)]
  have erd : rd [((n / 68 : Nat) : Int)] 0 = ((n / 68 : Nat) : Int) := rfl
  rw [e3, erd, bne_self_eq_false]
  clear e3 erd
  refine Ev.succ ?_
  simp only [threshinglaw24_BlockSpoilt.j2]
  exact Ev.neg (by decide) (spoilt_loop hl hlen hn ha ha0 l.length 0 (by omega))
theorem BlockSpoilt : threshinglaw24_BlockSpoilt.Pure := by
  intro l0 a1 a2 _ _ h0 _ h2
  obtain ⟨l, rfl, hl⟩ := to_ci (b := 256) (fun x hx => wf_u8 (h0 x hx))
  obtain ⟨h20, h21⟩ := wf_u8 h2
  obtain ⟨a, rfl⟩ := Int.eq_ofNat_of_zero_le h20
  have out : ∀ x y z, Ev (fun k => threshinglaw24_BlockSpoilt.j0 k x y z true) true := by
    intro x y z
    refine Ev.succ ?_
    simp only [threshinglaw24_BlockSpoilt.j0]
    exact Ev.pos (by simp) (Ev.bind balive_ev (Ev.now _))
  have main : Ev (fun k => threshinglaw24_BlockSpoilt.f k (ci l) a1 (a : Int)) true := by
    simp only [threshinglaw24_BlockSpoilt.f, ci_length]
    by_cases g : (l.length : Int) > 800
    · exact Ev.pos g (out _ _ _)
    refine Ev.neg g ?_
    by_cases ga : a = 0
    · subst ga
      exact out _ _ _
    · rw [show (((a : Nat) : Int) == 0) = false from by simp [ga]]
      exact spoilt_in hl (by omega) a1 a (by omega) ga
  obtain ⟨K, hK⟩ := main
  exact ⟨K, hK K (Nat.le_refl _)⟩
end Go.Proofs.Ytkbdlgohmafglaa.Pure
