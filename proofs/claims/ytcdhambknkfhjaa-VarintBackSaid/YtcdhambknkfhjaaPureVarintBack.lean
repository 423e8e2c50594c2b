/- THERE AND BACK: a number and a pair that were put are taken, whatever stands behind them; a number folded and unfolded is itself, both ways; at most 3000 bytes each. Condition: none beyond the row's own. -/
import Derived.Test.YtcdhambknkfhjaaLVarintFrame
import Derived.Test.YtcdhambknkfhjaaLVarintAlive
import Derived.Test.YtcdhambknkfhjaaPAx9
namespace Go.Proofs.Ytcdhambknkfhjaa.Pure
open Go.RowKit Go.Proofs.Ytcdhambknkfhjaa.PA Go.Proofs.YtcdhambknkfhjaaW.PrintWords Go.Proofs.YtcdhambknkfhjaaW.PrintLast Go.Proofs.YtcdhambknkfhjaaW.PrintMore
theorem vpair_frm {s t : ByteArray} {k : Int} (h0 : (s.size : Int) ≤ k) (h1 : (t.size : Int) ≤ k) (hk : k < 9223372036854775808) (r : List Nat) :
    vpair (frm s ++ frm t ++ r) k = (strOfNums (ci (nats s)), strOfNums (ci (nats t)), r, 0) := by
  unfold vpair
  rw [List.append_assoc, vframe_frm h0 hk]
  simp only [if_true]
  rw [vframe_frm h1 hk]
  simp only [if_true]
theorem back_in {b : List Nat} (hb : ∀ x ∈ b, x < 256) (hl : b.length ≤ 3000) {n : Nat} (hn : n < 18446744073709551616) {s t : ByteArray} (hs : s.size ≤ 3000) (ht : t.size ≤ 3000) :
    Ev (fun k => threshinglaw01_VarintBack.j0 k (ci b) (n : Int) false s t) true := by
  have h10 := vb_length_le10 hn
  have f1 := frm_length s (by omega)
  have f2 := frm_length t (by omega)
  have hfs := frm_lt s
  have hft := frm_lt t
  refine Ev.succ ?_
  simp only [threshinglaw01_VarintBack.j0]
  refine Ev.neg (by simp) (Ev.bind (put_ev (b := []) (by simp) n hn) ?_)
  rw [List.nil_append]
  refine Ev.bind (pair_ev (by omega)) ?_
  rw [ci_length, ci_length, ← ci_append, List.append_assoc, List.append_assoc, List.append_assoc, ← List.append_assoc (frm s)]
  have hall : ∀ x ∈ vb n ++ (frm s ++ frm t ++ b), x < 256 := by
    intro x hx
    simp only [List.mem_append] at hx
    rcases hx with h | (h | h) | h
    · exact vb_lt n x h
    · exact hfs x h
    · exact hft x h
    · exact hb x h
  have e := take_ev (s := vb n ++ (frm s ++ frm t ++ b)) hall (by simp only [List.length_append]; omega)
  rw [vtake_vb hn] at e
  have e2 := takePair_ev (s := frm s ++ frm t ++ b) (k := 3000) (fun x hx => hall x (List.mem_append_right _ hx)) (by simp only [List.length_append]; omega) (by omega) (by omega)
  rw [vpair_frm (by omega) (by omega) (by omega)] at e2
  refine Ev.pos (by simp only [List.length_append]; omega) (Ev.bind e (Ev.bind e2 (Ev.bind alive_ev (Ev.pos (by simp) (Ev.pos (by simp) (Ev.pos (by simp) (Ev.pos (by simp) (Ev.pos ?_ (Ev.pos (by simp) ?_)))))))))
  · simp only [strs_nats, beq_self_eq_true, Bool.and_self]
  · obtain ⟨u0, u1⟩ := unfold_range (n := (n : Int)) (by omega) (by omega)
    refine Ev.const (unfold_eq (by omega) (by omega)) (Ev.const (fold_eq u0 u1) (Ev.pos (fold_unfold (by omega)) ?_))
    have w0 : -9223372036854775808 ≤ wrap64 (n : Int) ∧ wrap64 (n : Int) < 9223372036854775808 := by unfold wrap64; omega
    obtain ⟨r0, r1⟩ := fold_range w0.1 w0.2
    refine Ev.const (fold_eq w0.1 w0.2) (Ev.const (unfold_eq r0 r1) (Ev.done ?_))
    rw [unfold_fold]
    simp
theorem VarintBack : threshinglaw01_VarintBack.Pure := by
  intro l0 a1 s t _ _ h0 h1 _ _
  obtain ⟨b, rfl, hb⟩ := u8s h0
  obtain ⟨h1a, h1b⟩ := wf_u64 h1
  obtain ⟨n, rfl⟩ := Int.eq_ofNat_of_zero_le h1a
  refine Ev.rounds (g := fun k => threshinglaw01_VarintBack.f k (ci b) (n : Int) s t) ?_
  have out : ∀ x y z u, Ev (fun k => threshinglaw01_VarintBack.j0 k x y true z u) true := by
    intro x y z u
    refine Ev.succ ?_
    simp only [threshinglaw01_VarintBack.j0]
    exact Ev.pos (by simp) (Ev.bind alive_ev (Ev.now _))
  simp only [threshinglaw01_VarintBack.f, ci_length]
  by_cases g0 : (b.length : Int) > 3000
  · exact Ev.pos g0 (out _ _ _ _)
  refine Ev.neg g0 ?_
  by_cases g1 : (s.size : Int) > 3000
  · exact Ev.pos g1 (out _ _ _ _)
  refine Ev.neg g1 ?_
  by_cases g2 : (t.size : Int) > 3000
  · rw [decide_eq_true g2]; exact out _ _ _ _
  · rw [decide_eq_false g2]; exact back_in hb (by omega) (by omega) (by omega) (by omega)
end Go.Proofs.Ytcdhambknkfhjaa.Pure
