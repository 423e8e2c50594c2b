/- What was written is read, and canonical; a canonical file, written again, is itself; at most 120 records of 3000 bytes together, 3000 bytes. Condition: none beyond the row's own. -/
import Derived.Test.YtjbnomkajfmlpaaLFixedWrite
import Derived.Test.YtjbnomkajfmlpaaLFixedRead
import Derived.Test.YtjbnomkajfmlpaaLRecs
import Derived.Test.YtjbnomkajfmlpaaPAx4
set_option linter.unusedVariables false
set_option linter.unusedSimpArgs false
set_option linter.unusedSectionVars false
namespace Go.Proofs.Ytjbnomkajfmlpaa.Pure
open Go.RowKit Go.Proofs.Ytjbnomkajfmlpaa.PA Go.Proofs.YtjbnomkajfmlpaaW.PrintWords Go.Proofs.YtjbnomkajfmlpaaW.PrintLast Go.Proofs.YtjbnomkajfmlpaaW.PrintMore
theorem writeS_ok (w : Nat) : ∀ (l : List (List ByteArray)) (acc : List Int), (writeS (w : Int) acc l).2 = 0 → ∃ ys : List ByteArray, l = ys.map (fun y => [y]) ∧ (∀ y ∈ ys, y.size = w) ∧ (writeS (w : Int) acc l).1 = acc ++ ys.flatMap bytesOf
  | [], acc, _ => ⟨[], rfl, by simp, by simp [writeS]⟩
  | x :: l, acc, h => by
    unfold writeS at h ⊢
    by_cases hx : x.length = 1 ∧ ((x.getD 0 ByteArray.empty).size : Int) = (w : Int)
    · rw [if_pos hx] at h ⊢
      obtain ⟨ys, h1, h2, h3⟩ := writeS_ok w l _ h
      match x, hx with
      | [y], hx =>
        refine ⟨y :: ys, by rw [h1]; rfl, fun z hz => ?_, by rw [h3]; simp⟩
        rcases List.mem_cons.1 hz with rfl | hz
        · have := hx.2; simp at this; omega
        · exact h2 z hz
    · rw [if_neg hx] at h
      exact absurd h (by decide)
theorem writeS_yes (w : Nat) : ∀ (ys : List ByteArray) (acc : List Int), (∀ y ∈ ys, y.size = w) → writeS (w : Int) acc (ys.map (fun y => [y])) = (acc ++ ys.flatMap bytesOf, 0)
  | [], acc, _ => by simp [writeS]
  | y :: ys, acc, h => by
    rw [List.map_cons]
    unfold writeS
    rw [if_pos ⟨rfl, by have := h y (by simp); simp; omega⟩, writeS_yes w ys _ (fun z hz => h z (by simp [hz]))]
    simp
theorem flat_length (w : Nat) : ∀ ys : List ByteArray, (∀ y ∈ ys, y.size = w) → (ys.flatMap bytesOf).length = ys.length * w
  | [], _ => by simp
  | y :: ys, h => by
    rw [List.flatMap_cons, List.length_append, bytesOf_length, flat_length w ys (fun z hz => h z (by simp [hz])), h y (by simp), List.length_cons, Nat.succ_mul]
    omega
theorem flat_piece (w : Nat) : ∀ (ys : List ByteArray) (i : Nat) (h : i < ys.length), (∀ y ∈ ys, y.size = w) → ((ys.flatMap bytesOf).take (i * w + w)).drop (i * w) = bytesOf ys[i]
  | y :: ys, 0, _, h => by
    have hy : (bytesOf y).length = w := by rw [bytesOf_length]; exact h y (by simp)
    rw [Nat.zero_mul, Nat.zero_add, List.drop_zero, List.flatMap_cons, List.take_append_of_le_length (by omega), List.take_of_length_le (by omega)]
    rfl
  | y :: ys, i + 1, hi, h => by
    have hy : (bytesOf y).length = w := by rw [bytesOf_length]; exact h y (by simp)
    have := flat_piece w ys i (by simpa using hi) (fun z hz => h z (by simp [hz]))
    rw [List.flatMap_cons, Nat.succ_mul, show i * w + w + w = (bytesOf y).length + (i * w + w) by omega, List.take_length_add_append, show i * w + w = (bytesOf y).length + i * w by omega, List.drop_length_add_append, Nat.add_comm (bytesOf y).length (i * w), hy]
    exact this
theorem rcs_eq (w : Nat) (ys : List ByteArray) (h : ∀ y ∈ ys, y.size = w) : (List.range ys.length).map (rc (ys.flatMap bytesOf) w) = ys.map (fun y => [y]) := by
  refine List.ext_getElem (by simp) (fun i h1 h2 => ?_)
  rw [List.length_map, List.length_range] at h1
  simp only [List.getElem_map, List.getElem_range, rc, pcL]
  rw [flat_piece w ys i h1 h, strs_bytes]
theorem chunks_take (b : List Int) (w : Nat) (hb : ∀ x ∈ b, 0 ≤ x ∧ x < 256) : ∀ q, q * w ≤ b.length → ((List.range q).map (pcL b w)).flatMap bytesOf = b.take (q * w)
  | 0, _ => by simp
  | q + 1, h => by
    rw [Nat.succ_mul] at h
    rw [List.range_succ, List.map_append, List.flatMap_append, chunks_take b w hb q (by omega), List.map_singleton, List.flatMap_singleton, pcL, bytes_strs (fun x hx => hb x (List.mem_of_mem_take (List.mem_of_mem_drop hx))), Nat.succ_mul]
    conv => rhs; rw [← List.take_append_drop (q * w) (b.take (q * w + w))]
    rw [List.take_take, Nat.min_eq_left (by omega)]
theorem pcL_size (b : List Int) (w i : Nat) (h : i * w + w ≤ b.length) : (pcL b w i).size = w := by
  rw [pcL, strs_sz, List.length_drop, List.length_take, Nat.min_eq_left h]; omega
theorem rcs_cost (b : List Int) (w : Nat) (hw : 1 ≤ w) : ∀ q, q * w ≤ b.length → costs ((List.range q).map (rc b w)) ≤ q + b.length ∧ costs ((List.range q).map (rc b w)) = q + q * w
  | 0, _ => by simp [costs]
  | q + 1, h => by
    rw [Nat.succ_mul] at h
    have := (rcs_cost b w hw q (by omega)).2
    have e : costs ((List.range (q + 1)).map (rc b w)) = q + 1 + (q + 1) * w := by
      have hs := pcL_size b w q h
      simp only [costs] at this ⊢
      rw [List.range_succ, List.map_append, List.map_append, List.sum_append, this]
      simp [rc, cost, hs, Nat.succ_mul]
      omega
    rw [e, Nat.succ_mul]
    exact ⟨by omega, rfl⟩
/-- A file of any width, read and written again. -/
theorem again_ev (b : List Int) (a : Int) (hl : b.length ≤ 3000) (hb : ∀ x ∈ b, 0 ≤ x ∧ x < 256) : Ev (fun k => threshinglaw09_FixedBack.j1 k b a) true := by
  refine Ev.succ ?_
  simp only [threshinglaw09_FixedBack.j1]
  cases ha : isW a with
  | false =>
    refine Ev.bind (scan_bad b ha) (Ev.bind (a := []) ?_ (Ev.bind (write_ev a [] (by simp [costs]) (by simp)) (Ev.bind alive_ev (Ev.pos rfl (Ev.const (canon_bad b ha) (Ev.neg (by decide) (Ev.now _)))))))
    simp only [threshingref05_All.f]
    refine Ev.succ ?_
    simp only [threshingref05_All.l0]
    exact Ev.neg (by simp) (Ev.now _)
  | true =>
    obtain ⟨w, rfl, hw, hw2⟩ := isW_nat ha
    have hql : b.length / w ≤ b.length := Nat.div_le_self _ _
    have hg := good_le (b := b) hw
    have hcost := (rcs_cost b w hw _ hg).1
    refine Ev.bind (scan_ev (by omega) hw hw2) (Ev.bind (all_ev (by omega) hw hw2) (Ev.bind (write_ev (w : Int) _ (by omega) (by rw [List.length_map, List.length_range]; omega)) (Ev.bind alive_ev (Ev.pos rfl (Ev.const (canon_eq (by omega) hw hw2) ?_)))))
    by_cases hc : b.length / w * w = b.length
    · have e : wrote (w : Int) ((List.range (b.length / w)).map (rc b w)) = (b, 0) := by
        have e2 : (List.range (b.length / w)).map (rc b w) = ((List.range (b.length / w)).map (pcL b w)).map (fun y => [y]) := by rw [List.map_map]; rfl
        unfold wrote
        rw [if_pos ha, e2, writeS_yes, chunks_take b w hb _ hg, hc, List.take_length, List.nil_append]
        intro y hy
        obtain ⟨i, hi, rfl⟩ := List.mem_map.1 hy
        exact pcL_size b w i ((lt_q hw i).1 (List.mem_range.1 hi))
      rw [e]
      exact Ev.pos (decide_eq_true hc) (Ev.pos rfl (Ev.done (by simp)))
    · exact Ev.neg (by simpa using hc) (Ev.now _)
theorem FixedBack : threshinglaw09_FixedBack.Pure := by
  intro l b a h1 h2 h3 _ _ h4 _
  refine Ev.rounds (g := fun k => threshinglaw09_FixedBack.f k l b a) ?_
  simp only [threshinglaw09_FixedBack.f]
  have j : Ev (fun k => threshinglaw09_FixedBack.j0 k l b a true) true := Ev.succ (by simp only [threshinglaw09_FixedBack.j0]; exact Ev.pos trivial (Ev.bind alive_ev (Ev.now _)))
  have hf := few_ev l 120 3000 (by omega) (by omega) (fun x hx => ⟨by have := (h3 x hx).2.1; omega, (h3 x hx).2.2⟩)
  refine Ev.bind hf ?_
  by_cases h : costs l ≤ 3000 ∧ l.length ≤ 120
  rotate_left
  · exact Ev.neg (by simpa using h) j
  refine Ev.pos (decide_eq_true h) ?_
  by_cases g : (b.length : Int) > 3000
  · rw [decide_eq_true g]; exact j
  rw [decide_eq_false g]
  have hag := again_ev b a (by omega) (bytes8 h4)
  refine Ev.succ ?_
  simp only [threshinglaw09_FixedBack.j0]
  refine Ev.neg (by decide) (Ev.bind (write_ev a l (by omega) (by omega)) ?_)
  by_cases he : (wrote a l).2 = 0
  rotate_left
  · exact Ev.neg he hag
  refine Ev.pos he ?_
  have ha : isW a = true := by
    revert he
    unfold wrote
    cases isW a <;> simp
  obtain ⟨w, rfl, hw, hw2⟩ := isW_nat ha
  have e0 : wrote (w : Int) l = writeS (w : Int) [] l := by unfold wrote; rw [if_pos ha]
  rw [e0] at he ⊢
  obtain ⟨ys, hys, hsz, hr⟩ := writeS_ok w l [] he
  rw [List.nil_append] at hr
  rw [hr]
  have hlen := flat_length w ys hsz
  have hyl : ys.length = l.length := by rw [hys, List.length_map]
  have hlen2 : (ys.flatMap bytesOf).length ≤ 1000000 := by
    rw [hlen]
    exact Nat.le_trans (Nat.mul_le_mul (show ys.length ≤ 120 by omega) hw2) (by decide)
  have hq : (ys.flatMap bytesOf).length / w = ys.length := by rw [hlen]; exact Nat.mul_div_cancel _ (by omega)
  have hsh : short (ys.flatMap bytesOf) w = 0 := by unfold short; rw [hq, hlen]; exact if_neg (by omega)
  have hall := all_ev hlen2 hw hw2
  rw [hq, rcs_eq w ys hsz, ← hys] at hall
  have hsc := scan_ev hlen2 hw hw2
  rw [hq] at hsc
  have hcan := canon_eq hlen2 hw hw2
  rw [hq] at hcan
  refine Ev.bind hsc (Ev.pos hsh (Ev.pos (by rw [hlen]) (Ev.const hcan (Ev.pos (decide_eq_true hlen.symm) (Ev.bind hall (Ev.bind (recs_ev l (by omega) (fun x hx => ?_)) (Ev.pos rfl hag)))))))
  have := (h3 x hx).2.1
  omega
end Go.Proofs.Ytjbnomkajfmlpaa.Pure
