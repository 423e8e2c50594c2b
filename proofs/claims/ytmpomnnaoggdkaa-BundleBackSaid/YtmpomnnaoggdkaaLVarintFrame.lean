import Derived.Test.YtmpomnnaoggdkaaLVarintEv
import Derived.Test.YtmpomnnaoggdkaaPAx2
import Derived.Test.YtmpomnnaoggdkaaPAx6
-- texts and pairs behind bytes, and taken
set_option linter.unusedVariables false
set_option linter.unusedSimpArgs false
set_option linter.unusedSectionVars false
namespace Go.Proofs.Ytmpomnnaoggdkaa.Pure
open Go.RowKit Go.Proofs.Ytmpomnnaoggdkaa.PA Go.Proofs.YtmpomnnaoggdkaaW.PrintWords Go.Proofs.YtmpomnnaoggdkaaW.PrintLast Go.Proofs.YtmpomnnaoggdkaaW.PrintMore
/-! the bytes of a text -/
def nats (s : ByteArray) : List Nat := s.toList.map UInt8.toNat
theorem bytesOf_nats (s : ByteArray) : bytesOf s = ci (nats s) := by
  rw [bytesOf, nats, Go.ByteArray.toList_eq, ci, List.map_map]
  rfl
theorem nats_lt (s : ByteArray) : ∀ x ∈ nats s, x < 256 := by
  intro x hx
  obtain ⟨b, _, rfl⟩ := List.mem_map.1 hx
  exact b.toNat_lt
theorem nats_length (s : ByteArray) : (nats s).length = s.size := by
  rw [← ci_length, ← bytesOf_nats, bytesOf_length]
theorem nats_strs {l : List Nat} (hl : ∀ x ∈ l, x < 256) : nats (strOfNums (ci l)) = l := by
  have h0 : (strOfNums (ci l)).toList = (ci l).map fun n => UInt8.ofNat n.toNat := by
    rw [Go.ByteArray.toList_eq, strOfNums_data]
  rw [nats, h0]
  simp only [ci, List.map_map]
  conv => rhs; rw [← List.map_id l]
  refine List.map_congr_left (fun x hx => ?_)
  simp [Nat.mod_eq_of_lt (hl x hx)]
theorem strs_size {l : List Nat} (hl : ∀ x ∈ l, x < 256) : (strOfNums (ci l)).size = l.length := by
  rw [← nats_length, nats_strs hl]
/-! put -/
def frm (s : ByteArray) : List Nat := vb s.size ++ nats s
theorem frm_lt (s : ByteArray) : ∀ x ∈ frm s, x < 256 := fun x hx => (List.mem_append.1 hx).elim (vb_lt _ x) (nats_lt s x)
theorem frm_length (s : ByteArray) (h : s.size < 18446744073709551616) : (frm s).length ≤ s.size + 10 := by
  have := vb_length_le10 h
  rw [frm, List.length_append, nats_length]
  omega
theorem frame_ev {b : List Nat} {s : ByteArray} (h : b.length + s.size ≤ 140737488351232) : Ev (fun k => varint_Frame.f k (ci b) s) (ci (b ++ frm s)) := by
  have h10 := vb_length_le10 (n := s.size) (by omega)
  simp only [varint_Frame.f]
  rw [wu64, Nat.mod_eq_of_lt (by omega)]
  refine Ev.bind (put_ev (by omega) s.size (by omega)) ?_
  rw [ci_length, List.length_append, bytesOf_nats, ← ci_append, List.append_assoc]
  exact Ev.pos (by omega) (Ev.now _)
/-! taken -/
def vframe (s : List Nat) (k : Int) : ByteArray × List Nat × Nat :=
  if (vtake s).2.2 = 0 then
    if k < 0 ∨ k < (vtake s).1 then (⟨#[]⟩, [], 5) else if (vtake s).2.1.length < (vtake s).1 then (⟨#[]⟩, [], 2)
    else (strOfNums (ci ((vtake s).2.1.take (vtake s).1)), (vtake s).2.1.drop (vtake s).1, 0)
  else (⟨#[]⟩, [], (vtake s).2.2)
theorem vframe_rest (s : List Nat) (k : Int) : (vframe s k).2.1.length ≤ s.length ∧ ∀ x ∈ (vframe s k).2.1, x ∈ s := by
  obtain ⟨h1, h2⟩ := vtake_rest (s := s)
  unfold vframe
  split
  · split
    · simp
    split
    · simp
    · exact ⟨by simp; omega, fun x hx => h2 x (List.mem_of_mem_drop hx)⟩
  · simp
section
variable {s : List Nat} (hs : ∀ x ∈ s, x < 256) (hl : s.length ≤ 140737488351232) {k : Int} (hk0 : -9223372036854775808 ≤ k) (hk1 : k < 9223372036854775808)
include hs hl hk0 hk1
theorem takeFrame_ev : Ev (fun n => varint_TakeFrame.f n (ci s) k) ((vframe s k).1, ci (vframe s k).2.1, ((vframe s k).2.2 : Int)) := by
  obtain ⟨h1, h2⟩ := vtake_rest (s := s)
  have hlt := vtake_lt hs
  simp only [varint_TakeFrame.f]
  refine Ev.bind (take_ev hs hl) ?_
  by_cases h0 : (vtake s).2.2 = 0
  · refine Ev.pos (show ((vtake s).2.2 : Int) = 0 by omega) ?_
    have big : (k < 0 ∨ k < (vtake s).1) → Ev (fun n => varint_TakeFrame.j0 n ((vtake s).1 : Int) (ci (vtake s).2.1) true) ((vframe s k).1, ci (vframe s k).2.1, ((vframe s k).2.2 : Int)) := by
      intro hb
      rw [show vframe s k = (⟨#[]⟩, [], 5) from by unfold vframe; rw [if_pos h0, if_pos hb]]
      refine Ev.succ ?_
      simp only [varint_TakeFrame.j0]
      exact Ev.pos (by simp) (Ev.now _)
    by_cases hk : k < 0
    · exact Ev.pos hk (big (Or.inl hk))
    refine Ev.neg hk ?_
    rw [u64wrap, Int.emod_eq_of_lt (by omega) (by omega)]
    by_cases hb : k < (vtake s).1
    · rw [decide_eq_true hb]; exact big (Or.inr hb)
    rw [decide_eq_false hb]
    refine Ev.succ ?_
    simp only [varint_TakeFrame.j0, ci_length]
    refine Ev.neg (by simp) ?_
    rw [wu64, Nat.mod_eq_of_lt (by omega)]
    by_cases hc : (vtake s).2.1.length < (vtake s).1
    · rw [show vframe s k = (⟨#[]⟩, [], 2) from by unfold vframe; rw [if_pos h0, if_neg (by omega), if_pos hc]]
      exact Ev.pos (by omega) (Ev.now _)
    · rw [show vframe s k = (strOfNums (ci ((vtake s).2.1.take (vtake s).1)), (vtake s).2.1.drop (vtake s).1, 0) from by unfold vframe; rw [if_pos h0, if_neg (by omega), if_neg hc]]
      rw [Int.toNat_natCast, ci_take, ci_drop]
      exact Ev.neg (by omega) (Ev.pos (by omega) (Ev.pos (by omega) (Ev.now _)))
  · rw [show vframe s k = (⟨#[]⟩, [], (vtake s).2.2) from by unfold vframe; rw [if_neg h0]]
    exact Ev.neg (show ¬ ((vtake s).2.2 : Int) = 0 by omega) (Ev.now _)
end
/-! there and back -/
theorem vframe_frm {t : ByteArray} {k : Int} (h : (t.size : Int) ≤ k) (hk : k < 9223372036854775808) (r : List Nat) : vframe (frm t ++ r) k = (strOfNums (ci (nats t)), r, 0) := by
  have e : vtake (frm t ++ r) = (t.size, nats t ++ r, 0) := by
    rw [frm, List.append_assoc]
    exact vtake_vb (by omega) _
  unfold vframe
  rw [e]
  simp only [if_true]
  rw [if_neg (by omega), if_neg (by rw [List.length_append, nats_length]; omega), ← nats_length t, List.take_left, List.drop_left]
theorem vframe_ok {s : List Nat} (hs : ∀ x ∈ s, x < 256) {k : Int} (h : (vframe s k).2.2 = 0) : frm (vframe s k).1 ++ (vframe s k).2.1 = s := by
  have hr := vtake_rest (s := s)
  unfold vframe at h ⊢
  by_cases h0 : (vtake s).2.2 = 0
  · rw [if_pos h0] at h ⊢
    by_cases h1 : k < 0 ∨ k < (vtake s).1
    · rw [if_pos h1] at h; exact absurd h (by simp)
    rw [if_neg h1] at h ⊢
    by_cases h2 : (vtake s).2.1.length < (vtake s).1
    · rw [if_pos h2] at h; exact absurd h (by simp)
    rw [if_neg h2]
    have hb : ∀ x ∈ (vtake s).2.1.take (vtake s).1, x < 256 := fun x hx => hs x (hr.2 x (List.mem_of_mem_take hx))
    rw [frm, strs_size hb, nats_strs hb, List.length_take, Nat.min_eq_left (by omega), List.append_assoc, List.take_append_drop]
    exact (vtake_ok hs h0).2
  · rw [if_neg h0] at h; exact absurd h h0
end Go.Proofs.Ytmpomnnaoggdkaa.Pure
