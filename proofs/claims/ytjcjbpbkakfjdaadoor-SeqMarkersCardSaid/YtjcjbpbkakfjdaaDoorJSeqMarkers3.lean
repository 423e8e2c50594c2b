/- Part 3 of the proof of SeqMarkers: what the program's functions come to. -/
import Derived.Lib.IndexBytes
import Derived.ProofKit
import Derived.WalkKit
import Derived.Test.YtjcjbpbkakfjdaaDoorJSeqMarkers2
import Derived.Test.YtjcjbpbkakfjdaaDoorL3
/- Where bytes begin in others: bytes.Index. -/
namespace Go.Proofs.YtjcjbpbkakfjdaaDoor.E
open Go Go.RowKit Go.Proofs
set_option linter.unusedVariables false
set_option linter.unusedSimpArgs false
def dist (p : List Nat) : List Nat → Nat
  | [] => 0
  | a :: l => if p.isPrefixOf (a :: l) then 0 else dist p l + 1
def ixI (p l : List Nat) : Int := if dist p l < l.length then (dist p l : Int) else -1
theorem dist_le (p : List Nat) : ∀ l : List Nat, dist p l ≤ l.length
  | [] => Nat.le_refl _
  | a :: l => by
    rw [dist]
    split
    · omega
    · have := dist_le p l
      simp only [List.length_cons]
      omega
theorem prefix_bytes : ∀ (p l : List Nat), (∀ x ∈ p, x < 256) → (∀ x ∈ l, x < 256) → (Lib.bytesOf (ci p)).isPrefixOf (Lib.bytesOf (ci l)) = p.isPrefixOf l
  | [], l, _, _ => by cases l <;> rfl
  | a :: p, [], _, _ => rfl
  | a :: p, b :: l, hp, hl => by
    have ih := prefix_bytes p l (fun x hx => hp x (List.mem_cons_of_mem _ hx)) (fun x hx => hl x (List.mem_cons_of_mem _ hx))
    have ha := hp a (List.mem_cons_self ..)
    have hb := hl b (List.mem_cons_self ..)
    have e1 : ∀ (x : Nat) (q : List Nat), Lib.bytesOf (ci (x :: q)) = UInt8.ofNat x :: Lib.bytesOf (ci q) := fun x q => by simp [Lib.bytesOf, ci]
    rw [e1, e1, List.isPrefixOf, List.isPrefixOf, ih]
    congr 1
    rw [Bool.eq_iff_iff, beq_iff_eq, beq_iff_eq]
    constructor
    · intro h
      have h2 := congrArg UInt8.toNat h
      simp only [UInt8.toNat_ofNat'] at h2
      omega
    · intro h; rw [h]
theorem index_ci {p : List Nat} (hp : ∀ x ∈ p, x < 256) (h1 : 1 ≤ p.length) : ∀ l : List Nat, (∀ x ∈ l, x < 256) → Lib.index (Lib.bytesOf (ci l)) (Lib.bytesOf (ci p)) = ixI p l
  | [], _ => by
    cases p with
    | nil => cases h1
    | cons a p => simp [Lib.bytesOf, ci, Lib.index, ixI, dist]
  | a :: l, hl => by
    have ih := index_ci hp h1 l fun x hx => hl x (List.mem_cons_of_mem _ hx)
    have e1 : Lib.bytesOf (ci (a :: l)) = UInt8.ofNat a :: Lib.bytesOf (ci l) := by simp [Lib.bytesOf, ci]
    have hpf := prefix_bytes p (a :: l) hp hl
    rw [e1] at hpf
    rw [e1, Lib.index, hpf, ih]
    have hd : dist p (a :: l) = if p.isPrefixOf (a :: l) then 0 else dist p l + 1 := rfl
    have hle := dist_le p l
    by_cases hc : p.isPrefixOf (a :: l) = true
    · rw [if_pos hc, ixI, hd, if_pos hc, if_pos (by simp)]
      rfl
    · rw [if_neg hc, ixI, ixI, hd, if_neg hc]
      simp only [List.length_cons]
      by_cases h : dist p l < l.length
      · have h2 : dist p l + 1 < l.length + 1 := by omega
        have h3 : ¬ (((dist p l : Int) == -1) = true) := by simp
        rw [if_pos h, if_pos h2, if_neg h3]
        omega
      · have h2 : ¬ dist p l + 1 < l.length + 1 := by omega
        rw [if_neg h, if_neg h2]
        rfl
theorem lst_cells {w : World} {g : Ghost} {s : Nat} {b : List Nat} {o : Bool} {v : Value} (hs : s = 1 ∨ b.length = 0) (h : VR true w g (.lst s (b.map u8) o) v) :
    ∃ A cap, v = .slice A b.length cap ∧ b.length ≤ cap ∧ cap ≤ maxLen ∧ ((A = none ∧ b = []) ∨ ∃ a, A = some a ∧ ∀ i, i < b.length → w.cell? (a.add i) = some (.int .u8 ((ci b).getD i 0))) := by
  obtain ⟨A, cap, rfl, h1, h2, hR, _⟩ := h
  rw [List.length_map] at h1
  refine ⟨A, cap, by rw [List.length_map], h1, h2, ?_⟩
  cases A with
  | none =>
    left
    rcases hR with h | ⟨_, _, _, h, _⟩
    · exact ⟨rfl, List.map_eq_nil_iff.1 h⟩
    · cases h
  | some a =>
    refine .inr ⟨a, rfl, ?_⟩
    intro i hi
    rcases hR with h | ⟨blk, off, vs, h, hr, hv⟩
    · rw [List.map_eq_nil_iff.1 h] at hi
      simp at hi
    · obtain rfl : s = 1 := hs.resolve_right (by omega)
      cases h
      have hv2 := VRe_ints (toInts_u8 b) hv
      have e3 : (⟨blk, off, none⟩ : Addr).add i = ⟨blk, off + i, none⟩ := by
        unfold Addr.add
        split
        · rename_i h; simp [h]
        · rfl
      rw [e3]
      refine hr.cell (j := i) ?_
      rw [hv2, List.getElem?_map, List.getD_eq_getElem?_getD]
      have : i < (ci b).length := by simpa using hi
      rw [List.getElem?_eq_getElem this]
      rfl
theorem ci_rng {b : List Nat} (h : ∀ x ∈ b, x < 256) : ∀ x ∈ ci b, 0 ≤ x ∧ x < 256 := fun x hx => by
  obtain ⟨n, hn, rfl⟩ := List.mem_map.1 hx
  have := h n hn
  omega
theorem indexE_ok {s : Nat} {xs : List PV} {o : Bool} {b : List Nat} (hx : xs = b.map u8) (hs : s = 1 ∨ b.length = 0) (hw : ∀ x ∈ b, x < 256) (c : Nat) (hc : c < 256) :
    PSpec Tryd.prog 75 [.lst s xs o, .int .u8 c] (.int .i64 (ixI [c] b)) := by
  subst hx
  refine spec_ext Tryd.func75 (by kernel_rfl) (by kernel_rfl) (by kernel_rfl) (e := Extern.BytealgIndexByte.indexByte) (by kernel_rfl) fun w g vals hV => ?_
  obtain ⟨v0, vs0, e0, h0, v1, vs1, rfl, rfl, rfl⟩ := hV
  obtain ⟨A, cap, rfl, _, _, hR⟩ := lst_cells hs (w := w) (g := g) (o := o) (v := v0) h0
  have hvals : vals = #[.slice A b.length cap, .int .u8 c] := by
    apply Array.toList_inj.1
    simpa using e0
  subst hvals
  have e : ixI [c] b = Lib.indexByte (Lib.bytesOf (ci b)) ((c : Int).toNat.toUInt8) := by
    rw [← index_ci (p := [c]) (by intro x hx; rw [List.mem_singleton.1 hx]; exact hc) (by simp) b hw]
    exact Lib.index_one _ _
  refine ⟨.int .i64 (ixI [c] b), ?_, rfl, by simp [toks]⟩
  rcases hR with ⟨rfl, rfl⟩ | ⟨a, rfl, hR⟩
  · rfl
  · rw [e]
    exact Lib.run_indexByteAt (P := Tryd.prog) w a b.length cap (ci b) (by simp) hR c
theorem indexB_ok {s : Nat} {xs : List PV} {o : Bool} {b : List Nat} (hx : xs = b.map u8) (hs : s = 1 ∨ b.length = 0) (hw : ∀ x ∈ b, x < 256) (c : Nat) (hc : c < 256) :
    PSpec Tryd.prog 61 [.lst s xs o, .int .u8 c] (.int .i64 (ixI [c] b)) := by
  intro H
  have ce := indexE_ok (o := false) hx hs hw c hc
  refine spec_of t61 (by simp [p61]) ?_
  simp only [p61]
  first | refine pwp_sr ?_ | refine pwp_regionM ?_
  intro K hK
  simp (disch := first | (refine Ok.mk ?_; (try simp only [Lm, La, Lc, Ln, Lt, Ld, Lr, Li, true_or, or_true, true_and, and_true]); omega) | (simp <;> fail) | skip) [runM_nil]
  refine hK _ _ ?_
  clear hK K
  first | refine pwp_sr ?_ | refine pwp_regionM ?_
  intro K hK
  simp (disch := first | (refine Ok.mk ?_; (try simp only [Lm, La, Lc, Ln, Lt, Ld, Lr, Li, true_or, or_true, true_and, and_true]); omega) | (simp <;> fail) | skip) [runM_nil]
  refine useP (ce) ?_
  simp (disch := first | (refine Ok.mk ?_; (try simp only [Lm, La, Lc, Ln, Lt, Ld, Lr, Li, true_or, or_true, true_and, and_true]); omega) | (simp <;> fail) | skip) [runM_nil]
  refine hK _ _ ?_
  clear hK K
  refine pwp_ret ⟨.inr rfl, _, _, (by simp (disch := first | (refine Ok.mk ?_; (try simp only [Lm, La, Lc, Ln, Lt, Ld, Lr, Li, true_or, or_true, true_and, and_true]); omega) | (simp <;> fail) | skip) [runM_nil, resL]; rfl), .refl _, by simp (disch := first | (refine Ok.mk ?_; (try simp only [Lm, La, Lc, Ln, Lt, Ld, Lr, Li, true_or, or_true, true_and, and_true]); omega) | (simp <;> fail) | skip) [resV], rfl⟩
theorem index1_ok {s1 : Nat} {xs : List PV} {o1 o2 : Bool} {a : List Nat} (hx : xs = a.map u8) (hs : s1 = 1 ∨ a.length = 0) (ha : ∀ x ∈ a, x < 256) (c : Nat) (hc : c < 256) :
    PSpec Tryd.prog 41 [.lst s1 xs o1, .lst 1 [.int .u8 c] o2] (.int .i64 (ixI [c] a)) := by
  intro H
  have ce := indexB_ok (o := false) hx hs ha c hc
  refine spec_of t41 (by simp [p41]) ?_
  simp only [p41]
  first | refine pwp_sr ?_ | refine pwp_regionM ?_
  intro K hK
  simp (disch := first | (refine Ok.mk ?_; (try simp only [Lm, La, Lc, Ln, Lt, Ld, Lr, Li, true_or, or_true, true_and, and_true]); omega) | (simp <;> fail) | skip) [runM_nil]
  refine hK _ _ ?_
  clear hK K
  first | refine pwp_sr ?_ | refine pwp_regionM ?_
  intro K hK
  simp (disch := first | (refine Ok.mk ?_; (try simp only [Lm, La, Lc, Ln, Lt, Ld, Lr, Li, true_or, or_true, true_and, and_true]); omega) | (simp <;> fail) | skip) [runM_nil]
  refine hK _ _ ?_
  clear hK K
  refine pwp_seq (pwp_block ?_)
  first | refine pwp_sr ?_ | refine pwp_regionM ?_
  intro K hK
  simp (disch := first | (refine Ok.mk ?_; (try simp only [Lm, La, Lc, Ln, Lt, Ld, Lr, Li, true_or, or_true, true_and, and_true]); omega) | (simp <;> fail) | skip) [runM_nil]
  refine hK _ _ ?_
  clear hK K
  refine pwp_cF (by simp) ?_
  first | refine pwp_sr ?_ | refine pwp_regionM ?_
  intro K hK
  simp (disch := first | (refine Ok.mk ?_; (try simp only [Lm, La, Lc, Ln, Lt, Ld, Lr, Li, true_or, or_true, true_and, and_true]); omega) | (simp <;> fail) | skip) [runM_nil]
  refine hK _ _ ?_
  clear hK K
  refine pwp_cT (by simp) ?_
  first | refine pwp_sr ?_ | refine pwp_regionM ?_
  intro K hK
  simp (disch := first | (refine Ok.mk ?_; (try simp only [Lm, La, Lc, Ln, Lt, Ld, Lr, Li, true_or, or_true, true_and, and_true]); omega) | (simp <;> fail) | skip) [runM_nil]
  refine useP (ce) ?_
  simp (disch := first | (refine Ok.mk ?_; (try simp only [Lm, La, Lc, Ln, Lt, Ld, Lr, Li, true_or, or_true, true_and, and_true]); omega) | (simp <;> fail) | skip) [runM_nil]
  refine hK _ _ ?_
  clear hK K
  refine pwp_ret (And.intro (.inr rfl) ⟨_, _, (by simp (disch := first | (refine Ok.mk ?_; (try simp only [Lm, La, Lc, Ln, Lt, Ld, Lr, Li, true_or, or_true, true_and, and_true]); omega) | (simp <;> fail) | skip) [runM_nil, resL]; rfl), .refl _, by simp (disch := first | (refine Ok.mk ?_; (try simp only [Lm, La, Lc, Ln, Lt, Ld, Lr, Li, true_or, or_true, true_and, and_true]); omega) | (simp <;> fail) | skip) [resV], rfl⟩)
theorem index2_ok {s1 : Nat} {xs ys : List PV} {o1 o2 : Bool} {a p : List Nat} (hx : xs = a.map u8) (hs : s1 = 1 ∨ a.length = 0) (hy : ys = p.map u8) (h1 : 2 ≤ p.length) (hpl : p.length ≤ 1000000) (ha : ∀ x ∈ a, x < 256) (hp : ∀ x ∈ p, x < 256) (hl : a.length ≤ 4000000000) :
    PSpec Tryd.prog 41 [.lst s1 xs o1, .lst 1 ys o2] (.int .i64 (ixI p a)) := by
  subst hx hy
  refine spec_stepG (by kernel_rfl) fun out w g vals hw hG hV => ?_
  obtain ⟨v0, vs0, e0, h0, v1, vs1, rfl, h2, rfl⟩ := hV
  obtain ⟨A, cA, rfl, kA, mA, hA⟩ := lst_cells hs h0
  obtain ⟨B, cB, rfl, kB, mB, hB⟩ := lst_cells (.inl rfl) h2
  have hvals : vals = #[.slice A a.length cA, .slice B p.length cB] := by
    apply Array.toList_inj.1
    simpa using e0
  subst hvals
  have fin : ∀ q, Step [] w g (w.drewN q) g (.int .i64 (ixI p a)) (.int .i64 (ixI p a)) := fun q =>
    ⟨⟨rfl, rfl, rfl, Nat.le_refl _, fun _ _ _ => ⟨rfl, rfl⟩, fun b hb => (by cases hb), hw.fresh, fun b f hf _ => hw.tl b f hf⟩, rfl, by simp [toks], by simp [toks]⟩
  rcases hB with ⟨_, rfl⟩ | ⟨bp, rfl, hB⟩
  · cases h1
  rcases hA with ⟨rfl, rfl⟩ | ⟨ad, rfl, hA⟩
  · refine (Tryd.bytes_Index_longer none (some bp) 0 cA p.length cB w (by omega) (by omega) (by omega)).mono ?_
    rintro e w' ⟨rfl, rfl⟩
    exact ⟨_, g, rfl, fin 0⟩
  · obtain ⟨_, m, e, fz, hm⟩ := hG _ (List.mem_singleton.2 rfl)
    refine (Tryd.bytes_Index_at ad bp a.length cA p.length cB (ci a) (ci p) m w (by simp) (by simp) (ci_rng ha) (ci_rng hp) hA hB kA (by omega) (by omega) (by simp [World.cell?, hm])).mono ?_
    rintro e w' ⟨rfl, q, rfl⟩
    rw [index_ci hp (by omega) a ha]
    exact ⟨_, g, rfl, fin q⟩
theorem index_ok {s1 : Nat} {xs ys : List PV} {o1 o2 : Bool} {a p : List Nat} (hx : xs = a.map u8) (hs : s1 = 1 ∨ a.length = 0) (hy : ys = p.map u8) (h1 : 1 ≤ p.length) (hpl : p.length ≤ 1000000) (ha : ∀ x ∈ a, x < 256) (hp : ∀ x ∈ p, x < 256) (hl : a.length ≤ 4000000000) :
    PSpec Tryd.prog 41 [.lst s1 xs o1, .lst 1 ys o2] (.int .i64 (ixI p a)) := by
  by_cases h : 2 ≤ p.length
  · exact index2_ok hx hs hy h hpl ha hp hl
  · obtain ⟨c, rfl⟩ : ∃ c, p = [c] := List.length_eq_one_iff.1 (by omega)
    subst hy
    exact index1_ok hx hs ha c (hp c (by simp))
end Go.Proofs.YtjcjbpbkakfjdaaDoor.E
/- Bytes that are written as others, in plain terms. -/
namespace Go.Proofs.YtjcjbpbkakfjdaaDoor.E
open Go Go.RowKit Go.Proofs
set_option linter.unusedVariables false
set_option linter.unusedSimpArgs false
theorem dist_hit {p : List Nat} : ∀ {l : List Nat}, dist p l < l.length → p <+: l.drop (dist p l)
  | [], h => by cases h
  | a :: l, h => by
    rw [dist] at h ⊢
    by_cases hc : p.isPrefixOf (a :: l) = true
    · rw [if_pos hc]
      exact List.isPrefixOf_iff_prefix.1 hc
    · rw [if_neg hc] at h ⊢
      exact dist_hit (l := l) (by simpa using h)
theorem dist_room {p l : List Nat} (h : dist p l < l.length) : dist p l + p.length ≤ l.length := by
  have h1 := (dist_hit h).length_le
  rw [List.length_drop] at h1
  omega
def occ (p l : List Nat) : Nat := if h : dist p l < l.length ∧ 1 ≤ p.length then occ p (l.drop (dist p l + p.length)) + 1 else 0
termination_by l.length
decreasing_by rw [List.length_drop]; omega
def repW (p n l : List Nat) : List Nat := if h : dist p l < l.length ∧ 1 ≤ p.length then l.take (dist p l) ++ n ++ repW p n (l.drop (dist p l + p.length)) else l
termination_by l.length
decreasing_by rw [List.length_drop]; omega
theorem occ_hit {p l : List Nat} (h1 : 1 ≤ p.length) (h : dist p l < l.length) : occ p l = occ p (l.drop (dist p l + p.length)) + 1 := by
  conv => lhs; unfold occ
  rw [dif_pos ⟨h, h1⟩]
theorem occ_miss {p l : List Nat} (h : ¬ dist p l < l.length) : occ p l = 0 := by
  unfold occ
  rw [dif_neg fun k => h k.1]
theorem repW_hit {p n l : List Nat} (h1 : 1 ≤ p.length) (h : dist p l < l.length) : repW p n l = l.take (dist p l) ++ n ++ repW p n (l.drop (dist p l + p.length)) := by
  conv => lhs; unfold repW
  rw [dif_pos ⟨h, h1⟩]
theorem repW_miss {p n l : List Nat} (h : ¬ dist p l < l.length) : repW p n l = l := by
  unfold repW
  rw [dif_neg fun k => h k.1]
theorem occ_pos {p l : List Nat} (h1 : 1 ≤ p.length) : 0 < occ p l ↔ dist p l < l.length := by
  by_cases h : dist p l < l.length
  · rw [occ_hit h1 h]; simp [h]
  · rw [occ_miss h]; simp [h]
theorem rep_len {p n : List Nat} (h1 : 1 ≤ p.length) : ∀ (k : Nat) (l : List Nat), l.length ≤ k → (repW p n l).length + occ p l * p.length = l.length + occ p l * n.length
  | k, l, hk => by
    by_cases h : dist p l < l.length
    · have hr := dist_room h
      cases k with
      | zero => omega
      | succ k =>
        have ih := rep_len (n := n) h1 k (l.drop (dist p l + p.length)) (by rw [List.length_drop]; omega)
        rw [repW_hit h1 h, occ_hit h1 h]
        simp only [List.length_append, List.length_take, List.length_drop] at *
        rw [Nat.add_mul, Nat.add_mul]
        have : min (dist p l) l.length = dist p l := by omega
        omega
    · rw [repW_miss h, occ_miss h]; simp
theorem occ_le {p : List Nat} (h1 : 1 ≤ p.length) : ∀ (k : Nat) (l : List Nat), l.length ≤ k → occ p l * p.length ≤ l.length
  | k, l, hk => by
    by_cases h : dist p l < l.length
    · have hr := dist_room h
      cases k with
      | zero => omega
      | succ k =>
        have ih := occ_le h1 k (l.drop (dist p l + p.length)) (by rw [List.length_drop]; omega)
        rw [occ_hit h1 h, Nat.add_mul]
        rw [List.length_drop] at ih
        omega
    · rw [occ_miss h]; simp
theorem occ_le1 {p : List Nat} (h1 : 1 ≤ p.length) (l : List Nat) : occ p l ≤ l.length :=
  Nat.le_trans (Nat.le_mul_of_pos_right _ (by omega)) (occ_le h1 _ l (Nat.le_refl _))
theorem count_take (c : Nat) (l : List Nat) : (l.take (dist [c] l)).count c = 0 := by
  induction l with
  | nil => rfl
  | cons a l ih =>
    rw [dist]
    by_cases hc : [c].isPrefixOf (a :: l) = true
    · rw [if_pos hc]; rfl
    · rw [if_neg hc, List.take_succ_cons, List.count_cons_of_ne, ih]
      intro e
      subst e
      simp at hc
theorem count_occA (c : Nat) : ∀ (k : Nat) (l : List Nat), l.length ≤ k → l.count c = occ [c] l
  | k, l, hk => by
    by_cases h : dist [c] l < l.length
    · cases k with
      | zero => omega
      | succ k =>
        obtain ⟨t, ht⟩ := dist_hit h
        have e : l = l.take (dist [c] l) ++ (c :: t) := by
          conv => lhs; rw [← List.take_append_drop (dist [c] l) l]
          rw [← ht]
          rfl
        have ht2 : l.drop (dist [c] l + 1) = t := by
          have : l.drop (dist [c] l + 1) = (l.drop (dist [c] l)).drop 1 := by rw [List.drop_drop]
          rw [this, ← ht]
          rfl
        have hrec := count_occA c k t (by rw [← ht2, List.length_drop]; omega)
        rw [occ_hit (by simp) h]
        simp only [List.length_singleton]
        rw [ht2, ← hrec]
        conv => lhs; rw [e]
        rw [List.count_append, count_take, List.count_cons_self]
        omega
    · rw [occ_miss h]
      have h3 := count_take c l
      rwa [List.take_of_length_le (by omega)] at h3
theorem count_occ (c : Nat) (l : List Nat) : l.count c = occ [c] l := count_occA c _ l (Nat.le_refl _)
def zl (N : Nat) (out : List Nat) : List PV := out.map u8 ++ List.replicate (N - out.length) (PV.int .u8 0)
theorem zl_len {N : Nat} {out : List Nat} (h : out.length ≤ N) : (zl N out).length = N := by simp [zl]; omega
theorem zl_put {N : Nat} {out ys : List Nat} (h : out.length + ys.length ≤ N) : (zl N out).take out.length ++ (ys.map u8 ++ (zl N out).drop (out.length + ys.length)) = zl N (out ++ ys) := by
  unfold zl
  rw [List.take_append_of_le_length (by simp), List.take_of_length_le (by simp), List.drop_append, List.drop_of_length_le (by simp), List.nil_append, List.map_append, List.append_assoc]
  congr 2
  rw [List.drop_replicate, List.length_map, List.length_append]
  congr 1
  omega
theorem zl_all {out : List Nat} : zl out.length out = out.map u8 := by simp [zl]
end Go.Proofs.YtjcjbpbkakfjdaaDoor.E
/- bytes.Replace, its row as one that is written. -/
namespace Go.Proofs.YtjcjbpbkakfjdaaDoor.E
open Go Go.RowKit Go.Proofs
set_option maxRecDepth 100000
def p56r : PFn :=
  ⟨132, [.t 8], .seq
    (.region [
      ⟨some 8, none, .mv true (.c (.lst 0 [] true))⟩])
    (.seq
     (.region [
       ⟨some 9, none, .mv true (.c (.int .i64 0))⟩])
     (.seq
      (.seq
       (.region [
         ⟨some 17, none, .mv false (.t 3)⟩,
         ⟨some 18, none, .bin .neq (.t 17) (.c (.int .i64 0))⟩])
       (.cond (.t 18)
        (.region [
          ⟨some 19, none, .mv false (.t 0)⟩,
          ⟨some 20, none, .mv false (.t 1)⟩,
          ⟨some 21, none, .callF 37 [.t 19, .t 20] []⟩,
          ⟨some 9, none, .mv true (.t 21)⟩])
        .skip))
      (.seq
       (.seq
        (.region [
          ⟨some 22, none, .mv false (.t 9)⟩,
          ⟨some 23, none, .bin .eql (.t 22) (.c (.int .i64 0))⟩])
        (.cond (.t 23)
         (.seq
          (.region [
            ⟨some 24, none, .mv false (.t 0)⟩,
            ⟨some 25, none, .app 1 1 (.c (.lst 0 [] true)) (.t 24)⟩,
            ⟨some 8, none, .mv true (.t 25)⟩])
          .ret)
         .skip))
       (.seq
        (.seq
         (.region [
           ⟨some 26, none, .mv false (.t 3)⟩,
           ⟨some 27, none, .bin .lss (.t 26) (.c (.int .i64 0))⟩,
           ⟨some 28, none, .mv false (.t 27)⟩,
           ⟨some 29, some (28, false), .mv false (.t 9)⟩,
           ⟨some 30, some (28, false), .mv false (.t 3)⟩,
           ⟨some 31, some (28, false), .bin .lss (.t 29) (.t 30)⟩,
           ⟨some 32, none, .pick (.t 28) (.c (.bool true)) (.t 31)⟩])
         (.cond (.t 32)
          (.region [
            ⟨some 33, none, .mv true (.t 9)⟩,
            ⟨some 3, none, .mv true (.t 33)⟩])
          .skip))
        (.seq
         (.region [
           ⟨some 34, none, .mv false (.t 0)⟩,
           ⟨some 35, none, .len false (.t 34)⟩,
           ⟨some 36, none, .mv false (.t 3)⟩,
           ⟨some 37, none, .mv false (.t 2)⟩,
           ⟨some 38, none, .len false (.t 37)⟩,
           ⟨some 39, none, .mv false (.t 1)⟩,
           ⟨some 40, none, .len false (.t 39)⟩,
           ⟨some 41, none, .bin .sub (.t 38) (.t 40)⟩,
           ⟨some 42, none, .bin .mul (.t 36) (.t 41)⟩,
           ⟨some 43, none, .bin .add (.t 35) (.t 42)⟩,
           ⟨some 44, none, .mk 1 1 false [.int .u8 0] (.t 43) (.t 43) true⟩,
           ⟨some 10, none, .mv true (.t 44)⟩])
         (.seq
          (.region [
            ⟨some 11, none, .mv true (.c (.int .i64 0))⟩])
          (.seq
           (.region [
             ⟨some 12, none, .mv true (.c (.int .i64 0))⟩])
           (.seq
            (.seq
             (.region [
               ⟨some 45, none, .mv false (.t 1)⟩,
               ⟨some 46, none, .len false (.t 45)⟩,
               ⟨some 47, none, .bin .gtr (.t 46) (.c (.int .i64 0))⟩])
             (.cond (.t 47)
              (.seq
               (.region [
                 ⟨some 48, none, .mv false (.t 3)⟩,
                 ⟨some 49, none, .mv false (.c (.int .i64 0))⟩])
               (.block 0
                (.loop
                 (.seq
                  (.region [
                    ⟨some 50, none, .bin .lss (.t 49) (.t 48)⟩])
                  (.seq
                   (.cond (.t 50)
                    .skip
                    (.exit 0))
                   (.seq
                    (.block 1
                     (.seq
                      (.region [
                        ⟨some 51, none, .mv false (.t 12)⟩,
                        ⟨some 52, none, .mv false (.t 0)⟩,
                        ⟨some 53, none, .mv false (.t 12)⟩,
                        ⟨some 54, none, .sli 1 (.t 52) (some (.t 53)) none none⟩,
                        ⟨some 55, none, .mv false (.t 1)⟩,
                        ⟨some 56, none, .callF 41 [.t 54, .t 55] []⟩,
                        ⟨some 57, none, .bin .add (.t 51) (.t 56)⟩,
                        ⟨some 13, none, .mv true (.t 57)⟩])
                      (.seq
                       (.draw [
                         ⟨some 58, none, .mv false (.t 11)⟩,
                         ⟨some 59, none, .mv false (.t 10)⟩,
                         ⟨some 60, none, .mv false (.t 11)⟩,
                         ⟨some 61, none, .sli 1 (.t 59) (some (.t 60)) none none⟩,
                         ⟨some 62, none, .mv false (.t 0)⟩,
                         ⟨some 63, none, .mv false (.t 12)⟩,
                         ⟨some 64, none, .mv false (.t 13)⟩,
                         ⟨some 65, none, .sli 1 (.t 62) (some (.t 63)) (some (.t 64)) none⟩,
                         ⟨some 66, none, .cpy 1 (.t 61) (.t 65)⟩,
                         ⟨some 67, none, .bin .add (.t 58) (.t 66)⟩,
                         ⟨some 11, none, .mv true (.t 67)⟩] [])
                       (.seq
                        (.region [
                          ⟨some 68, none, .mv false (.t 11)⟩,
                          ⟨some 69, none, .mv false (.t 10)⟩,
                          ⟨some 70, none, .mv false (.t 11)⟩,
                          ⟨some 71, none, .sli 1 (.t 69) (some (.t 70)) none none⟩,
                          ⟨some 72, none, .mv false (.t 2)⟩,
                          ⟨some 73, none, .cpy 1 (.t 71) (.t 72)⟩,
                          ⟨some 74, none, .bin .add (.t 68) (.t 73)⟩,
                          ⟨some 11, none, .mv true (.t 74)⟩])
                        (.region [
                          ⟨some 75, none, .mv false (.t 13)⟩,
                          ⟨some 76, none, .mv false (.t 1)⟩,
                          ⟨some 77, none, .len false (.t 76)⟩,
                          ⟨some 78, none, .bin .add (.t 75) (.t 77)⟩,
                          ⟨some 12, none, .mv true (.t 78)⟩])))))
                    (.region [
                      ⟨some 79, none, .bin .add (.t 49) (.c (.int .i64 1))⟩,
                      ⟨some 49, none, .mv false (.t 79)⟩])))))))
              (.seq
               (.region [
                 ⟨some 80, none, .mv false (.t 11)⟩,
                 ⟨some 81, none, .mv false (.t 10)⟩,
                 ⟨some 82, none, .mv false (.t 11)⟩,
                 ⟨some 83, none, .sli 1 (.t 81) (some (.t 82)) none none⟩,
                 ⟨some 84, none, .mv false (.t 2)⟩,
                 ⟨some 85, none, .cpy 1 (.t 83) (.t 84)⟩,
                 ⟨some 86, none, .bin .add (.t 80) (.t 85)⟩,
                 ⟨some 11, none, .mv true (.t 86)⟩])
               (.seq
                (.region [
                  ⟨some 87, none, .mv false (.t 3)⟩,
                  ⟨some 88, none, .bin .sub (.t 87) (.c (.int .i64 1))⟩,
                  ⟨some 89, none, .mv false (.c (.int .i64 0))⟩])
                (.block 2
                 (.loop
                  (.seq
                   (.region [
                     ⟨some 90, none, .bin .lss (.t 89) (.t 88)⟩])
                   (.seq
                    (.cond (.t 90)
                     .skip
                     (.exit 2))
                    (.seq
                     (.block 3
                      (.seq
                       (.region [
                         ⟨some 92, none, .mv false (.t 0)⟩,
                         ⟨some 93, none, .mv false (.t 12)⟩,
                         ⟨some 94, none, .sli 1 (.t 92) (some (.t 93)) none none⟩,
                         ⟨some 95, none, .callF 71 [.t 94] []⟩,
                         ⟨some 91, none, .mv true (.t 95)⟩,
                         ⟨some 96, none, .ext false (.t 91) 0⟩,
                         ⟨some 97, none, .ext false (.t 91) 1⟩,
                         ⟨some 14, none, .mv true (.t 96)⟩,
                         ⟨some 15, none, .mv true (.t 97)⟩])
                       (.seq
                        (.region [
                          ⟨some 98, none, .mv false (.t 12)⟩,
                          ⟨some 99, none, .mv false (.t 15)⟩,
                          ⟨some 100, none, .bin .add (.t 98) (.t 99)⟩,
                          ⟨some 16, none, .mv true (.t 100)⟩])
                        (.seq
                         (.draw [
                           ⟨some 101, none, .mv false (.t 11)⟩,
                           ⟨some 102, none, .mv false (.t 10)⟩,
                           ⟨some 103, none, .mv false (.t 11)⟩,
                           ⟨some 104, none, .sli 1 (.t 102) (some (.t 103)) none none⟩,
                           ⟨some 105, none, .mv false (.t 0)⟩,
                           ⟨some 106, none, .mv false (.t 12)⟩,
                           ⟨some 107, none, .mv false (.t 16)⟩,
                           ⟨some 108, none, .sli 1 (.t 105) (some (.t 106)) (some (.t 107)) none⟩,
                           ⟨some 109, none, .cpy 1 (.t 104) (.t 108)⟩,
                           ⟨some 110, none, .bin .add (.t 101) (.t 109)⟩,
                           ⟨some 11, none, .mv true (.t 110)⟩] [])
                         (.seq
                          (.region [
                            ⟨some 111, none, .mv false (.t 11)⟩,
                            ⟨some 112, none, .mv false (.t 10)⟩,
                            ⟨some 113, none, .mv false (.t 11)⟩,
                            ⟨some 114, none, .sli 1 (.t 112) (some (.t 113)) none none⟩,
                            ⟨some 115, none, .mv false (.t 2)⟩,
                            ⟨some 116, none, .cpy 1 (.t 114) (.t 115)⟩,
                            ⟨some 117, none, .bin .add (.t 111) (.t 116)⟩,
                            ⟨some 11, none, .mv true (.t 117)⟩])
                          (.region [
                            ⟨some 118, none, .mv true (.t 16)⟩,
                            ⟨some 12, none, .mv true (.t 118)⟩]))))))
                     (.region [
                       ⟨some 119, none, .bin .add (.t 89) (.c (.int .i64 1))⟩,
                       ⟨some 89, none, .mv false (.t 119)⟩]))))))))))
            (.seq
             (.draw [
               ⟨some 120, none, .mv false (.t 11)⟩,
               ⟨some 121, none, .mv false (.t 10)⟩,
               ⟨some 122, none, .mv false (.t 11)⟩,
               ⟨some 123, none, .sli 1 (.t 121) (some (.t 122)) none none⟩,
               ⟨some 124, none, .mv false (.t 0)⟩,
               ⟨some 125, none, .mv false (.t 12)⟩,
               ⟨some 126, none, .sli 1 (.t 124) (some (.t 125)) none none⟩,
               ⟨some 127, none, .cpy 1 (.t 123) (.t 126)⟩,
               ⟨some 128, none, .bin .add (.t 120) (.t 127)⟩,
               ⟨some 11, none, .mv true (.t 128)⟩] [])
             (.seq
              (.region [
                ⟨some 129, none, .mv false (.t 10)⟩,
                ⟨some 130, none, .mv false (.t 11)⟩,
                ⟨some 131, none, .sli 1 (.t 129) (some (.c (.int .i64 0))) (some (.t 130)) none⟩,
                ⟨some 8, none, .mv true (.t 131)⟩])
              .ret))))))))))⟩
theorem t56r : compF Tryd.prog { rows := [44] } 56 = some p56r := by kernel_rfl
def p17l : PFn :=
  ⟨32, [.t 2, .t 3, .t 4], .seq
    (.region [
      ⟨some 2, none, .mv true (.c (.lst 0 [] true))⟩,
      ⟨some 3, none, .mv true (.c (.int .i64 0))⟩,
      ⟨some 4, none, .mv true (.c (.int .i64 0))⟩])
    (.seq
     (.seq
      (.region [
        ⟨some 9, none, .mv false (.t 0)⟩,
        ⟨some 10, none, .nl 1 4 false [.int .u8 0, .int .u8 0, .int .u8 0, .int .u8 0] [(0, .c (.int .u8 84)), (1, .c (.int .u8 83)), (2, .c (.int .u8 81)), (3, .c (.int .u8 49))]⟩,
        ⟨some 11, none, .cvM (.t 10)⟩,
        ⟨some 12, none, .callF 38 [.t 9, .t 11] []⟩,
        ⟨some 13, none, .un .not (.t 12)⟩])
      (.cond (.t 13)
       (.seq
        (.region [
          ⟨some 2, none, .mv true (.c (.lst 0 [] true))⟩,
          ⟨some 3, none, .mv true (.c (.int .i64 0))⟩,
          ⟨some 4, none, .mv true (.c (.int .i64 3))⟩])
        .ret)
       .skip))
     (.seq
      (.region [
        ⟨some 5, none, .al [.lst 0 [] true]⟩])
      (.seq
       (.region [
         ⟨some 6, none, .al [.int .i64 0]⟩,
         ⟨none, none, .sto 1 (.t 6) (.c (.int .i64 4))⟩])
       (.seq
        (.seq
         (.region [
           ⟨some 14, none, .mv false (.t 0)⟩,
           ⟨some 15, none, .ld 1 false false (.t 6)⟩,
           ⟨some 16, none, .callF 39 [.t 14, .t 15] []⟩])
         (.block 0
          (.rangeF (.t 16) [17, 18] (.seq
           (.region [
             ⟨some 7, none, .mv true (.t 17)⟩])
           (.region [
             ⟨some 8, none, .al [.int .i64 0, .lst 0 [] true]⟩,
             ⟨none, none, .sto 2 (.t 8) (.t 18)⟩])) (.block 1
           (.region [
             ⟨some 19, none, .ld 1 false true (.t 5)⟩,
             ⟨some 20, none, .ld 2 true false (.t 8)⟩,
             ⟨some 21, none, .bsl 2 1 true [.int .i64 0, .lst 0 [] true] [(0, .t 20)] false⟩,
             ⟨some 22, none, .app 2 32 (.t 19) (.t 21)⟩,
             ⟨some 23, none, .mv true (.t 7)⟩,
             ⟨none, none, .sto 1 (.t 5) (.t 22)⟩,
             ⟨none, none, .sto 1 (.t 6) (.t 23)⟩])))))
        (.seq
         (.seq
          (.region [
            ⟨some 24, none, .ld 1 false false (.t 6)⟩,
            ⟨some 25, none, .mv false (.t 0)⟩,
            ⟨some 26, none, .len false (.t 25)⟩,
            ⟨some 27, none, .bin .lss (.t 24) (.t 26)⟩])
          (.cond (.t 27)
           (.seq
            (.draw [
              ⟨some 28, none, .ld 1 false false (.t 5)⟩,
              ⟨some 29, none, .ld 1 false false (.t 6)⟩,
              ⟨some 2, none, .mv true (.t 28)⟩,
              ⟨some 3, none, .mv true (.t 29)⟩,
              ⟨some 4, none, .mv true (.c (.int .i64 3))⟩] [])
            .ret)
           .skip))
         (.seq
          (.draw [
            ⟨some 30, none, .ld 1 false false (.t 5)⟩,
            ⟨some 31, none, .ld 1 false false (.t 6)⟩,
            ⟨some 2, none, .mv true (.t 30)⟩,
            ⟨some 3, none, .mv true (.t 31)⟩,
            ⟨some 4, none, .mv true (.c (.int .i64 0))⟩] [])
          .ret))))))⟩
theorem t17l : compF Tryd.prog { loads := [19] } 17 = some p17l := by kernel_rfl
end Go.Proofs.YtjcjbpbkakfjdaaDoor.E
/- Bytes cloned. -/
namespace Go.Proofs.YtjcjbpbkakfjdaaDoor.E
open Go Go.RowKit Go.Proofs
set_option linter.unusedVariables false
set_option linter.unusedSimpArgs false
theorem clone_ok {s : Nat} {xs : List PV} {o : Bool} {l : List Nat} (hx : xs = l.map u8) (hs : s = 1 ∨ l.length = 0) (hl : l.length ≤ 100000000000000) :
    PSpec Tryd.prog 80 [.lst s xs o] (bV l true) := by
  subst hx
  intro H
  refine spec_ofU t80 (by simp [p80]) ?_
  simp only [p80]
  first | refine pwp_sr ?_ | refine pwp_regionM ?_
  intro K hK
  simp (disch := first | (refine Ok.mk ?_; (try simp only [Lm, La, Lc, Ln, Lt, Ld, Lr, Li, true_or, or_true, true_and, and_true]); omega) | (simp <;> fail) | skip) [runM_nil]
  refine hK _ _ ?_
  clear hK K
  cases l with
  | nil =>
    first | refine pwp_rif ?_ | refine pwp_rifE ?_
    intro K hK
    simp (disch := first | (refine Ok.mk ?_; (try simp only [Lm, La, Lc, Ln, Lt, Ld, Lr, Li, true_or, or_true, true_and, and_true]); omega) | (simp <;> fail) | skip) [runM_nil]
    refine ⟨hK _ _ ?_, hK _ _ ?_⟩ <;> clear hK K
    · refine ifF (by simp (disch := first | (refine Ok.mk ?_; (try simp only [Lm, La, Lc, Ln, Lt, Ld, Lr, Li, true_or, or_true, true_and, and_true]); omega) | (simp <;> fail) | skip) [runM_nil]) (pwp_skip ?_)
      first | refine pwp_sr ?_ | refine pwp_regionM ?_
      intro K hK
      simp (disch := first | (refine Ok.mk ?_; (try simp only [Lm, La, Lc, Ln, Lt, Ld, Lr, Li, true_or, or_true, true_and, and_true]); omega) | (simp <;> fail) | skip) [runM_nil]
      refine hK _ _ ?_
      clear hK K
      refine pwp_ret ⟨.inr rfl, _, _, _, (by simp (disch := first | (refine Ok.mk ?_; (try simp only [Lm, La, Lc, Ln, Lt, Ld, Lr, Li, true_or, or_true, true_and, and_true]); omega) | (simp <;> fail) | skip) [runM_nil, resL]; rfl), .refl _, (by simp (disch := first | (refine Ok.mk ?_; (try simp only [Lm, La, Lc, Ln, Lt, Ld, Lr, Li, true_or, or_true, true_and, and_true]); omega) | (simp <;> fail) | skip) [resV]), rfl, rfl⟩
    · refine ifT (by simp (disch := first | (refine Ok.mk ?_; (try simp only [Lm, La, Lc, Ln, Lt, Ld, Lr, Li, true_or, or_true, true_and, and_true]); omega) | (simp <;> fail) | skip) [runM_nil]) ?_
      first | refine pwp_sr ?_ | refine pwp_regionM ?_
      intro K hK
      simp (disch := first | (refine Ok.mk ?_; (try simp only [Lm, La, Lc, Ln, Lt, Ld, Lr, Li, true_or, or_true, true_and, and_true]); omega) | (simp <;> fail) | skip) [runM_nil]
      refine hK _ _ ?_
      clear hK K
      refine pwp_ret ⟨.inr rfl, _, _, _, (by simp (disch := first | (refine Ok.mk ?_; (try simp only [Lm, La, Lc, Ln, Lt, Ld, Lr, Li, true_or, or_true, true_and, and_true]); omega) | (simp <;> fail) | skip) [runM_nil, resL]; rfl), .refl _, (by simp (disch := first | (refine Ok.mk ?_; (try simp only [Lm, La, Lc, Ln, Lt, Ld, Lr, Li, true_or, or_true, true_and, and_true]); omega) | (simp <;> fail) | skip) [resV]), rfl, rfl⟩
  | cons x l =>
    obtain rfl : s = 1 := by simpa using hs
    rw [Lc] at hl
    first | refine pwp_rif ?_ | refine pwp_rifE ?_
    intro K hK
    simp (disch := first | (refine Ok.mk ?_; (try simp only [Lm, La, Lc, Ln, Lt, Ld, Lr, Li, true_or, or_true, true_and, and_true]); omega) | (simp <;> fail) | skip) [runM_nil]
    refine hK _ _ ?_
    clear hK K
    refine ifF (by simp (disch := first | (refine Ok.mk ?_; (try simp only [Lm, La, Lc, Ln, Lt, Ld, Lr, Li, true_or, or_true, true_and, and_true]); omega) | (simp <;> fail) | skip) [runM_nil]) (pwp_skip ?_)
    first | refine pwp_sr ?_ | refine pwp_regionM ?_
    intro K hK
    simp (disch := first | (refine Ok.mk ?_; (try simp only [Lm, La, Lc, Ln, Lt, Ld, Lr, Li, true_or, or_true, true_and, and_true]); omega) | (simp <;> fail) | skip) [runM_nil]
    refine hK _ _ ?_
    clear hK K
    refine pwp_ret ⟨.inr rfl, _, _, _, (by simp (disch := first | (refine Ok.mk ?_; (try simp only [Lm, La, Lc, Ln, Lt, Ld, Lr, Li, true_or, or_true, true_and, and_true]); omega) | (simp <;> fail) | skip) [runM_nil, resL]; rfl), .refl _, (by simp (disch := first | (refine Ok.mk ?_; (try simp only [Lm, La, Lc, Ln, Lt, Ld, Lr, Li, true_or, or_true, true_and, and_true]); omega) | (simp <;> fail) | skip) [resV]), rfl, rfl⟩
end Go.Proofs.YtjcjbpbkakfjdaaDoor.E
/- Sums over bytes: the table, and what a register comes to. -/
namespace Go.Proofs.YtjcjbpbkakfjdaaDoor.E
open Go Go.RowKit Go.Proofs
set_option linter.unusedVariables false
set_option linter.unusedSimpArgs false
theorem stp_lt {c : Nat} (h : c < 4294967296) : stp c < 4294967296 := by
  unfold stp
  split
  · exact xor_lt32 (by omega) (by omega)
  · omega
theorem turn_ok (c : Nat) (h : c < 4294967296) : PSpec Tryd.prog 45 [.int .u32 c] (.int .u32 (stp c : Nat)) := by
  intro H
  have e : ((c : Int) / 2).toNat = c / 2 := by omega
  have hx : c / 2 ^^^ 3988292384 < 4294967296 := xor_lt32 (by omega) (by omega)
  refine spec_of t45 (by simp [p45]) ?_
  simp only [p45]
  first | refine pwp_sr ?_ | refine pwp_regionM ?_
  intro K hK
  simp (disch := first | (refine Ok.mk ?_; (try simp only [Lm, La, Lc, Ln, Lt, Ld, Lr, Li, true_or, or_true, true_and, and_true]); omega) | (simp <;> fail) | skip) [runM_nil]
  refine hK _ _ ?_
  clear hK K
  by_cases hc : c % 2 = 1
  · first | refine pwp_rif ?_ | refine pwp_rifE ?_
    intro K hK
    simp (disch := first | (refine Ok.mk ?_; (try simp only [Lm, La, Lc, Ln, Lt, Ld, Lr, Li, true_or, or_true, true_and, and_true]); omega) | (simp <;> fail) | skip) [runM_nil, hc]
    refine hK _ _ ?_
    clear hK K
    refine ifT (by simp (disch := first | (refine Ok.mk ?_; (try simp only [Lm, La, Lc, Ln, Lt, Ld, Lr, Li, true_or, or_true, true_and, and_true]); omega) | (simp <;> fail) | skip) [runM_nil]) ?_
    first | refine pwp_sr ?_ | refine pwp_regionM ?_
    intro K hK
    simp (disch := first | (refine Ok.mk ?_; (try simp only [Lm, La, Lc, Ln, Lt, Ld, Lr, Li, true_or, or_true, true_and, and_true]); omega) | (simp <;> fail) | skip) [runM_nil, e]
    refine hK _ _ ?_
    clear hK K
    refine pwp_ret ⟨.inr rfl, _, _, (by simp (disch := first | (refine Ok.mk ?_; (try simp only [Lm, La, Lc, Ln, Lt, Ld, Lr, Li, true_or, or_true, true_and, and_true]); omega) | (simp <;> fail) | skip) [runM_nil, resL, stp, hc]; rfl), .refl _, by simp (disch := first | (refine Ok.mk ?_; (try simp only [Lm, La, Lc, Ln, Lt, Ld, Lr, Li, true_or, or_true, true_and, and_true]); omega) | (simp <;> fail) | skip) [resV, stp, hc], rfl⟩
  · have hc0 : c % 2 = 0 := by omega
    first | refine pwp_rif ?_ | refine pwp_rifE ?_
    intro K hK
    simp (disch := first | (refine Ok.mk ?_; (try simp only [Lm, La, Lc, Ln, Lt, Ld, Lr, Li, true_or, or_true, true_and, and_true]); omega) | (simp <;> fail) | skip) [runM_nil, hc0]
    refine hK _ _ ?_
    clear hK K
    refine ifF (by simp (disch := first | (refine Ok.mk ?_; (try simp only [Lm, La, Lc, Ln, Lt, Ld, Lr, Li, true_or, or_true, true_and, and_true]); omega) | (simp <;> fail) | skip) [runM_nil]) (pwp_skip ?_)
    first | refine pwp_sr ?_ | refine pwp_regionM ?_
    intro K hK
    simp (disch := first | (refine Ok.mk ?_; (try simp only [Lm, La, Lc, Ln, Lt, Ld, Lr, Li, true_or, or_true, true_and, and_true]); omega) | (simp <;> fail) | skip) [runM_nil]
    refine hK _ _ ?_
    clear hK K
    refine pwp_ret ⟨.inr rfl, _, _, (by simp (disch := first | (refine Ok.mk ?_; (try simp only [Lm, La, Lc, Ln, Lt, Ld, Lr, Li, true_or, or_true, true_and, and_true]); omega) | (simp <;> fail) | skip) [runM_nil, resL, stp, hc]; rfl), .refl _, by simp (disch := first | (refine Ok.mk ?_; (try simp only [Lm, La, Lc, Ln, Lt, Ld, Lr, Li, true_or, or_true, true_and, and_true]); omega) | (simp <;> fail) | skip) [resV, stp, hc], rfl⟩
def stps : Nat → Nat → Nat
  | 0, c => c
  | n + 1, c => stp (stps n c)
theorem stps_lt {c : Nat} (h : c < 4294967296) : ∀ n, stps n c < 4294967296
  | 0 => h
  | n + 1 => stp_lt (stps_lt h n)
def tblC (i : Nat) : List PV := ((List.range i).map ent ++ List.replicate (256 - i) 0).map u32
theorem tblC_len {i : Nat} (h : i ≤ 256) : (tblC i).length = 256 := by simp [tblC]; omega
theorem tblC_set {i : Nat} (h : i < 256) : (tblC i).set i (.int .u32 (ent i : Nat)) = tblC (i + 1) := by
  have e1 : PV.int .u32 (ent i : Nat) = u32 (ent i) := rfl
  rw [e1]
  unfold tblC
  rw [← List.map_set]
  congr 1
  have e : 256 - i = (256 - (i + 1)) + 1 := by omega
  rw [List.set_append_right _ _ (by simp), List.length_map, List.length_range, Nat.sub_self, e, List.replicate_succ, List.set_cons_zero, List.range_succ, List.map_append, List.append_assoc]
  rfl
set_option maxRecDepth 4000 in
theorem table_ok : PSpec Tryd.prog 26 [] (.lst 1 (tbl.map u32) false) := by
  intro H
  refine spec_of t26r (by simp [p26r]) ?_
  simp only [p26r]
  first | refine pwp_sr ?_ | refine pwp_regionM ?_
  intro K hK
  simp (disch := first | (refine Ok.mk ?_; (try simp only [Lm, La, Lc, Ln, Lt, Ld, Lr, Li, true_or, or_true, true_and, and_true]); omega) | (simp <;> fail) | skip) [runM_nil]
  refine hK _ _ ?_
  clear hK K
  have e0 : List.replicate 256 (PV.int .u32 0) = tblC 0 := by simp [tblC, -List.reduceReplicate]
  first | refine pwp_sr ?_ | refine pwp_regionM ?_
  intro K hK
  simp (disch := first | (refine Ok.mk ?_; (try simp only [Lm, La, Lc, Ln, Lt, Ld, Lr, Li, true_or, or_true, true_and, and_true]); omega) | (simp <;> fail) | skip) [runM_nil, e0, -List.reduceReplicate]
  intro b h_b
  try simp (disch := first | (refine Ok.mk ?_; (try simp only [Lm, La, Lc, Ln, Lt, Ld, Lr, Li, true_or, or_true, true_and, and_true]); omega) | (simp <;> fail) | skip) [runM_nil, e0, -List.reduceReplicate]
  refine hK _ _ ?_
  clear hK K
  refine pwp_seq ?_
  first | refine pwp_sr ?_ | refine pwp_regionM ?_
  intro K hK
  simp (disch := first | (refine Ok.mk ?_; (try simp only [Lm, La, Lc, Ln, Lt, Ld, Lr, Li, true_or, or_true, true_and, and_true]); omega) | (simp <;> fail) | skip) [runM_nil]
  refine hK _ _ ?_
  clear hK K
  refine pwp_block ?_
  refine pwp_loopK [1, 6, 7] (fun m st H' => ∃ i : Nat, i ≤ 256 ∧ m = 256 - i ∧ H' = (b, tblC i) :: H ∧ st = MS 23 [(1, .row b 0 256 256), (6, .int .i64 256), (7, .int .i64 i)]) (n := 256)
    ⟨_, .refl _, 0, by omega, rfl, rfl, by simp [keepL_MS, keepA, getS]⟩ ?_
  rintro m st _ ⟨i, hi, rfl, rfl, rfl⟩
  have hlen := tblC_len hi
  by_cases hlt : i < 256
  · have hset := tblC_set hlt
    generalize tblC i = T at *
    first | refine pwp_sr ?_ | refine pwp_regionM ?_
    intro K hK
    simp (disch := first | (refine Ok.mk ?_; (try simp only [Lm, La, Lc, Ln, Lt, Ld, Lr, Li, true_or, or_true, true_and, and_true]); omega) | (simp <;> fail) | skip) [runM_nil]
    refine hK _ _ ?_
    clear hK K
    refine pwp_seq (pwp_cT (by simp) (pwp_skip ?_))
    refine pwp_seq (pwp_block ?_)
    first | refine pwp_sr ?_ | refine pwp_regionM ?_
    intro K hK
    simp (disch := first | (refine Ok.mk ?_; (try simp only [Lm, La, Lc, Ln, Lt, Ld, Lr, Li, true_or, or_true, true_and, and_true]); omega) | (simp <;> fail) | skip) [runM_nil]
    refine hK _ _ ?_
    clear hK K
    first | refine pwp_sr ?_ | refine pwp_regionM ?_
    intro K hK
    simp (disch := first | (refine Ok.mk ?_; (try simp only [Lm, La, Lc, Ln, Lt, Ld, Lr, Li, true_or, or_true, true_and, and_true]); omega) | (simp <;> fail) | skip) [runM_nil]
    refine hK _ _ ?_
    clear hK K
    refine pwp_seq (pwp_seq ?_)
    first | refine pwp_sr ?_ | refine pwp_regionM ?_
    intro K hK
    simp (disch := first | (refine Ok.mk ?_; (try simp only [Lm, La, Lc, Ln, Lt, Ld, Lr, Li, true_or, or_true, true_and, and_true]); omega) | (simp <;> fail) | skip) [runM_nil]
    refine hK _ _ ?_
    clear hK K
    refine pwp_block ?_
    refine pwp_loopK [1, 2, 3, 6, 7, 12] (fun m st H' => ∃ j : Nat, j ≤ 8 ∧ m = 8 - j ∧ H' = (b, T) :: H ∧ st = MS 23 [(1, .row b 0 256 256), (2, .int .i64 i), (3, .int .u32 (stps j i : Nat)), (6, .int .i64 256), (7, .int .i64 i), (12, .int .i64 j)]) (n := 8)
      ⟨_, .refl _, 0, by omega, rfl, rfl, by simp [keepL_MS, keepA, getS, stps]⟩ ?_
    rintro m st _ ⟨j, hj, rfl, rfl, rfl⟩
    have hsl := stps_lt (c := i) (by omega) j
    by_cases hj8 : j < 8
    · first | refine pwp_sr ?_ | refine pwp_regionM ?_
      intro K hK
      simp (disch := first | (refine Ok.mk ?_; (try simp only [Lm, La, Lc, Ln, Lt, Ld, Lr, Li, true_or, or_true, true_and, and_true]); omega) | (simp <;> fail) | skip) [runM_nil]
      refine hK _ _ ?_
      clear hK K
      refine pwp_seq (pwp_cT (by simp) (pwp_skip ?_))
      refine pwp_seq (pwp_block ?_)
      first | refine pwp_sr ?_ | refine pwp_regionM ?_
      intro K hK
      simp (disch := first | (refine Ok.mk ?_; (try simp only [Lm, La, Lc, Ln, Lt, Ld, Lr, Li, true_or, or_true, true_and, and_true]); omega) | (simp <;> fail) | skip) [runM_nil]
      refine useP (turn_ok _ hsl) ?_
      simp (disch := first | (refine Ok.mk ?_; (try simp only [Lm, La, Lc, Ln, Lt, Ld, Lr, Li, true_or, or_true, true_and, and_true]); omega) | (simp <;> fail) | skip) [runM_nil]
      refine hK _ _ ?_
      clear hK K
      first | refine pwp_sr ?_ | refine pwp_regionM ?_
      intro K hK
      simp (disch := first | (refine Ok.mk ?_; (try simp only [Lm, La, Lc, Ln, Lt, Ld, Lr, Li, true_or, or_true, true_and, and_true]); omega) | (simp <;> fail) | skip) [runM_nil]
      refine hK _ _ ?_
      clear hK K
      exact ⟨8 - (j + 1), by omega, _, .refl _, j + 1, by omega, rfl, rfl, by simp [keepL_MS, keepA, getS, stps]⟩
    · obtain rfl : j = 8 := by omega
      first | refine pwp_sr ?_ | refine pwp_regionM ?_
      intro K hK
      simp (disch := first | (refine Ok.mk ?_; (try simp only [Lm, La, Lc, Ln, Lt, Ld, Lr, Li, true_or, or_true, true_and, and_true]); omega) | (simp <;> fail) | skip) [runM_nil]
      refine hK _ _ ?_
      clear hK K
      refine pwp_seq (pwp_cF (by simp) (pwp_exit ?_))
      have he : stps 8 i = ent i := rfl
      have hsc := set_cell (cs := T) (i := i) (v := .int .u32 (ent i : Nat)) (by omega)
      first | refine pwp_sr ?_ | refine pwp_regionM ?_
      intro K hK
      simp (disch := first | (refine Ok.mk ?_; (try simp only [Lm, La, Lc, Ln, Lt, Ld, Lr, Li, true_or, or_true, true_and, and_true]); omega) | (simp <;> fail) | skip) [runM_nil, he, hlen, hsc, hset]
      refine hK _ _ ?_
      clear hK K
      first | refine pwp_sr ?_ | refine pwp_regionM ?_
      intro K hK
      simp (disch := first | (refine Ok.mk ?_; (try simp only [Lm, La, Lc, Ln, Lt, Ld, Lr, Li, true_or, or_true, true_and, and_true]); omega) | (simp <;> fail) | skip) [runM_nil]
      refine hK _ _ ?_
      clear hK K
      exact ⟨256 - (i + 1), by omega, _, .refl _, i + 1, by omega, rfl, rfl, by simp [keepL_MS, keepA, getS]⟩
  · obtain rfl : i = 256 := by omega
    first | refine pwp_sr ?_ | refine pwp_regionM ?_
    intro K hK
    simp (disch := first | (refine Ok.mk ?_; (try simp only [Lm, La, Lc, Ln, Lt, Ld, Lr, Li, true_or, or_true, true_and, and_true]); omega) | (simp <;> fail) | skip) [runM_nil]
    refine hK _ _ ?_
    clear hK K
    refine pwp_seq (pwp_cF (by simp) (pwp_exit ?_))
    refine pwp_ro h_b ?_
    have hr : rowL 1 false (tblC 256) 256 256 = some (.lst 1 (tbl.map u32) false) := by
      have e1 : tblC 256 = tbl.map u32 := by simp [tblC, tbl]
      rw [e1, rowL_plain (lendL_map (fun a => rfl) tbl) (by rw [Lm]; exact tbl_length) (by omega)]
    first | refine pwp_sr ?_ | refine pwp_regionM ?_
    intro K hK
    simp (disch := first | (refine Ok.mk ?_; (try simp only [Lm, La, Lc, Ln, Lt, Ld, Lr, Li, true_or, or_true, true_and, and_true]); omega) | (simp <;> fail) | skip) [runM_nil, hr]
    refine hK _ _ ?_
    clear hK K
    refine pwp_ret ⟨.inr rfl, _, _, (by simp (disch := first | (refine Ok.mk ?_; (try simp only [Lm, La, Lc, Ln, Lt, Ld, Lr, Li, true_or, or_true, true_and, and_true]); omega) | (simp <;> fail) | skip) [runM_nil, resL]; rfl), .refl _, by simp (disch := first | (refine Ok.mk ?_; (try simp only [Lm, La, Lc, Ln, Lt, Ld, Lr, Li, true_or, or_true, true_and, and_true]); omega) | (simp <;> fail) | skip) [resV], rfl⟩
end Go.Proofs.YtjcjbpbkakfjdaaDoor.E
/- slices.Grow of a nil slice, over the model itself. -/
namespace Go.Proofs.YtjcjbpbkakfjdaaDoor.E
open Go Go.RowKit Go.Proofs
set_option linter.unusedVariables false
set_option linter.unusedSimpArgs false
theorem growNil_run {P : Program} {t ti ty e : TypeId} {i : TypeInfo} {z : Value} {k : IntKind} (ht : P.underlying t = some (.slice e)) (hti : P.underlying ti = some (.int k)) (hi : P.info? e = some i) (hz : i.zero = some z)
    (hzs : z.cells.size = i.size) (hsz : 0 < i.size) (hby : 1 ≤ i.bytes) (A : Option Addr) (n : Nat) (hn : 0 < n) (hb : n * i.bytes ≤ 140737488355328) (w : World) :
    ∃ cap rest, n ≤ cap ∧ cap ≤ maxLen ∧ rest.size = cap * i.size ∧ (Builtin.append_ #[t, ti] ty #[.slice A 0 0, .int .i64 n]).run P w = .ok (.slice (some ⟨w.heap.size, 0, none⟩) n cap) (w.drew.alloc (.cells rest e)) := by
  have hle : n ≤ 140737488355328 := Nat.le_trans (Nat.le_mul_of_pos_right _ hby) hb
  have h63 : n ≤ maxLen := by simp only [maxLen]; omega
  have hw : IntKind.i64.wrap (n : Int) = n := by rw [IntKind.wrap_i64]; omega
  have hneg : ¬ ((n : Int) < 0) := by omega
  have hbig : ¬ (281474976710656 < (n : Int) * (i.bytes : Int)) := by rw [← Int.natCast_mul]; omega
  have hcapn : ¬ (0 + n ≤ 0) := by omega
  have h63' : ¬ (9223372036854775807 < (((0 : Nat) : Int) + (n : Int))) := by simp only [maxLen] at h63; omega
  have hfit := growslice_fits (need := n) (old := 0) (bytes := i.bytes) (by omega) hb
  have h48' : ¬ (281474976710656 < Builtin.nextslicecap (0 + n) 0 * i.bytes) := by rw [Nat.zero_add]; omega
  have hsn : i.size ≠ 0 := by omega
  have hmz : ¬ (n * i.size = 0) := Nat.mul_ne_zero (by omega) hsn
  have hfc : (Builtin.firstCells i.size 0 (.slice A 0 0)).run P w.drew = .ok #[] w.drew := by cases A <;> simp [Builtin.firstCells, loadCells, loadCellsFrom]
  refine ⟨grownCap w n 0 e, Builtin.zeroCells z.cells n ++ Builtin.zeroCells z.cells (grownCap w n 0 e - n), grownCap_ge _ _ _ _, grownCap_le_maxLen _ _ _ _ h63, ?_, ?_⟩
  · have := grownCap_ge w n 0 e
    rw [Array.size_append, size_zeroCells, size_zeroCells, hzs, ← Nat.add_mul]
    congr 1
    omega
  · simp only [Nat.zero_add] at hcapn h63' h48'
    have hn0 : n ≠ 0 := by omega
    simp [Builtin.append_, run_underlying ht, run_underlying hti, sizeOf, typeInfo, zeroValue, hi, hz, asInt, asIntOf, hw, hneg, hbig, h48', Question.forced, newRow, grownCap, hmz, hn0, hfc]
    omega
theorem wp_growNil {P : Program} {ops : Array Oper} {rest' : List Oper} {o : Oper} {a : Act} {W : World} {Q : Exit → Act → World → Prop} (hgd : o.guard = none) (s x : Operand) (t ti e : TypeId) {i : TypeInfo} {z : Value} {k : IntKind}
    (ho : o.op = .call { callee := .builtin .append, args := #[s, x], argTypes := #[t, ti] }) (ht : P.underlying t = some (.slice e)) (hti : P.underlying ti = some (.int k)) (hi : P.info? e = some i) (hz : i.zero = some z)
    (hzs : z.cells.size = i.size) (hsz : 0 < i.size) (hby : 1 ≤ i.bytes) (A : Option Addr) (n : Nat) (hn : 0 < n) (hb : n * i.bytes ≤ 140737488355328) (hs : a.eval s = .slice A 0 0) (hx : a.eval x = .int .i64 n)
    (h : ∀ cap rest, n ≤ cap → cap ≤ maxLen → rest.size = cap * i.size → wpList P ops Q rest' (a.put o.dst (.slice (some ⟨W.heap.size, 0, none⟩) n cap)) (W.drew.alloc (.cells rest e))) : wpList P ops Q (o :: rest') a W := by
  obtain ⟨cap, rest, k1, k2, k3, hr1⟩ := growNil_run (ty := o.type) ht hti hi hz hzs hsz hby A n hn hb W
  refine wpList_plain hgd fun K hK => ?_
  unfold Oper.wp execOp
  simp only [ho, resolve, invoke, builtin, Sem.run_bind, Sem.run_pure, Result.andThen_ok, List.map_toArray, List.map_cons, List.map_nil, hs, hx, hr1]
  exact hK _ _ (h cap rest k1 k2 k3)
theorem slice_len {P : Program} {t e : TypeId} {i : TypeInfo} (ht : P.underlying t = some (.slice e)) (hi : P.info? e = some i) (A : Option Addr) (n c : Nat) (hc : n ≤ c) :
    ∀ W : World, (Instr.slice t (.slice A n c) none (some (.int .i64 0)) none).run P W = .ok (.slice A 0 c) W := by
  intro W
  have hel : P.elem t = e := by simp [Program.elem, ht]
  have hu : P.underlying t = some (.slice (P.elem t)) := by rw [hel]; exact ht
  have ha : (A.map fun x => x.add 0) = A := by cases A <;> simp [Addr.add]
  rw [run_slice_h W t A n c hu .i64 0 (by omega) (by omega), hel]
  simp [sizeOf, typeInfo, hi, sliced, Result.andThen, ha]
theorem grow_ok (n : Nat) (hn : n ≤ 100000000000000) : PSpec Tryd.prog 51 [.lst 0 [] true, .int .i64 n] (.lst 1 [] true) := by
  refine spec_step (by kernel_rfl) ?_
  intro out w g vals hw hV
  obtain ⟨v, vs, e1, hv, v2, vs2, e2, hv2, e3⟩ := hV
  subst e2 e3
  obtain ⟨A, cap, rfl, c1, c2, c3, c4⟩ := hv
  obtain rfl : cap = 0 := by
    by_cases h : ([] : List PV).length < cap
    · exact absurd (c4 rfl rfl h).1 (by omega)
    · simpa using h
  cases hv2
  obtain rfl : vals = #[.slice A 0 0, .int .i64 n] := by cases vals; simp_all
  have hinfo : (Tryd.prog.info? 5).map (fun i => (i.zero, i.size, i.bytes)) = some (some (.int .u8 0), 1, 1) := by kernel_rfl
  obtain ⟨i, hi, hzz⟩ := Option.map_eq_some_iff.1 hinfo
  simp only [Prod.mk.injEq] at hzz
  obtain ⟨hz0, hz1, hz2⟩ := hzz
  have c1 : decide ((n : Int) < 0) = false := decide_eq_false (by omega)
  have e1 : IntKind.i64.wrap (n : Int) = n := by rw [IntKind.wrap_i64]; omega
  have hcap : ∀ W : World, (Instr.slice 23 (.slice A 0 0) none (some (.int .i64 0)) none).run Tryd.prog W = .ok (.slice A 0 0) W := slice_len Tryd.underlying23 hi A 0 0 (Nat.le_refl _)
  by_cases hp : 0 < n
  · have c2 : decide (0 < (n : Int)) = true := decide_eq_true (by omega)
    go_enter Tryd.func51, Tryd.ntmps51
    go_wp2_with (first | (at_builtin; refine wp_growNil rfl (.tmp 20) (.tmp 21) 23 3 5 rfl Tryd.underlying23 Tryd.underlying3 hi hz0 (by rw [hz1]; rfl) (by omega) (by omega) A n hp (by rw [hz2]; omega) rfl rfl ?_; intro cap rest k1 k2 k3; have hcut := slice_len Tryd.underlying23 hi (some ⟨w.heap.size, 0, none⟩) n cap k1))
    go_ret
    have hS : Step0 [] w g (w.drew.alloc (.cells rest 5)) (upd g w.heap.size (.tail 0)) := Step0.alloc (out := out) (tk := []) (fz := (0, 0)) hw rfl rfl rfl rfl (by simp) (fun f hf => by cases hf; exact ⟨rfl, Nat.zero_le _⟩)
    have ht : ∀ b ∈ toks (.lst 1 [] true) (.slice (some ⟨w.heap.size, 0, none⟩) 0 cap), b = w.heap.size := fun b hb => by
      rw [toks_lst (n := 0) rfl] at hb
      split at hb
      · simpa using hb
      · cases hb
    refine ⟨.slice (some ⟨w.heap.size, 0, none⟩) 0 cap, rfl, upd g w.heap.size (.tail 0), ⟨hS, ?_, fun b => ?_, fun b hb => .inr (by rw [ht b hb]; exact Nat.le_refl _)⟩⟩
    · refine ⟨_, cap, rfl, Nat.zero_le _, k2, .inl rfl, fun _ _ hlt => ⟨by omega, w.heap.size, rest, _, rfl, heap_alloc_new w.drew _, by rw [upd_same]; rfl, by rw [k3, hz1]; omega⟩⟩
    · rw [toks_lst (n := 0) rfl]
      exact count_one _ _ _
  · obtain rfl : n = 0 := by omega
    go_enter Tryd.func51, Tryd.ntmps51
    go_wp2
    go_ret
    refine ⟨_, rfl, g, Step.same hw ⟨A, 0, rfl, Nat.le_refl _, Nat.zero_le _, .inl rfl, fun _ _ h => absurd h (by simp)⟩ (by cases A <;> simp [toks])⟩
end Go.Proofs.YtjcjbpbkakfjdaaDoor.E
/- Sums over bytes: sealed, and opened. -/
namespace Go.Proofs.YtjcjbpbkakfjdaaDoor.E
open Go Go.RowKit Go.Proofs
set_option linter.unusedVariables false
set_option linter.unusedSimpArgs false
def rowsV (ls : List (Nat × List Nat)) : List PV := ls.map fun p => .lst p.1 (p.2.map u8) false
def flat (ls : List (Nat × List Nat)) (i : Nat) : List Nat := (ls.take i).flatMap (·.2)
theorem flat_succ {ls : List (Nat × List Nat)} {i : Nat} (h : i < ls.length) : flat ls (i + 1) = flat ls i ++ ls[i].2 := by
  rw [flat, List.take_succ_eq_append_getElem h, List.flatMap_append]
  simp [flat]
theorem flat_le {ls : List (Nat × List Nat)} (i : Nat) : (flat ls i).length ≤ (ls.flatMap (·.2)).length := by
  have h : ls.flatMap (·.2) = flat ls i ++ (ls.drop i).flatMap (·.2) := by rw [flat, ← List.flatMap_append, List.take_append_drop]
  rw [h, List.length_append]
  omega
theorem flat_all (ls : List (Nat × List Nat)) : flat ls ls.length = ls.flatMap (·.2) := by rw [flat, List.take_length]
set_option maxRecDepth 4000 in
theorem concat_ok {es : List PV} {o : Bool} (ls : List (Nat × List Nat)) (he : es = rowsV ls) (hs : ∀ p ∈ ls, p.1 = 1 ∨ p.2.length = 0) (hn : ls.length ≤ 1000000) (hl : (ls.flatMap (·.2)).length ≤ 100000000000000) :
    PSpec Tryd.prog 32 [.lst 1 es o] (bV (ls.flatMap (·.2)) true) := by
  intro H
  have hel : es.length = ls.length := by rw [he, rowsV, Lm]
  have hge : ∀ i (h : i < ls.length), es[i]? = some (.lst ls[i].1 (ls[i].2.map u8) false) := fun i h => by rw [he, rowsV, List.getElem?_map, List.getElem?_eq_getElem h]; rfl
  clear he
  refine spec_of t32t (by simp [p32t]) ?_
  simp only [p32t]
  first | refine pwp_sr ?_ | refine pwp_regionM ?_
  intro K hK
  simp (disch := first | (refine Ok.mk ?_; (try simp only [Lm, La, Lc, Ln, Lt, Ld, Lr, Li, true_or, or_true, true_and, and_true]); omega) | (simp <;> fail) | skip) [runM_nil]
  refine hK _ _ ?_
  clear hK K
  first | refine pwp_sr ?_ | refine pwp_regionM ?_
  intro K hK
  simp (disch := first | (refine Ok.mk ?_; (try simp only [Lm, La, Lc, Ln, Lt, Ld, Lr, Li, true_or, or_true, true_and, and_true]); omega) | (simp <;> fail) | skip) [runM_nil]
  refine hK _ _ ?_
  clear hK K
  refine pwp_seq (pwp_seq ?_)
  first | refine pwp_sr ?_ | refine pwp_regionM ?_
  intro K hK
  simp (disch := first | (refine Ok.mk ?_; (try simp only [Lm, La, Lc, Ln, Lt, Ld, Lr, Li, true_or, or_true, true_and, and_true]); omega) | (simp <;> fail) | skip) [runM_nil, hel]
  refine hK _ _ ?_
  clear hK K
  refine pwp_block ?_
  refine pwp_loopK [0, 3, 9, 10, 11] (fun m st H' => ∃ i : Nat, i ≤ ls.length ∧ m = ls.length - i ∧ H' = H ∧ st = MS 36 [(0, .lst 1 es o), (3, .int .i64 (flat ls i).length), (9, .lst 1 es false), (10, .int .i64 ls.length), (11, .int .i64 i)]) (n := ls.length)
    ⟨_, .refl _, 0, Nat.zero_le _, rfl, rfl, by simp [keepL_MS, keepA, getS, flat]⟩ ?_
  rintro m st H' ⟨i, hi, rfl, rfl, rfl⟩
  by_cases hlt : i < ls.length
  · have hg := hge i hlt
    have hf := flat_succ hlt
    have hfl := flat_le (ls := ls) (i + 1)
    have hfl2 := congrArg List.length hf
    rw [La] at hfl2
    generalize ls[i] = q at *
    first | refine pwp_sr ?_ | refine pwp_regionM ?_
    intro K hK
    simp (disch := first | (refine Ok.mk ?_; (try simp only [Lm, La, Lc, Ln, Lt, Ld, Lr, Li, true_or, or_true, true_and, and_true]); omega) | (simp <;> fail) | skip) [runM_nil, hel]
    refine hK _ _ ?_
    clear hK K
    refine pwp_seq (pwp_cT (by simp) (pwp_skip ?_))
    refine pwp_seq (pwp_block ?_)
    first | refine pwp_sr ?_ | refine pwp_regionM ?_
    intro K hK
    simp (disch := first | (refine Ok.mk ?_; (try simp only [Lm, La, Lc, Ln, Lt, Ld, Lr, Li, true_or, or_true, true_and, and_true]); omega) | (simp <;> fail) | skip) [runM_nil, hg, hel]
    refine hK _ _ ?_
    clear hK K
    first | refine pwp_sr ?_ | refine pwp_regionM ?_
    intro K hK
    simp (disch := first | (refine Ok.mk ?_; (try simp only [Lm, La, Lc, Ln, Lt, Ld, Lr, Li, true_or, or_true, true_and, and_true]); omega) | (simp <;> fail) | skip) [runM_nil]
    refine hK _ _ ?_
    clear hK K
    first | refine pwp_rif ?_ | refine pwp_rifE ?_
    intro K hK
    simp (disch := first | (refine Ok.mk ?_; (try simp only [Lm, La, Lc, Ln, Lt, Ld, Lr, Li, true_or, or_true, true_and, and_true]); omega) | (simp <;> fail) | skip) [runM_nil]
    refine hK _ _ ?_
    clear hK K
    refine ifF (by simp (disch := first | (refine Ok.mk ?_; (try simp only [Lm, La, Lc, Ln, Lt, Ld, Lr, Li, true_or, or_true, true_and, and_true]); omega) | (simp <;> fail) | skip) [runM_nil]) (pwp_skip ?_)
    first | refine pwp_sr ?_ | refine pwp_regionM ?_
    intro K hK
    simp (disch := first | (refine Ok.mk ?_; (try simp only [Lm, La, Lc, Ln, Lt, Ld, Lr, Li, true_or, or_true, true_and, and_true]); omega) | (simp <;> fail) | skip) [runM_nil]
    refine hK _ _ ?_
    clear hK K
    exact ⟨ls.length - (i + 1), by omega, _, .refl _, i + 1, by omega, rfl, rfl, by simp [keepL_MS, keepA, getS, hfl2]⟩
  · obtain rfl : i = ls.length := by omega
    first | refine pwp_sr ?_ | refine pwp_regionM ?_
    intro K hK
    simp (disch := first | (refine Ok.mk ?_; (try simp only [Lm, La, Lc, Ln, Lt, Ld, Lr, Li, true_or, or_true, true_and, and_true]); omega) | (simp <;> fail) | skip) [runM_nil, hel]
    refine hK _ _ ?_
    clear hK K
    refine pwp_seq (pwp_cF (by simp) (pwp_exit ?_))
    have hfa := flat_all ls
    generalize hF : ls.flatMap (·.2) = F at *
    rw [hfa]
    first | refine pwp_sr ?_ | refine pwp_regionM ?_
    intro K hK
    simp (disch := first | (refine Ok.mk ?_; (try simp only [Lm, La, Lc, Ln, Lt, Ld, Lr, Li, true_or, or_true, true_and, and_true]); omega) | (simp <;> fail) | skip) [runM_nil]
    refine useP (grow_ok _ hl) ?_
    simp (disch := first | (refine Ok.mk ?_; (try simp only [Lm, La, Lc, Ln, Lt, Ld, Lr, Li, true_or, or_true, true_and, and_true]); omega) | (simp <;> fail) | skip) [runM_nil]
    refine hK _ _ ?_
    clear hK K
    refine pwp_seq (pwp_seq ?_)
    first | refine pwp_sr ?_ | refine pwp_regionM ?_
    intro K hK
    simp (disch := first | (refine Ok.mk ?_; (try simp only [Lm, La, Lc, Ln, Lt, Ld, Lr, Li, true_or, or_true, true_and, and_true]); omega) | (simp <;> fail) | skip) [runM_nil, hel]
    refine hK _ _ ?_
    clear hK K
    refine pwp_block ?_
    refine pwp_loopK [6, 25, 26, 27] (fun m st H2 => ∃ i : Nat, i ≤ ls.length ∧ m = ls.length - i ∧ H2 = H' ∧ st = MS 36 [(6, bV (flat ls i) true), (25, .lst 1 es false), (26, .int .i64 ls.length), (27, .int .i64 i)]) (n := ls.length)
      ⟨_, .refl _, 0, Nat.zero_le _, rfl, rfl, by simp [keepL_MS, keepA, getS, flat]⟩ ?_
    clear hlt hi
    rintro m st _ ⟨i, hi, rfl, rfl, rfl⟩
    by_cases hlt : i < ls.length
    · have hg := hge i hlt
      have hsi := hs _ (List.getElem_mem hlt)
      have hf := flat_succ hlt
      have hfl := flat_le (ls := ls) (i + 1)
      rw [hF] at hfl
      have hfl2 := congrArg List.length hf
      rw [La] at hfl2
      generalize ls[i] = q at *
      first | refine pwp_sr ?_ | refine pwp_regionM ?_
      intro K hK
      simp (disch := first | (refine Ok.mk ?_; (try simp only [Lm, La, Lc, Ln, Lt, Ld, Lr, Li, true_or, or_true, true_and, and_true]); omega) | (simp <;> fail) | skip) [runM_nil, hel]
      refine hK _ _ ?_
      clear hK K
      refine pwp_seq (pwp_cT (by simp) (pwp_skip ?_))
      refine pwp_seq (pwp_block ?_)
      first | refine pwp_sr ?_ | refine pwp_regionM ?_
      intro K hK
      simp (disch := first | (refine Ok.mk ?_; (try simp only [Lm, La, Lc, Ln, Lt, Ld, Lr, Li, true_or, or_true, true_and, and_true]); omega) | (simp <;> fail) | skip) [runM_nil, hg, hel]
      refine hK _ _ ?_
      clear hK K
      first | refine pwp_sr ?_ | refine pwp_regionM ?_
      intro K hK
      simp (disch := first | (refine Ok.mk ?_; (try simp only [Lm, La, Lc, Ln, Lt, Ld, Lr, Li, true_or, or_true, true_and, and_true]); omega) | (simp <;> fail) | skip) [runM_nil]
      refine hK _ _ ?_
      clear hK K
      first | refine pwp_sr ?_ | refine pwp_regionM ?_
      intro K hK
      simp (disch := first | (refine Ok.mk ?_; (try simp only [Lm, La, Lc, Ln, Lt, Ld, Lr, Li, true_or, or_true, true_and, and_true]); omega) | (simp <;> fail) | skip) [runM_nil]
      refine hK _ _ ?_
      clear hK K
      exact ⟨ls.length - (i + 1), by omega, _, .refl _, i + 1, by omega, rfl, rfl, by simp [keepL_MS, keepA, getS, hf]⟩
    · obtain rfl : i = ls.length := by omega
      first | refine pwp_sr ?_ | refine pwp_regionM ?_
      intro K hK
      simp (disch := first | (refine Ok.mk ?_; (try simp only [Lm, La, Lc, Ln, Lt, Ld, Lr, Li, true_or, or_true, true_and, and_true]); omega) | (simp <;> fail) | skip) [runM_nil, hel]
      refine hK _ _ ?_
      clear hK K
      refine pwp_seq (pwp_cF (by simp) (pwp_exit ?_))
      rw [hfa]
      first | refine pwp_sr ?_ | refine pwp_regionM ?_
      intro K hK
      simp (disch := first | (refine Ok.mk ?_; (try simp only [Lm, La, Lc, Ln, Lt, Ld, Lr, Li, true_or, or_true, true_and, and_true]); omega) | (simp <;> fail) | skip) [runM_nil]
      refine hK _ _ ?_
      clear hK K
      refine pwp_ret ⟨.inr rfl, _, _, (by simp (disch := first | (refine Ok.mk ?_; (try simp only [Lm, La, Lc, Ln, Lt, Ld, Lr, Li, true_or, or_true, true_and, and_true]); omega) | (simp <;> fail) | skip) [runM_nil, resL]; rfl), .refl _, by simp (disch := first | (refine Ok.mk ?_; (try simp only [Lm, La, Lc, Ln, Lt, Ld, Lr, Li, true_or, or_true, true_and, and_true]); omega) | (simp <;> fail) | skip) [resV], rfl⟩
end Go.Proofs.YtjcjbpbkakfjdaaDoor.E
/- Sums over bytes: what is sealed, and opened. -/
namespace Go.Proofs.YtjcjbpbkakfjdaaDoor.E
open Go Go.RowKit Go.Proofs
set_option linter.unusedVariables false
set_option linter.unusedSimpArgs false
def nxt (t : List Nat) (c x : Nat) : Nat := t.getD ((c % 256) ^^^ x) 0 ^^^ (c / 256)
theorem mor_cons (t : List Nat) (c x : Nat) (b : List Nat) : mor t c (x :: b) = mor t (nxt t c x) b := rfl
theorem mor_drop {t b : List Nat} {c i : Nat} (h : i < b.length) : mor t c (b.drop i) = mor t (nxt t c b[i]) (b.drop (i + 1)) := by
  rw [List.drop_eq_getElem_cons h, mor_cons]
set_option maxRecDepth 4000 in
theorem more_ok {t : List Nat} (ht : t.length = 256) (ht2 : ∀ x ∈ t, x < 4294967296) {ot o : Bool} {s : Nat} {xs : List PV} {b : List Nat} (hx : xs = b.map u8) (hs : s = 1 ∨ b.length = 0) (hw : ∀ x ∈ b, x < 256) (hl : b.length ≤ 100000000000000) (c : Nat) (hc : c < 4294967296) :
    PSpec Tryd.prog 69 [.lst 1 (t.map u32) ot, .int .u32 c, .lst s xs o] (.tup [.int .u32 (mor t c b : Nat), .int .i64 0]) := by
  subst hx
  intro H
  refine spec_of t69 (by simp [p69]) ?_
  simp only [p69]
  first | refine pwp_sr ?_ | refine pwp_regionM ?_
  intro K hK
  simp (disch := first | (refine Ok.mk ?_; (try simp only [Lm, La, Lc, Ln, Lt, Ld, Lr, Li, true_or, or_true, true_and, and_true]); omega) | (simp <;> fail) | skip) [runM_nil]
  refine hK _ _ ?_
  clear hK K
  first | refine pwp_rif ?_ | refine pwp_rifE ?_
  intro K hK
  simp (disch := first | (refine Ok.mk ?_; (try simp only [Lm, La, Lc, Ln, Lt, Ld, Lr, Li, true_or, or_true, true_and, and_true]); omega) | (simp <;> fail) | skip) [runM_nil, ht]
  refine hK _ _ ?_
  clear hK K
  refine ifF (by simp (disch := first | (refine Ok.mk ?_; (try simp only [Lm, La, Lc, Ln, Lt, Ld, Lr, Li, true_or, or_true, true_and, and_true]); omega) | (simp <;> fail) | skip) [runM_nil]) (pwp_skip ?_)
  refine pwp_seq (pwp_seq ?_)
  first | refine pwp_sr ?_ | refine pwp_regionM ?_
  intro K hK
  simp (disch := first | (refine Ok.mk ?_; (try simp only [Lm, La, Lc, Ln, Lt, Ld, Lr, Li, true_or, or_true, true_and, and_true]); omega) | (simp <;> fail) | skip) [runM_nil]
  refine hK _ _ ?_
  clear hK K
  refine pwp_block ?_
  refine pwp_loopK [0, 1, 13, 14, 15] (fun m st H' => ∃ i d : Nat, i ≤ b.length ∧ m = b.length - i ∧ d < 4294967296 ∧ mor t d (b.drop i) = mor t c b ∧ H' = H ∧ st = MS 31 [(0, .lst 1 (t.map u32) ot), (1, .int .u32 d), (13, .lst s (b.map u8) false), (14, .int .i64 b.length), (15, .int .i64 i)]) (n := b.length)
    ⟨_, .refl _, 0, c, Nat.zero_le _, rfl, hc, rfl, rfl, by simp [keepL_MS, keepA, getS]⟩ ?_
  rintro m st H' ⟨i, d, hi, rfl, hd, hm, rfl, rfl⟩
  by_cases hlt : i < b.length
  · obtain rfl : s = 1 := by omega
    have hxb : b[i] < 256 := hw _ (List.getElem_mem hlt)
    have hgx : b[i]? = some b[i] := List.getElem?_eq_getElem hlt
    rw [mor_drop hlt] at hm
    generalize b[i] = x at *
    have hk : (d % 256) ^^^ x < 256 := xor_lt8 (by omega) hxb
    have hgt : t[(d % 256) ^^^ x]? = some (t.getD ((d % 256) ^^^ x) 0) := by rw [List.getD_eq_getElem?_getD, List.getElem?_eq_getElem (by omega)]; rfl
    have htl : t.getD ((d % 256) ^^^ x) 0 < 4294967296 := getD_lt ht2 (by omega)
    have hnx : nxt t d x = t.getD ((d % 256) ^^^ x) 0 ^^^ (d / 256) := rfl
    have e1 : ((d : Int) % 256).toNat = d % 256 := by omega
    have e2 : ((d : Int) / 256).toNat = d / 256 := by omega
    have hnl : nxt t d x < 4294967296 := nxt_lt ht2 d x hd
    generalize t.getD ((d % 256) ^^^ x) 0 = y at *
    first | refine pwp_sr ?_ | refine pwp_regionM ?_
    intro K hK
    simp (disch := first | (refine Ok.mk ?_; (try simp only [Lm, La, Lc, Ln, Lt, Ld, Lr, Li, true_or, or_true, true_and, and_true]); omega) | (simp <;> fail) | skip) [runM_nil]
    refine hK _ _ ?_
    clear hK K
    refine pwp_seq (pwp_cT (by simp) (pwp_skip ?_))
    refine pwp_seq (pwp_block ?_)
    first | refine pwp_sr ?_ | refine pwp_regionM ?_
    intro K hK
    simp (disch := first | (refine Ok.mk ?_; (try simp only [Lm, La, Lc, Ln, Lt, Ld, Lr, Li, true_or, or_true, true_and, and_true]); omega) | (simp <;> fail) | skip) [runM_nil, hgx]
    refine hK _ _ ?_
    clear hK K
    have hkt : (d % 256) ^^^ x < t.length := by omega
    first | refine pwp_sr ?_ | refine pwp_regionM ?_
    intro K hK
    simp (disch := first | (refine Ok.mk ?_; (try simp only [Lm, La, Lc, Ln, Lt, Ld, Lr, Li, true_or, or_true, true_and, and_true]); omega) | (simp <;> fail) | skip) [runM_nil, wm_u8, e1, e2, hgt, ht, hk]
    refine hK _ _ ?_
    clear hK K
    first | refine pwp_sr ?_ | refine pwp_regionM ?_
    intro K hK
    simp (disch := first | (refine Ok.mk ?_; (try simp only [Lm, La, Lc, Ln, Lt, Ld, Lr, Li, true_or, or_true, true_and, and_true]); omega) | (simp <;> fail) | skip) [runM_nil]
    refine hK _ _ ?_
    clear hK K
    exact ⟨b.length - (i + 1), by omega, _, .refl _, i + 1, nxt t d x, by omega, rfl, hnl, hm, rfl, by simp [keepL_MS, keepA, getS, hnx]⟩
  · obtain rfl : i = b.length := by omega
    rw [List.drop_length] at hm
    first | refine pwp_sr ?_ | refine pwp_regionM ?_
    intro K hK
    simp (disch := first | (refine Ok.mk ?_; (try simp only [Lm, La, Lc, Ln, Lt, Ld, Lr, Li, true_or, or_true, true_and, and_true]); omega) | (simp <;> fail) | skip) [runM_nil]
    refine hK _ _ ?_
    clear hK K
    refine pwp_seq (pwp_cF (by simp) (pwp_exit ?_))
    first | refine pwp_sr ?_ | refine pwp_regionM ?_
    intro K hK
    simp (disch := first | (refine Ok.mk ?_; (try simp only [Lm, La, Lc, Ln, Lt, Ld, Lr, Li, true_or, or_true, true_and, and_true]); omega) | (simp <;> fail) | skip) [runM_nil]
    refine hK _ _ ?_
    clear hK K
    rw [← hm]
    refine pwp_ret ⟨.inr rfl, _, _, (by simp (disch := first | (refine Ok.mk ?_; (try simp only [Lm, La, Lc, Ln, Lt, Ld, Lr, Li, true_or, or_true, true_and, and_true]); omega) | (simp <;> fail) | skip) [runM_nil, resL, mor]; rfl), .refl _, by simp (disch := first | (refine Ok.mk ?_; (try simp only [Lm, La, Lc, Ln, Lt, Ld, Lr, Li, true_or, or_true, true_and, and_true]); omega) | (simp <;> fail) | skip) [resV, mor], rfl⟩
end Go.Proofs.YtjcjbpbkakfjdaaDoor.E
/- Sums over bytes: sealed, and opened; the document's. -/
namespace Go.Proofs.YtjcjbpbkakfjdaaDoor.E
open Go Go.RowKit Go.Proofs
set_option linter.unusedVariables false
set_option linter.unusedSimpArgs false
theorem sum_ok {t : List Nat} (ht : t.length = 256) (ht2 : ∀ x ∈ t, x < 4294967296) {ot o : Bool} {s : Nat} {xs : List PV} {b : List Nat} (hx : xs = b.map u8) (hs : s = 1 ∨ b.length = 0) (hw : ∀ x ∈ b, x < 256) (hl : b.length ≤ 100000000000000) :
    PSpec Tryd.prog 49 [.lst 1 (t.map u32) ot, .lst s xs o] (.tup [.int .u32 (csum t b : Nat), .int .i64 0]) := by
  intro H
  have c := more_ok ht ht2 (ot := false) (o := false) hx hs hw hl 4294967295 (by omega)
  have hml := mor_lt ht2 b 4294967295 (by omega)
  have hcs : csum t b = mor t 4294967295 b ^^^ 4294967295 := rfl
  have hcc := Nat.xor_comm (mor t 4294967295 b) 4294967295
  generalize mor t 4294967295 b = m at *
  refine spec_of t49 (by simp [p49]) ?_
  simp only [p49]
  first | refine pwp_sr ?_ | refine pwp_regionM ?_
  intro K hK
  simp (disch := first | (refine Ok.mk ?_; (try simp only [Lm, La, Lc, Ln, Lt, Ld, Lr, Li, true_or, or_true, true_and, and_true]); omega) | (simp <;> fail) | skip) [runM_nil]
  refine hK _ _ ?_
  clear hK K
  first | refine pwp_sr ?_ | refine pwp_regionM ?_
  intro K hK
  simp (disch := first | (refine Ok.mk ?_; (try simp only [Lm, La, Lc, Ln, Lt, Ld, Lr, Li, true_or, or_true, true_and, and_true]); omega) | (simp <;> fail) | skip) [runM_nil]
  refine useP (c) ?_
  simp (disch := first | (refine Ok.mk ?_; (try simp only [Lm, La, Lc, Ln, Lt, Ld, Lr, Li, true_or, or_true, true_and, and_true]); omega) | (simp <;> fail) | skip) [runM_nil]
  refine hK _ _ ?_
  clear hK K
  first | refine pwp_rif ?_ | refine pwp_rifE ?_
  intro K hK
  simp (disch := first | (refine Ok.mk ?_; (try simp only [Lm, La, Lc, Ln, Lt, Ld, Lr, Li, true_or, or_true, true_and, and_true]); omega) | (simp <;> fail) | skip) [runM_nil]
  refine hK _ _ ?_
  clear hK K
  refine ifF (by simp (disch := first | (refine Ok.mk ?_; (try simp only [Lm, La, Lc, Ln, Lt, Ld, Lr, Li, true_or, or_true, true_and, and_true]); omega) | (simp <;> fail) | skip) [runM_nil]) (pwp_skip ?_)
  have hmax : IntKind.u32.max = 4294967295 := rfl
  first | refine pwp_sr ?_ | refine pwp_regionM ?_
  intro K hK
  simp (disch := first | (refine Ok.mk ?_; (try simp only [Lm, La, Lc, Ln, Lt, Ld, Lr, Li, true_or, or_true, true_and, and_true]); omega) | (simp <;> fail) | skip) [runM_nil, hmax, IntKind.signed]
  refine hK _ _ ?_
  clear hK K
  rw [hcs, hcc]
  refine pwp_ret ⟨.inr rfl, _, _, (by simp (disch := first | (refine Ok.mk ?_; (try simp only [Lm, La, Lc, Ln, Lt, Ld, Lr, Li, true_or, or_true, true_and, and_true]); omega) | (simp <;> fail) | skip) [runM_nil, resL]; rfl), .refl _, by simp (disch := first | (refine Ok.mk ?_; (try simp only [Lm, La, Lc, Ln, Lt, Ld, Lr, Li, true_or, or_true, true_and, and_true]); omega) | (simp <;> fail) | skip) [resV], rfl⟩
theorem tail_ok (c : Nat) (hc : c < 4294967296) : PSpec Tryd.prog 50 [.int .u32 c] (bV (four c) true) := by
  intro H
  refine spec_of t50 (by simp [p50]) ?_
  simp only [p50]
  first | refine pwp_sr ?_ | refine pwp_regionM ?_
  intro K hK
  simp (disch := first | (refine Ok.mk ?_; (try simp only [Lm, La, Lc, Ln, Lt, Ld, Lr, Li, true_or, or_true, true_and, and_true]); omega) | (simp <;> fail) | skip) [runM_nil]
  refine hK _ _ ?_
  clear hK K
  have e : ((c : Int) / 16777216) % 256 = (c : Int) / 16777216 := by omega
  first | refine pwp_sr ?_ | refine pwp_regionM ?_
  intro K hK
  simp (disch := first | (refine Ok.mk ?_; (try simp only [Lm, La, Lc, Ln, Lt, Ld, Lr, Li, true_or, or_true, true_and, and_true]); omega) | (simp <;> fail) | skip) [runM_nil, wm_u8]
  refine hK _ _ ?_
  clear hK K
  refine pwp_ret ⟨.inr rfl, _, _, (by simp (disch := first | (refine Ok.mk ?_; (try simp only [Lm, La, Lc, Ln, Lt, Ld, Lr, Li, true_or, or_true, true_and, and_true]); omega) | (simp <;> fail) | skip) [runM_nil, resL, four, e]; rfl), .refl _, by simp (disch := first | (refine Ok.mk ?_; (try simp only [Lm, La, Lc, Ln, Lt, Ld, Lr, Li, true_or, or_true, true_and, and_true]); omega) | (simp <;> fail) | skip) [resV, four, e], rfl⟩
theorem equal_ok {s1 s2 : Nat} {xs ys : List PV} {o1 o2 : Bool} {a b : List Nat} (hx : xs = a.map u8) (hy : ys = b.map u8) (hs1 : s1 = 1 ∨ a.length = 0) (hs2 : s2 = 1 ∨ b.length = 0) (ha : ∀ x ∈ a, x < 256) (hb : ∀ x ∈ b, x < 256) :
    PSpec Tryd.prog 42 [.lst s1 xs o1, .lst s2 ys o2] (.bool (decide (a = b))) := by
  intro H
  have c1 := cvS_u8 (o := false) hx hs1 ha
  have c2 := cvS_u8 (o := false) hy hs2 hb
  refine spec_of t42 (by simp [p42]) ?_
  simp only [p42]
  first | refine pwp_sr ?_ | refine pwp_regionM ?_
  intro K hK
  simp (disch := first | (refine Ok.mk ?_; (try simp only [Lm, La, Lc, Ln, Lt, Ld, Lr, Li, true_or, or_true, true_and, and_true]); omega) | (simp <;> fail) | skip) [runM_nil]
  refine hK _ _ ?_
  clear hK K
  first | refine pwp_sr ?_ | refine pwp_regionM ?_
  intro K hK
  simp (disch := first | (refine Ok.mk ?_; (try simp only [Lm, La, Lc, Ln, Lt, Ld, Lr, Li, true_or, or_true, true_and, and_true]); omega) | (simp <;> fail) | skip) [runM_nil, c1, c2]
  refine hK _ _ ?_
  clear hK K
  refine pwp_ret ⟨.inr rfl, _, _, (by simp (disch := first | (refine Ok.mk ?_; (try simp only [Lm, La, Lc, Ln, Lt, Ld, Lr, Li, true_or, or_true, true_and, and_true]); omega) | (simp <;> fail) | skip) [runM_nil, resL]; rfl), .refl _, by simp (disch := first | (refine Ok.mk ?_; (try simp only [Lm, La, Lc, Ln, Lt, Ld, Lr, Li, true_or, or_true, true_and, and_true]); omega) | (simp <;> fail) | skip) [resV], rfl⟩
theorem seal_ok {t : List Nat} (ht : t.length = 256) (ht2 : ∀ x ∈ t, x < 4294967296) {ot o : Bool} {s : Nat} {xs : List PV} {b : List Nat} (hx : xs = b.map u8) (hs : s = 1 ∨ b.length = 0) (hw : ∀ x ∈ b, x < 256) (hl : b.length ≤ 90000000000000) :
    PSpec Tryd.prog 31 [.lst 1 (t.map u32) ot, .lst s xs o] (.tup [bV (sealed t b) true, .int .i64 0]) := by
  subst hx
  intro H
  have c := sum_ok ht ht2 (ot := false) (o := false) (xs := b.map u8) rfl hs hw (by omega)
  have hml := csum_lt ht2 b
  have c2 := tail_ok (csum t b) hml
  have c3 := concat_ok (es := [.lst s (b.map u8) false, .lst 1 ((four (csum t b)).map u8) false]) (o := false) [(s, b), (1, four (csum t b))] rfl (by
    intro p hp
    rcases List.mem_cons.1 hp with rfl | hp
    · exact hs
    · rcases List.mem_cons.1 hp with rfl | hp
      · exact .inl rfl
      · cases hp) (by simp) (by simp [four_length]; omega)
  have e : List.flatMap (fun x : Nat × List Nat => x.2) [(s, b), (1, four (csum t b))] = sealed t b := by simp [sealed]
  rw [e] at c3
  generalize sealed t b = z at *
  generalize four (csum t b) = f4 at *
  generalize csum t b = m at *
  refine spec_of t31 (by simp [p31]) ?_
  simp only [p31]
  first | refine pwp_sr ?_ | refine pwp_regionM ?_
  intro K hK
  simp (disch := first | (refine Ok.mk ?_; (try simp only [Lm, La, Lc, Ln, Lt, Ld, Lr, Li, true_or, or_true, true_and, and_true]); omega) | (simp <;> fail) | skip) [runM_nil]
  refine hK _ _ ?_
  clear hK K
  first | refine pwp_sr ?_ | refine pwp_regionM ?_
  intro K hK
  simp (disch := first | (refine Ok.mk ?_; (try simp only [Lm, La, Lc, Ln, Lt, Ld, Lr, Li, true_or, or_true, true_and, and_true]); omega) | (simp <;> fail) | skip) [runM_nil]
  refine useP (c) ?_
  simp (disch := first | (refine Ok.mk ?_; (try simp only [Lm, La, Lc, Ln, Lt, Ld, Lr, Li, true_or, or_true, true_and, and_true]); omega) | (simp <;> fail) | skip) [runM_nil]
  refine hK _ _ ?_
  clear hK K
  first | refine pwp_rif ?_ | refine pwp_rifE ?_
  intro K hK
  simp (disch := first | (refine Ok.mk ?_; (try simp only [Lm, La, Lc, Ln, Lt, Ld, Lr, Li, true_or, or_true, true_and, and_true]); omega) | (simp <;> fail) | skip) [runM_nil]
  refine hK _ _ ?_
  clear hK K
  refine ifF (by simp (disch := first | (refine Ok.mk ?_; (try simp only [Lm, La, Lc, Ln, Lt, Ld, Lr, Li, true_or, or_true, true_and, and_true]); omega) | (simp <;> fail) | skip) [runM_nil]) (pwp_skip ?_)
  first | refine pwp_sr ?_ | refine pwp_regionM ?_
  intro K hK
  simp (disch := first | (refine Ok.mk ?_; (try simp only [Lm, La, Lc, Ln, Lt, Ld, Lr, Li, true_or, or_true, true_and, and_true]); omega) | (simp <;> fail) | skip) [runM_nil]
  refine useP (c2) ?_
  simp (disch := first | (refine Ok.mk ?_; (try simp only [Lm, La, Lc, Ln, Lt, Ld, Lr, Li, true_or, or_true, true_and, and_true]); omega) | (simp <;> fail) | skip) [runM_nil]
  refine useP (c3) ?_
  simp (disch := first | (refine Ok.mk ?_; (try simp only [Lm, La, Lc, Ln, Lt, Ld, Lr, Li, true_or, or_true, true_and, and_true]); omega) | (simp <;> fail) | skip) [runM_nil]
  refine hK _ _ ?_
  clear hK K
  refine pwp_ret ⟨.inr rfl, _, _, (by simp (disch := first | (refine Ok.mk ?_; (try simp only [Lm, La, Lc, Ln, Lt, Ld, Lr, Li, true_or, or_true, true_and, and_true]); omega) | (simp <;> fail) | skip) [runM_nil, resL]; rfl), .refl _, by simp (disch := first | (refine Ok.mk ?_; (try simp only [Lm, La, Lc, Ln, Lt, Ld, Lr, Li, true_or, or_true, true_and, and_true]); omega) | (simp <;> fail) | skip) [resV], rfl⟩
theorem opened_cases (t s : List Nat) : (s.length < 4 ∧ opened t s = ([], 2)) ∨ (4 ≤ s.length ∧ four (csum t (s.take (s.length - 4))) = s.drop (s.length - 4) ∧ opened t s = (s.take (s.length - 4), 0)) ∨
    (4 ≤ s.length ∧ ¬ four (csum t (s.take (s.length - 4))) = s.drop (s.length - 4) ∧ opened t s = ([], 4)) := by
  unfold opened
  by_cases h : s.length < 4
  · rw [if_pos h]; exact .inl ⟨h, rfl⟩
  · rw [if_neg h]
    by_cases h2 : four (csum t (s.take (s.length - 4))) = s.drop (s.length - 4)
    · rw [if_pos h2]; exact .inr (.inl ⟨by omega, h2, rfl⟩)
    · rw [if_neg h2]; exact .inr (.inr ⟨by omega, h2, rfl⟩)
set_option maxRecDepth 4000 in
theorem open_ok {t : List Nat} (ht : t.length = 256) (ht2 : ∀ x ∈ t, x < 4294967296) {ot o : Bool} {s : Nat} {xs : List PV} {b : List Nat} (hx : xs = b.map u8) (hs : s = 1 ∨ b.length = 0) (hw : ∀ x ∈ b, x < 256) (hl : b.length ≤ 100000000000000) :
    PSpec Tryd.prog 73 [.lst 1 (t.map u32) ot, .lst s xs o] (.tup [bV (opened t b).1 true, .int .i64 ((opened t b).2 : Nat)]) := by
  subst hx
  intro H
  have hoc := opened_cases t b
  refine spec_ofU t73 (by simp [p73]) ?_
  simp only [p73]
  first | refine pwp_sr ?_ | refine pwp_regionM ?_
  intro K hK
  simp (disch := first | (refine Ok.mk ?_; (try simp only [Lm, La, Lc, Ln, Lt, Ld, Lr, Li, true_or, or_true, true_and, and_true]); omega) | (simp <;> fail) | skip) [runM_nil]
  refine hK _ _ ?_
  clear hK K
  first | refine pwp_sr ?_ | refine pwp_regionM ?_
  intro K hK
  simp (disch := first | (refine Ok.mk ?_; (try simp only [Lm, La, Lc, Ln, Lt, Ld, Lr, Li, true_or, or_true, true_and, and_true]); omega) | (simp <;> fail) | skip) [runM_nil]
  refine hK _ _ ?_
  clear hK K
  refine pwp_seq (pwp_block ?_)
  first | refine pwp_sr ?_ | refine pwp_regionM ?_
  intro K hK
  simp (disch := first | (refine Ok.mk ?_; (try simp only [Lm, La, Lc, Ln, Lt, Ld, Lr, Li, true_or, or_true, true_and, and_true]); omega) | (simp <;> fail) | skip) [runM_nil, ht]
  refine hK _ _ ?_
  clear hK K
  refine pwp_cF (by simp) ?_
  rcases hoc with ⟨h4, e⟩ | ⟨h4, h5, e⟩ | ⟨h4, h5, e⟩
  · first | refine pwp_sr ?_ | refine pwp_regionM ?_
    intro K hK
    simp (disch := first | (refine Ok.mk ?_; (try simp only [Lm, La, Lc, Ln, Lt, Ld, Lr, Li, true_or, or_true, true_and, and_true]); omega) | (simp <;> fail) | skip) [runM_nil]
    refine hK _ _ ?_
    clear hK K
    refine pwp_cT (by simp) ?_
    first | refine pwp_sr ?_ | refine pwp_regionM ?_
    intro K hK
    simp (disch := first | (refine Ok.mk ?_; (try simp only [Lm, La, Lc, Ln, Lt, Ld, Lr, Li, true_or, or_true, true_and, and_true]); omega) | (simp <;> fail) | skip) [runM_nil]
    refine hK _ _ ?_
    clear hK K
    rw [e]
    refine pwp_ret ⟨.inr rfl, _, _, _, (by simp (disch := first | (refine Ok.mk ?_; (try simp only [Lm, La, Lc, Ln, Lt, Ld, Lr, Li, true_or, or_true, true_and, and_true]); omega) | (simp <;> fail) | skip) [runM_nil, resL]; rfl), .refl _, (by simp (disch := first | (refine Ok.mk ?_; (try simp only [Lm, La, Lc, Ln, Lt, Ld, Lr, Li, true_or, or_true, true_and, and_true]); omega) | (simp <;> fail) | skip) [resV]), rfl, rfl⟩
  · rw [e]
    first | refine pwp_sr ?_ | refine pwp_regionM ?_
    intro K hK
    simp (disch := first | (refine Ok.mk ?_; (try simp only [Lm, La, Lc, Ln, Lt, Ld, Lr, Li, true_or, or_true, true_and, and_true]); omega) | (simp <;> fail) | skip) [runM_nil]
    refine hK _ _ ?_
    clear hK K
    refine pwp_cF (by simp) (pwp_skip ?_)
    have hml := csum_lt ht2 (b.take (b.length - 4))
    have e1 : ((b.length : Int) - 4).toNat = b.length - 4 := by omega
    have hsT : s = 1 := by omega
    subst hsT
    first | refine pwp_sr ?_ | refine pwp_regionM ?_
    intro K hK
    simp (disch := first | (refine Ok.mk ?_; (try simp only [Lm, La, Lc, Ln, Lt, Ld, Lr, Li, true_or, or_true, true_and, and_true]); omega) | (simp <;> fail) | skip) [runM_nil, e1]
    refine useP (sum_ok ht ht2 (b := b.take (b.length - 4)) (by simp) (.inl rfl) (fun x hx => hw x (List.mem_of_mem_take hx)) (by rw [Lt]; omega)) ?_
    simp (disch := first | (refine Ok.mk ?_; (try simp only [Lm, La, Lc, Ln, Lt, Ld, Lr, Li, true_or, or_true, true_and, and_true]); omega) | (simp <;> fail) | skip) [runM_nil, e1]
    refine hK _ _ ?_
    clear hK K
    first | refine pwp_dif hmix ?_ | refine pwp_difE hmix ?_
    intro K hK
    simp (disch := first | (refine Ok.mk ?_; (try simp only [Lm, La, Lc, Ln, Lt, Ld, Lr, Li, true_or, or_true, true_and, and_true]); omega) | (simp <;> fail) | skip) [runM_nil, e1]
    refine useD (tail_ok _ hml) ?_
    simp (disch := first | (refine Ok.mk ?_; (try simp only [Lm, La, Lc, Ln, Lt, Ld, Lr, Li, true_or, or_true, true_and, and_true]); omega) | (simp <;> fail) | skip) [runM_nil, e1]
    refine useD (equal_ok (a := four (csum t (b.take (b.length - 4)))) (b := b.drop (b.length - 4)) rfl (by simp) (.inl rfl) (.inl rfl) (four_lt _) (fun x hx => hw x (List.mem_of_mem_drop hx))) ?_
    simp (disch := first | (refine Ok.mk ?_; (try simp only [Lm, La, Lc, Ln, Lt, Ld, Lr, Li, true_or, or_true, true_and, and_true]); omega) | (simp <;> fail) | skip) [runM_nil, e1]
    refine hK _ _ ?_
    clear hK K
    refine ifF (by simp (disch := first | (refine Ok.mk ?_; (try simp only [Lm, La, Lc, Ln, Lt, Ld, Lr, Li, true_or, or_true, true_and, and_true]); omega) | (simp <;> fail) | skip) [runM_nil, h5]) (pwp_skip ?_)
    first | refine pwp_sr ?_ | refine pwp_regionM ?_
    intro K hK
    simp (disch := first | (refine Ok.mk ?_; (try simp only [Lm, La, Lc, Ln, Lt, Ld, Lr, Li, true_or, or_true, true_and, and_true]); omega) | (simp <;> fail) | skip) [runM_nil, e1]
    refine useP (clone_ok (l := b.take (b.length - 4)) (by simp) (.inl rfl) (by rw [Lt]; omega)) ?_
    simp (disch := first | (refine Ok.mk ?_; (try simp only [Lm, La, Lc, Ln, Lt, Ld, Lr, Li, true_or, or_true, true_and, and_true]); omega) | (simp <;> fail) | skip) [runM_nil, e1]
    refine hK _ _ ?_
    clear hK K
    refine pwp_ret ⟨.inr rfl, _, _, _, (by simp (disch := first | (refine Ok.mk ?_; (try simp only [Lm, La, Lc, Ln, Lt, Ld, Lr, Li, true_or, or_true, true_and, and_true]); omega) | (simp <;> fail) | skip) [runM_nil, resL]; rfl), .refl _, (by simp (disch := first | (refine Ok.mk ?_; (try simp only [Lm, La, Lc, Ln, Lt, Ld, Lr, Li, true_or, or_true, true_and, and_true]); omega) | (simp <;> fail) | skip) [resV]), rfl, rfl⟩
  · rw [e]
    first | refine pwp_sr ?_ | refine pwp_regionM ?_
    intro K hK
    simp (disch := first | (refine Ok.mk ?_; (try simp only [Lm, La, Lc, Ln, Lt, Ld, Lr, Li, true_or, or_true, true_and, and_true]); omega) | (simp <;> fail) | skip) [runM_nil]
    refine hK _ _ ?_
    clear hK K
    refine pwp_cF (by simp) (pwp_skip ?_)
    have hml := csum_lt ht2 (b.take (b.length - 4))
    have e1 : ((b.length : Int) - 4).toNat = b.length - 4 := by omega
    have hsT : s = 1 := by omega
    subst hsT
    first | refine pwp_sr ?_ | refine pwp_regionM ?_
    intro K hK
    simp (disch := first | (refine Ok.mk ?_; (try simp only [Lm, La, Lc, Ln, Lt, Ld, Lr, Li, true_or, or_true, true_and, and_true]); omega) | (simp <;> fail) | skip) [runM_nil, e1]
    refine useP (sum_ok ht ht2 (b := b.take (b.length - 4)) (by simp) (.inl rfl) (fun x hx => hw x (List.mem_of_mem_take hx)) (by rw [Lt]; omega)) ?_
    simp (disch := first | (refine Ok.mk ?_; (try simp only [Lm, La, Lc, Ln, Lt, Ld, Lr, Li, true_or, or_true, true_and, and_true]); omega) | (simp <;> fail) | skip) [runM_nil, e1]
    refine hK _ _ ?_
    clear hK K
    first | refine pwp_dif hmix ?_ | refine pwp_difE hmix ?_
    intro K hK
    simp (disch := first | (refine Ok.mk ?_; (try simp only [Lm, La, Lc, Ln, Lt, Ld, Lr, Li, true_or, or_true, true_and, and_true]); omega) | (simp <;> fail) | skip) [runM_nil, e1]
    refine useD (tail_ok _ hml) ?_
    simp (disch := first | (refine Ok.mk ?_; (try simp only [Lm, La, Lc, Ln, Lt, Ld, Lr, Li, true_or, or_true, true_and, and_true]); omega) | (simp <;> fail) | skip) [runM_nil, e1]
    refine useD (equal_ok (a := four (csum t (b.take (b.length - 4)))) (b := b.drop (b.length - 4)) rfl (by simp) (.inl rfl) (.inl rfl) (four_lt _) (fun x hx => hw x (List.mem_of_mem_drop hx))) ?_
    simp (disch := first | (refine Ok.mk ?_; (try simp only [Lm, La, Lc, Ln, Lt, Ld, Lr, Li, true_or, or_true, true_and, and_true]); omega) | (simp <;> fail) | skip) [runM_nil, e1]
    refine hK _ _ ?_
    clear hK K
    refine ifT (by simp (disch := first | (refine Ok.mk ?_; (try simp only [Lm, La, Lc, Ln, Lt, Ld, Lr, Li, true_or, or_true, true_and, and_true]); omega) | (simp <;> fail) | skip) [runM_nil, h5]) ?_
    first | refine pwp_sr ?_ | refine pwp_regionM ?_
    intro K hK
    simp (disch := first | (refine Ok.mk ?_; (try simp only [Lm, La, Lc, Ln, Lt, Ld, Lr, Li, true_or, or_true, true_and, and_true]); omega) | (simp <;> fail) | skip) [runM_nil]
    refine hK _ _ ?_
    clear hK K
    refine pwp_ret ⟨.inr rfl, _, _, _, (by simp (disch := first | (refine Ok.mk ?_; (try simp only [Lm, La, Lc, Ln, Lt, Ld, Lr, Li, true_or, or_true, true_and, and_true]); omega) | (simp <;> fail) | skip) [runM_nil, resL]; rfl), .refl _, (by simp (disch := first | (refine Ok.mk ?_; (try simp only [Lm, La, Lc, Ln, Lt, Ld, Lr, Li, true_or, or_true, true_and, and_true]); omega) | (simp <;> fail) | skip) [resV]), rfl, rfl⟩
end Go.Proofs.YtjcjbpbkakfjdaaDoor.E
/- Bytes counted, and written as others. -/
namespace Go.Proofs.YtjcjbpbkakfjdaaDoor.E
open Go Go.RowKit Go.Proofs
set_option linter.unusedVariables false
set_option linter.unusedSimpArgs false
theorem count1_ok {s : Nat} {xs : List PV} {o q : Bool} {b : List Nat} (hx : xs = b.map u8) (hs : s = 1 ∨ b.length = 0) (hw : ∀ x ∈ b, x < 256) (c : Nat) (hc : c < 256) :
    PSpec Tryd.prog 37 [.lst s xs o, .lst 1 [.int .u8 c] q] (.int .i64 (b.count c : Nat)) := by
  intro H
  have ce := countE_ok (o := false) hx hs hw c hc
  refine spec_of t37 (by simp [p37]) ?_
  simp only [p37]
  first | refine pwp_sr ?_ | refine pwp_regionM ?_
  intro K hK
  simp (disch := first | (refine Ok.mk ?_; (try simp only [Lm, La, Lc, Ln, Lt, Ld, Lr, Li, true_or, or_true, true_and, and_true]); omega) | (simp <;> fail) | skip) [runM_nil]
  refine hK _ _ ?_
  clear hK K
  first | refine pwp_rif ?_ | refine pwp_rifE ?_
  intro K hK
  simp (disch := first | (refine Ok.mk ?_; (try simp only [Lm, La, Lc, Ln, Lt, Ld, Lr, Li, true_or, or_true, true_and, and_true]); omega) | (simp <;> fail) | skip) [runM_nil]
  refine hK _ _ ?_
  clear hK K
  refine ifF (by simp [runM_nil]) (pwp_skip ?_)
  first | refine pwp_rif ?_ | refine pwp_rifE ?_
  intro K hK
  simp (disch := first | (refine Ok.mk ?_; (try simp only [Lm, La, Lc, Ln, Lt, Ld, Lr, Li, true_or, or_true, true_and, and_true]); omega) | (simp <;> fail) | skip) [runM_nil]
  refine hK _ _ ?_
  clear hK K
  refine ifT (by simp [runM_nil]) ?_
  first | refine pwp_sr ?_ | refine pwp_regionM ?_
  intro K hK
  simp (disch := first | (refine Ok.mk ?_; (try simp only [Lm, La, Lc, Ln, Lt, Ld, Lr, Li, true_or, or_true, true_and, and_true]); omega) | (simp <;> fail) | skip) [runM_nil]
  refine useP (ce) ?_
  simp (disch := first | (refine Ok.mk ?_; (try simp only [Lm, La, Lc, Ln, Lt, Ld, Lr, Li, true_or, or_true, true_and, and_true]); omega) | (simp <;> fail) | skip) [runM_nil]
  refine hK _ _ ?_
  clear hK K
  refine pwp_retT ⟨.inr rfl, _, _, (by simp (disch := first | (refine Ok.mk ?_; (try simp only [Lm, La, Lc, Ln, Lt, Ld, Lr, Li, true_or, or_true, true_and, and_true]); omega) | (simp <;> fail) | skip) [runM_nil, resL]; rfl), .refl _, by simp (disch := first | (refine Ok.mk ?_; (try simp only [Lm, La, Lc, Ln, Lt, Ld, Lr, Li, true_or, or_true, true_and, and_true]); omega) | (simp <;> fail) | skip) [resV], rfl⟩
theorem count2_ok {s : Nat} {xs ys : List PV} {o q : Bool} {a p : List Nat} (hx : xs = a.map u8) (hs : s = 1 ∨ a.length = 0) (hy : ys = p.map u8) (h2 : 2 ≤ p.length) (hpl : p.length ≤ 1000000) (ha : ∀ x ∈ a, x < 256) (hp : ∀ x ∈ p, x < 256) (hl : a.length ≤ 4000000000) :
    PSpec Tryd.prog 37 [.lst s xs o, .lst 1 ys q] (.int .i64 (occ p a : Nat)) := by
  intro H
  have hyl : ys.length = p.length := by rw [hy, Lm]
  have hxl : xs.length = a.length := by rw [hx, Lm]
  have f0 : ¬ (p.length : Int) = 0 := by omega
  have f1 : ¬ (p.length : Int) = 1 := by omega
  have f2 : ¬ p = [] := fun e => by rw [e] at h2; cases h2
  refine spec_of t37 (by simp [p37]) ?_
  simp only [p37]
  first | refine pwp_sr ?_ | refine pwp_regionM ?_
  intro K hK
  simp (disch := first | (refine Ok.mk ?_; (try simp only [Lm, La, Lc, Ln, Lt, Ld, Lr, Li, true_or, or_true, true_and, and_true]); omega) | (simp <;> fail) | skip) [runM_nil]
  refine hK _ _ ?_
  clear hK K
  first | refine pwp_rif ?_ | refine pwp_rifE ?_
  intro K hK
  simp (disch := first | (refine Ok.mk ?_; (try simp only [Lm, La, Lc, Ln, Lt, Ld, Lr, Li, true_or, or_true, true_and, and_true]); omega) | (simp <;> fail) | skip) [runM_nil, hyl, f0]
  refine hK _ _ ?_
  clear hK K
  refine ifF (by simp [runM_nil, f0, f2]) (pwp_skip ?_)
  first | refine pwp_rif ?_ | refine pwp_rifE ?_
  intro K hK
  simp (disch := first | (refine Ok.mk ?_; (try simp only [Lm, La, Lc, Ln, Lt, Ld, Lr, Li, true_or, or_true, true_and, and_true]); omega) | (simp <;> fail) | skip) [runM_nil, hyl, f1]
  refine hK _ _ ?_
  clear hK K
  refine ifF (by simp [runM_nil, f1]) (pwp_skip ?_)
  first | refine pwp_sr ?_ | refine pwp_regionM ?_
  intro K hK
  simp (disch := first | (refine Ok.mk ?_; (try simp only [Lm, La, Lc, Ln, Lt, Ld, Lr, Li, true_or, or_true, true_and, and_true]); omega) | (simp <;> fail) | skip) [runM_nil]
  refine hK _ _ ?_
  clear hK K
  refine pwp_block ?_
  refine pwp_loopK [0, 1, 5] (fun m st H' => ∃ (k n : Nat) (o2 : Bool), k ≤ a.length ∧ n + occ p (a.drop k) = occ p a ∧ m = a.length - k ∧ H' = H ∧ st = MS 35 [(0, .lst s (xs.drop k) o2), (1, .lst 1 ys q), (5, .int .i64 n)]) (n := a.length)
    ⟨_, .refl _, 0, 0, o, by omega, (by simp), rfl, rfl, by simp [keepL_MS, keepA, getS]⟩ ?_
  rintro m st _ ⟨k, n, o2, hk, hn, rfl, rfl, rfl⟩
  have ho := occ_le1 (p := p) (by omega) a
  have hxd : xs.drop k = (a.drop k).map u8 := by rw [hx, List.map_drop]
  have c1 := index_ok (o1 := false) (o2 := false) (s1 := s) hxd (hs.imp id fun h => by rw [List.length_drop]; omega) hy (by omega) hpl (fun x hx => ha x (List.mem_of_mem_drop hx)) hp (by rw [List.length_drop]; omega)
  refine pwp_block ?_
  unfold ixI at c1
  by_cases hd : dist p (a.drop k) < (a.drop k).length
  · have hr := dist_room hd
    have hh := occ_hit (p := p) (by omega) hd
    rw [List.drop_drop] at hh
    rw [if_pos hd] at c1
    have hdd : (xs.drop k).drop (dist p (a.drop k) + p.length) = xs.drop (k + (dist p (a.drop k) + p.length)) := List.drop_drop
    have hld : (xs.drop k).length = a.length - k := by rw [List.length_drop, hxl]
    rw [List.length_drop] at hr
    generalize dist p (a.drop k) = d at *
    have n1 : ¬ (d : Int) = -1 := by omega
    have n2 : ((d : Int) + (p.length : Int)).toNat = d + p.length := by omega
    first | refine pwp_sr ?_ | refine pwp_regionM ?_
    intro K hK
    simp (disch := first | (refine Ok.mk ?_; (try simp only [Lm, La, Lc, Ln, Lt, Ld, Lr, Li, true_or, or_true, true_and, and_true]); omega) | (simp <;> fail) | skip) [runM_nil]
    refine useP (c1) ?_
    simp (disch := first | (refine Ok.mk ?_; (try simp only [Lm, La, Lc, Ln, Lt, Ld, Lr, Li, true_or, or_true, true_and, and_true]); omega) | (simp <;> fail) | skip) [runM_nil]
    refine hK _ _ ?_
    clear hK K
    first | refine pwp_rif ?_ | refine pwp_rifE ?_
    intro K hK
    simp (disch := first | (refine Ok.mk ?_; (try simp only [Lm, La, Lc, Ln, Lt, Ld, Lr, Li, true_or, or_true, true_and, and_true]); omega) | (simp <;> fail) | skip) [runM_nil, n1]
    refine hK _ _ ?_
    clear hK K
    refine ifF (by simp [runM_nil, n1]) (pwp_skip ?_)
    first | refine pwp_sr ?_ | refine pwp_regionM ?_
    intro K hK
    simp (disch := first | (refine Ok.mk ?_; (try simp only [Lm, La, Lc, Ln, Lt, Ld, Lr, Li, true_or, or_true, true_and, and_true]); omega) | (simp <;> fail) | skip) [runM_nil]
    refine hK _ _ ?_
    clear hK K
    refine pwp_regionM ?_
    intro K hK
    simp (disch := first | (refine Ok.mk ?_; (try simp only [Lm, La, Lc, Ln, Lt, Ld, Lr, Li, true_or, or_true, true_and, and_true]); omega) | (simp <;> fail) | skip) [runM_nil, hyl, hld, n2, hdd]
    refine hK _ _ ?_
    clear hK K
    exact ⟨a.length - (k + (d + p.length)), by omega, _, .refl _, k + (d + p.length), n + 1, false, by omega, by omega, rfl, rfl, by simp [keepL_MS, keepA, getS]⟩
  · rw [occ_miss hd] at hn
    rw [if_neg hd] at c1
    first | refine pwp_sr ?_ | refine pwp_regionM ?_
    intro K hK
    simp (disch := first | (refine Ok.mk ?_; (try simp only [Lm, La, Lc, Ln, Lt, Ld, Lr, Li, true_or, or_true, true_and, and_true]); omega) | (simp <;> fail) | skip) [runM_nil]
    refine useP (c1) ?_
    simp (disch := first | (refine Ok.mk ?_; (try simp only [Lm, La, Lc, Ln, Lt, Ld, Lr, Li, true_or, or_true, true_and, and_true]); omega) | (simp <;> fail) | skip) [runM_nil]
    refine hK _ _ ?_
    clear hK K
    first | refine pwp_rif ?_ | refine pwp_rifE ?_
    intro K hK
    simp (disch := first | (refine Ok.mk ?_; (try simp only [Lm, La, Lc, Ln, Lt, Ld, Lr, Li, true_or, or_true, true_and, and_true]); omega) | (simp <;> fail) | skip) [runM_nil]
    refine hK _ _ ?_
    clear hK K
    refine ifT (by simp [runM_nil]) ?_
    obtain rfl : n = occ p a := by omega
    first | refine pwp_sr ?_ | refine pwp_regionM ?_
    intro K hK
    simp (disch := first | (refine Ok.mk ?_; (try simp only [Lm, La, Lc, Ln, Lt, Ld, Lr, Li, true_or, or_true, true_and, and_true]); omega) | (simp <;> fail) | skip) [runM_nil]
    refine hK _ _ ?_
    clear hK K
    refine pwp_ret (And.intro (.inr rfl) ⟨_, _, (by simp (disch := first | (refine Ok.mk ?_; (try simp only [Lm, La, Lc, Ln, Lt, Ld, Lr, Li, true_or, or_true, true_and, and_true]); omega) | (simp <;> fail) | skip) [runM_nil, resL]; rfl), .refl _, by simp (disch := first | (refine Ok.mk ?_; (try simp only [Lm, La, Lc, Ln, Lt, Ld, Lr, Li, true_or, or_true, true_and, and_true]); omega) | (simp <;> fail) | skip) [resV], rfl⟩)
theorem SpecH_lend {P : Program} {f : Nat} {H : Heap} {args : List PV} {R : PV → Heap → Prop} (h : SpecH P f H args R) : SpecH P f H args (fun r' H' => ∃ r, R r H' ∧ r' = lend r) := by
  refine ⟨h.1, fun out w g vals h1 h2 h3 h4 => (h.2 out w g vals h1 h2 h3 h4).mono ?_⟩
  rintro e w' ⟨v, r, H', g', rfl, a2, a3, a4, a5, a6, a7⟩
  refine ⟨v, lend r, H', g', rfl, ⟨r, a2, rfl⟩, a3, a4, VR_lend _ _ (VR_weak _ _ a5), fun b => ?_, a7⟩
  rw [toks_lend]
  have := a6 b
  simp only [List.count_nil]
  omega
theorem hprefix_ok {s : Nat} {xs ys : List PV} {o q : Bool} {a p : List Nat} (hx : xs = a.map u8) (hs : s = 1 ∨ a.length = 0) (hy : ys = p.map u8) (ha : ∀ x ∈ a, x < 256) (hp : ∀ x ∈ p, x < 256) :
    PSpec Tryd.prog 38 [.lst s xs o, .lst 1 ys q] (.bool (p.isPrefixOf a)) := by
  intro H
  have hyl : ys.length = p.length := by rw [hy, Lm]
  have hxl : xs.length = a.length := by rw [hx, Lm]
  have hxt : xs.take p.length = (a.take p.length).map u8 := by rw [hx, List.map_take]
  have c1 := equal_ok (o1 := false) (o2 := false) (s1 := s) (s2 := 1) hxt hy (hs.imp id fun h => by rw [List.length_take]; omega) (.inl rfl) (fun x hx => ha x (List.mem_of_mem_take hx)) hp
  refine spec_of t38 (by simp [p38]) ?_
  simp only [p38]
  first | refine pwp_sr ?_ | refine pwp_regionM ?_
  intro K hK
  simp (disch := first | (refine Ok.mk ?_; (try simp only [Lm, La, Lc, Ln, Lt, Ld, Lr, Li, true_or, or_true, true_and, and_true]); omega) | (simp <;> fail) | skip) [runM_nil]
  refine hK _ _ ?_
  clear hK K
  by_cases h : p.length ≤ a.length
  · have e : p.isPrefixOf a = decide (a.take p.length = p) := by
      rw [Bool.eq_iff_iff, List.isPrefixOf_iff_prefix, decide_eq_true_iff, List.prefix_iff_eq_take]
      exact eq_comm
    rw [e]
    first | refine pwp_sr ?_ | refine pwp_regionM ?_
    intro K hK
    simp (disch := first | (refine Ok.mk ?_; (try simp only [Lm, La, Lc, Ln, Lt, Ld, Lr, Li, true_or, or_true, true_and, and_true]); omega) | (simp <;> fail) | skip) [runM_nil, hyl, hxl]
    refine useP (c1) ?_
    simp (disch := first | (refine Ok.mk ?_; (try simp only [Lm, La, Lc, Ln, Lt, Ld, Lr, Li, true_or, or_true, true_and, and_true]); omega) | (simp <;> fail) | skip) [runM_nil, hyl, hxl]
    refine hK _ _ ?_
    clear hK K
    refine pwp_ret ⟨.inr rfl, _, _, (by simp (disch := first | (refine Ok.mk ?_; (try simp only [Lm, La, Lc, Ln, Lt, Ld, Lr, Li, true_or, or_true, true_and, and_true]); omega) | (simp <;> fail) | skip) [runM_nil, resL]; rfl), .refl _, by simp (disch := first | (refine Ok.mk ?_; (try simp only [Lm, La, Lc, Ln, Lt, Ld, Lr, Li, true_or, or_true, true_and, and_true]); omega) | (simp <;> fail) | skip) [resV], rfl⟩
  · have e : p.isPrefixOf a = false := by
      rw [← Bool.not_eq_true, List.isPrefixOf_iff_prefix]
      exact fun k => h k.length_le
    rw [e]
    first | refine pwp_sr ?_ | refine pwp_regionM ?_
    intro K hK
    simp (disch := first | (refine Ok.mk ?_; (try simp only [Lm, La, Lc, Ln, Lt, Ld, Lr, Li, true_or, or_true, true_and, and_true]); omega) | (simp <;> fail) | skip) [runM_nil, hyl, hxl]
    refine hK _ _ ?_
    clear hK K
    refine pwp_ret ⟨.inr rfl, _, _, (by simp (disch := first | (refine Ok.mk ?_; (try simp only [Lm, La, Lc, Ln, Lt, Ld, Lr, Li, true_or, or_true, true_and, and_true]); omega) | (simp <;> fail) | skip) [runM_nil, resL]; rfl), .refl _, by simp (disch := first | (refine Ok.mk ?_; (try simp only [Lm, La, Lc, Ln, Lt, Ld, Lr, Li, true_or, or_true, true_and, and_true]); omega) | (simp <;> fail) | skip) [resV], rfl⟩
theorem take_u8 (l : List Nat) : List.take l.length (l.map u8) = l.map u8 := List.take_of_length_le (by rw [Lm]; omega)
theorem cells_u8 (l : List Nat) : lendL ((l.map u8).flatMap cellsOf) = l.map u8 := by
  induction l with
  | nil => rfl
  | cons a l ih =>
    rw [List.map_cons, List.flatMap_cons]
    have e : cellsOf (u8 a) = [u8 a] := rfl
    rw [e, List.singleton_append, lendL_eq_map, List.map_cons, ← lendL_eq_map, ih]
    rfl
set_option maxHeartbeats 2000000 in
theorem replace_ok {s : Nat} {xs ys zs : List PV} {o q u : Bool} {a p n : List Nat} (hx : xs = a.map u8) (hs : s = 1 ∨ a.length = 0) (hy : ys = p.map u8) (hz : zs = n.map u8) (h1 : 1 ≤ p.length) (hpl : p.length ≤ 1000) (hnl : n.length ≤ 1000) (hn1 : 1 ≤ n.length) (ha : ∀ x ∈ a, x < 256) (hp : ∀ x ∈ p, x < 256) (hl : a.length ≤ 100000000)
    (hcnt : PSpec Tryd.prog 37 [.lst s xs false, .lst 1 ys false] (.int .i64 (occ p a : Nat))) :
    PSpec Tryd.prog 56 [.lst s xs o, .lst 1 ys q, .lst 1 zs u, .int .i64 (-1)] (bV (repW p n a) false) := by
  intro H
  have hyl : ys.length = p.length := by rw [hy, Lm]
  have hxl : xs.length = a.length := by rw [hx, Lm]
  have hzl : zs.length = n.length := by rw [hz, Lm]
  have hrl := rep_len (n := n) h1 _ a (Nat.le_refl _)
  have hol := occ_le h1 _ a (Nat.le_refl _)
  have ho1 := occ_le1 h1 a
  refine SpecH_mono (SpecH_lend (R := fun r H' => ∃ o, r = bV (repW p n a) o ∧ H' = H) ?_) (by rintro r H' ⟨_, ⟨o, rfl, rfl⟩, rfl⟩; exact ⟨rfl, rfl⟩)
  refine spec_of t56r (by simp [p56r]) ?_
  simp only [p56r]
  first | refine pwp_sr ?_ | refine pwp_regionM ?_
  intro K hK
  simp (disch := first | (refine Ok.mk ?_; (try simp only [Lm, La, Lc, Ln, Lt, Ld, Lr, Li, true_or, or_true, true_and, and_true]); omega) | (simp <;> fail) | skip) [runM_nil]
  refine hK _ _ ?_
  clear hK K
  first | refine pwp_sr ?_ | refine pwp_regionM ?_
  intro K hK
  simp (disch := first | (refine Ok.mk ?_; (try simp only [Lm, La, Lc, Ln, Lt, Ld, Lr, Li, true_or, or_true, true_and, and_true]); omega) | (simp <;> fail) | skip) [runM_nil]
  refine hK _ _ ?_
  clear hK K
  have b1 : occ p a * n.length ≤ 100000000 * 1000 := Nat.mul_le_mul (by omega) hnl
  obtain ⟨A1, hA1⟩ : ∃ A1, A1 = occ p a * n.length := ⟨_, rfl⟩
  obtain ⟨A2, hA2⟩ : ∃ A2, A2 = occ p a * p.length := ⟨_, rfl⟩
  have hmul : (occ p a : Int) * ((n.length : Int) - (p.length : Int)) = (A1 : Int) - A2 := by rw [Int.mul_sub, hA1, hA2]; simp
  rw [← hA1] at hrl b1
  rw [← hA2] at hrl hol
  clear hA1 hA2
  obtain ⟨R, hR⟩ : ∃ R, R = repW p n a := ⟨_, rfl⟩
  rw [← hR] at hrl ⊢
  have hN : (a.length : Int) + ((A1 : Int) - A2) = (R.length : Int) := by omega
  have hp0 : ¬ p = [] := fun e => by rw [e] at h1; cases h1
  first | refine pwp_rif ?_ | refine pwp_rifE ?_
  intro K hK
  simp (disch := first | (refine Ok.mk ?_; (try simp only [Lm, La, Lc, Ln, Lt, Ld, Lr, Li, true_or, or_true, true_and, and_true]); omega) | (simp <;> fail) | skip) [runM_nil]
  refine hK _ _ ?_
  clear hK K
  refine ifT (by simp (disch := first | (refine Ok.mk ?_; (try simp only [Lm, La, Lc, Ln, Lt, Ld, Lr, Li, true_or, or_true, true_and, and_true]); omega) | (simp <;> fail) | skip) [runM_nil]) ?_
  first | refine pwp_sr ?_ | refine pwp_regionM ?_
  intro K hK
  simp (disch := first | (refine Ok.mk ?_; (try simp only [Lm, La, Lc, Ln, Lt, Ld, Lr, Li, true_or, or_true, true_and, and_true]); omega) | (simp <;> fail) | skip) [runM_nil]
  refine useP (hcnt) ?_
  simp (disch := first | (refine Ok.mk ?_; (try simp only [Lm, La, Lc, Ln, Lt, Ld, Lr, Li, true_or, or_true, true_and, and_true]); omega) | (simp <;> fail) | skip) [runM_nil]
  refine hK _ _ ?_
  clear hK K
  obtain ⟨m, hm⟩ : ∃ m, m = occ p a := ⟨_, rfl⟩
  rw [← hm] at hmul ho1 ⊢
  by_cases hm0 : m = 0
  · subst hm0
    have hRa : R = a := by
      rw [hR]
      exact repW_miss fun k => by rw [occ_hit h1 k] at hm; omega
    first | refine pwp_rif ?_ | refine pwp_rifE ?_
    intro K hK
    simp (disch := first | (refine Ok.mk ?_; (try simp only [Lm, La, Lc, Ln, Lt, Ld, Lr, Li, true_or, or_true, true_and, and_true]); omega) | (simp <;> fail) | skip) [runM_nil]
    refine hK _ _ ?_
    clear hK K
    refine ifT (by simp (disch := first | (refine Ok.mk ?_; (try simp only [Lm, La, Lc, Ln, Lt, Ld, Lr, Li, true_or, or_true, true_and, and_true]); omega) | (simp <;> fail) | skip) [runM_nil]) ?_
    first | refine pwp_sr ?_ | refine pwp_regionM ?_
    intro K hK
    simp (disch := first | (refine Ok.mk ?_; (try simp only [Lm, La, Lc, Ln, Lt, Ld, Lr, Li, true_or, or_true, true_and, and_true]); omega) | (simp <;> fail) | skip) [runM_nil, hxl]
    refine hK _ _ ?_
    clear hK K
    refine pwp_retT ⟨.inr rfl, _, _, (by simp [runM_nil, resL]; rfl), .refl _, true, (by simp [resV, hRa, hx]), rfl⟩
  · have m0 : ¬ (m : Int) = 0 := by omega
    first | refine pwp_rif ?_ | refine pwp_rifE ?_
    intro K hK
    simp (disch := first | (refine Ok.mk ?_; (try simp only [Lm, La, Lc, Ln, Lt, Ld, Lr, Li, true_or, or_true, true_and, and_true]); omega) | (simp <;> fail) | skip) [runM_nil, m0]
    refine hK _ _ ?_
    clear hK K
    refine ifF (by simp [runM_nil, hm0]) (pwp_skip ?_)
    first | refine pwp_rif ?_ | refine pwp_rifE ?_
    intro K hK
    simp (disch := first | (refine Ok.mk ?_; (try simp only [Lm, La, Lc, Ln, Lt, Ld, Lr, Li, true_or, or_true, true_and, and_true]); omega) | (simp <;> fail) | skip) [runM_nil]
    refine hK _ _ ?_
    clear hK K
    refine ifT (by simp (disch := first | (refine Ok.mk ?_; (try simp only [Lm, La, Lc, Ln, Lt, Ld, Lr, Li, true_or, or_true, true_and, and_true]); omega) | (simp <;> fail) | skip) [runM_nil]) ?_
    first | refine pwp_sr ?_ | refine pwp_regionM ?_
    intro K hK
    simp (disch := first | (refine Ok.mk ?_; (try simp only [Lm, La, Lc, Ln, Lt, Ld, Lr, Li, true_or, or_true, true_and, and_true]); omega) | (simp <;> fail) | skip) [runM_nil]
    refine hK _ _ ?_
    clear hK K
    have ez : List.replicate R.length (PV.int .u8 0) = zl R.length [] := by simp [zl]
    have hle : ∀ (k : Nat) (out : List Nat), out ++ repW p n (a.drop k) = R → out.length + (repW p n (a.drop k)).length = R.length := fun k out h => by rw [← h, La]
    first | refine pwp_sr ?_ | refine pwp_regionM ?_
    intro K hK
    simp (disch := first | (refine Ok.mk ?_; (try simp only [Lm, La, Lc, Ln, Lt, Ld, Lr, Li, true_or, or_true, true_and, and_true]); omega) | (simp <;> fail) | skip) [runM_nil, hxl, hyl, hzl, hmul, hN, ez]
    intro b h_b
    try simp (disch := first | (refine Ok.mk ?_; (try simp only [Lm, La, Lc, Ln, Lt, Ld, Lr, Li, true_or, or_true, true_and, and_true]); omega) | (simp <;> fail) | skip) [runM_nil, hxl, hyl, hzl, hmul, hN, ez]
    refine hK _ _ ?_
    clear hK K
    first | refine pwp_sr ?_ | refine pwp_regionM ?_
    intro K hK
    simp (disch := first | (refine Ok.mk ?_; (try simp only [Lm, La, Lc, Ln, Lt, Ld, Lr, Li, true_or, or_true, true_and, and_true]); omega) | (simp <;> fail) | skip) [runM_nil]
    refine hK _ _ ?_
    clear hK K
    first | refine pwp_sr ?_ | refine pwp_regionM ?_
    intro K hK
    simp (disch := first | (refine Ok.mk ?_; (try simp only [Lm, La, Lc, Ln, Lt, Ld, Lr, Li, true_or, or_true, true_and, and_true]); omega) | (simp <;> fail) | skip) [runM_nil]
    refine hK _ _ ?_
    clear hK K
    first | refine pwp_rif ?_ | refine pwp_rifE ?_
    intro K hK
    simp (disch := first | (refine Ok.mk ?_; (try simp only [Lm, La, Lc, Ln, Lt, Ld, Lr, Li, true_or, or_true, true_and, and_true]); omega) | (simp <;> fail) | skip) [runM_nil, hyl, hp0]
    refine hK _ _ ?_
    clear hK K
    refine ifT (by simp (disch := first | (refine Ok.mk ?_; (try simp only [Lm, La, Lc, Ln, Lt, Ld, Lr, Li, true_or, or_true, true_and, and_true]); omega) | (simp <;> fail) | skip) [runM_nil, hp0]) ?_
    first | refine pwp_sr ?_ | refine pwp_regionM ?_
    intro K hK
    simp (disch := first | (refine Ok.mk ?_; (try simp only [Lm, La, Lc, Ln, Lt, Ld, Lr, Li, true_or, or_true, true_and, and_true]); omega) | (simp <;> fail) | skip) [runM_nil]
    refine hK _ _ ?_
    clear hK K
    refine pwp_block ?_
    refine pwp_loopK [0, 1, 2, 10, 11, 12, 48, 49] (fun m' st H' => ∃ (i k : Nat) (out : List Nat), i ≤ m ∧ k ≤ a.length ∧ out ++ repW p n (a.drop k) = R ∧ i + occ p (a.drop k) = m ∧ m' = m - i ∧ H' = (b, zl R.length out) :: H ∧
        st = MS 132 [(0, .lst s xs o), (1, .lst 1 ys q), (2, .lst 1 zs u), (10, .row b 0 R.length R.length), (11, .int .i64 out.length), (12, .int .i64 k), (48, .int .i64 m), (49, .int .i64 i)]) (n := m)
      ⟨_, .refl _, 0, 0, [], by omega, by omega, (by rw [List.drop_zero, ← hR]; rfl), (by rw [List.drop_zero, ← hm, Nat.zero_add]), rfl, rfl, by simp [keepL_MS, keepA, getS]⟩ ?_
    rintro m' st _ ⟨i, k, out, hi, hk, hout, hocc, rfl, rfl, rfl⟩
    have hlen := hle k out hout
    by_cases him : i < m
    · have hd : dist p (a.drop k) < (a.drop k).length := (occ_pos h1).1 (by omega)
      have hr := dist_room hd
      have hh := occ_hit h1 hd
      have hw2 := repW_hit (n := n) h1 hd
      have c1 := index_ok (o1 := false) (o2 := false) (s1 := s) (xs := xs.drop k) (by rw [hx, List.map_drop]) (hs.imp id fun h => by rw [List.length_drop]; omega) hy h1 (by omega) (fun x hx => ha x (List.mem_of_mem_drop hx)) hp (by rw [List.length_drop]; omega)
      rw [ixI, if_pos hd] at c1
      have hld : (xs.drop k).length = a.length - k := by rw [List.length_drop, hxl]
      have hcut : (xs.take (k + dist p (a.drop k))).drop k = ((a.drop k).take (dist p (a.drop k))).map u8 := by
        rw [hx, ← List.map_take, ← List.map_drop, List.drop_take, Nat.add_sub_cancel_left]
      have hpl2 : ((a.drop k).take (dist p (a.drop k))).length = dist p (a.drop k) := by rw [List.length_take]; omega
      rw [List.drop_drop] at hw2 hh
      rw [hw2] at hout
      rw [List.length_drop] at hr
      rw [hw2, List.length_append, List.length_append, hpl2] at hlen
      generalize (a.drop k).take (dist p (a.drop k)) = Y at *
      generalize dist p (a.drop k) = d at *
      first | refine pwp_sr ?_ | refine pwp_regionM ?_
      intro K hK
      simp (disch := first | (refine Ok.mk ?_; (try simp only [Lm, La, Lc, Ln, Lt, Ld, Lr, Li, true_or, or_true, true_and, and_true]); omega) | (simp <;> fail) | skip) [runM_nil]
      refine hK _ _ ?_
      clear hK K
      refine pwp_seq (pwp_cT (by simp [him]) (pwp_skip ?_))
      refine pwp_seq (pwp_block ?_)
      first | refine pwp_sr ?_ | refine pwp_regionM ?_
      intro K hK
      simp (disch := first | (refine Ok.mk ?_; (try simp only [Lm, La, Lc, Ln, Lt, Ld, Lr, Li, true_or, or_true, true_and, and_true]); omega) | (simp <;> fail) | skip) [runM_nil, hxl]
      refine useP (c1) ?_
      simp (disch := first | (refine Ok.mk ?_; (try simp only [Lm, La, Lc, Ln, Lt, Ld, Lr, Li, true_or, or_true, true_and, and_true]); omega) | (simp <;> fail) | skip) [runM_nil, hxl]
      refine hK _ _ ?_
      clear hK K
      have hzo : (zl R.length out).length = R.length := zl_len (by omega)
      have hmin : min d (R.length - out.length) = d := by omega
      have hty : List.take d (Y.map u8) = Y.map u8 := List.take_of_length_le (by rw [Lm]; omega)
      have hput := zl_put (N := R.length) (out := out) (ys := Y) (by omega)
      rw [hpl2] at hput
      have hYl : (Y.map u8).length = d := by rw [Lm]; exact hpl2
      have hyd : List.drop k (List.take (k + d) xs) = Y.map u8 := hcut
      have g1 : ¬ R.length = out.length := by omega
      have htn : ((k : Int) + (d : Int)).toNat = k + d := by omega
      have hmi : min Y.length (R.length - out.length) = d := by omega
      have hcy := cells_u8 Y
      first | refine pwp_ss hmix ?_ | refine pwp_drawS hmix ?_
      intro K hK
      simp (disch := first | (refine Ok.mk ?_; (try simp only [Lm, La, Lc, Ln, Lt, Ld, Lr, Li, true_or, or_true, true_and, and_true]); omega) | (simp <;> fail) | skip) [runM_nil, planS_nil, hxl, hyd, hzo, htn, g1, hmi, hcy, hty, hput]
      refine hK _ _ ?_
      clear hK K
      have hzo2 : (zl R.length (out ++ Y)).length = R.length := zl_len (by rw [La]; omega)
      have g2 : ¬ R.length = out.length + d := by omega
      have hmi2 : min n.length (R.length - (out.length + d)) = n.length := by omega
      have hcn := cells_u8 n
      have htz : List.take n.length (n.map u8) = n.map u8 := List.take_of_length_le (by rw [Lm]; omega)
      have hput2 := zl_put (N := R.length) (out := out ++ Y) (ys := n) (by rw [La]; omega)
      rw [List.length_append, hpl2] at hput2
      have htn2 : ((out.length : Int) + (d : Int)).toNat = out.length + d := by omega
      have hzz : zs = n.map u8 := hz
      first | refine pwp_sr ?_ | refine pwp_regionM ?_
      intro K hK
      simp (disch := first | (refine Ok.mk ?_; (try simp only [Lm, La, Lc, Ln, Lt, Ld, Lr, Li, true_or, or_true, true_and, and_true]); omega) | (simp <;> fail) | skip) [runM_nil, hxl, hzz, hzl, hzo2, htn2, g2, hmi2, hcn, htz, hput2]
      refine hK _ _ ?_
      clear hK K
      rw [← hzz]
      refine pwp_regionM ?_
      intro K hK
      simp (disch := first | (refine Ok.mk ?_; (try simp only [Lm, La, Lc, Ln, Lt, Ld, Lr, Li, true_or, or_true, true_and, and_true]); omega) | (simp <;> fail) | skip) [runM_nil, hyl]
      refine hK _ _ ?_
      clear hK K
      first | refine pwp_sr ?_ | refine pwp_regionM ?_
      intro K hK
      simp (disch := first | (refine Ok.mk ?_; (try simp only [Lm, La, Lc, Ln, Lt, Ld, Lr, Li, true_or, or_true, true_and, and_true]); omega) | (simp <;> fail) | skip) [runM_nil]
      refine hK _ _ ?_
      clear hK K
      have hk2 : k + d + p.length ≤ a.length := by omega
      rw [Nat.add_assoc] at hk2
      refine ⟨m - (i + 1), by omega, _, .refl _, i + 1, k + (d + p.length), out ++ (Y ++ n), by omega, hk2, (by rw [List.append_assoc]; exact hout), by omega, rfl, rfl, ?_⟩
      have ec : ((out.length : Int) + d + n.length) = ((out ++ (Y ++ n)).length : Nat) := by rw [La, La]; omega
      have ek : ((k : Int) + d + p.length) = (k + (d + p.length) : Nat) := by omega
      simp [keepL_MS, keepA, getS, ec, ek]
      try omega
    · have hoc0 : occ p (a.drop k) = 0 := by omega
      have hno : ¬ dist p (a.drop k) < (a.drop k).length := fun h => by rw [occ_hit h1 h] at hoc0; cases hoc0
      rw [repW_miss hno] at hout hlen
      have hxd : xs.drop k = (a.drop k).map u8 := by rw [hx, List.map_drop]
      have hdl : (a.drop k).length = a.length - k := List.length_drop ..
      first | refine pwp_sr ?_ | refine pwp_regionM ?_
      intro K hK
      simp (disch := first | (refine Ok.mk ?_; (try simp only [Lm, La, Lc, Ln, Lt, Ld, Lr, Li, true_or, or_true, true_and, and_true]); omega) | (simp <;> fail) | skip) [runM_nil]
      refine hK _ _ ?_
      clear hK K
      refine pwp_seq (pwp_cF (by simp [him]) (pwp_exit ?_))
      have hzo : (zl R.length out).length = R.length := zl_len (by omega)
      generalize a.drop k = Y at *
      have hmi : min Y.length (R.length - out.length) = Y.length := by omega
      have hty : List.take Y.length (Y.map u8) = Y.map u8 := List.take_of_length_le (by rw [Lm]; omega)
      have hput := zl_put (N := R.length) (out := out) (ys := Y) (by omega)
      have hcy := cells_u8 Y
      rw [hout, zl_all] at hput
      have hre : (out.length : Int) + Y.length = R.length := by omega
      have hro : rowL 1 false (R.map u8) R.length R.length = some (.lst 1 (R.map u8) false) := rowL_plain (lendL_map (fun a => rfl) R) (by rw [Lm]) (by omega)
      by_cases g1 : R.length = out.length
      · have hY : Y = [] := List.length_eq_zero_iff.1 (by omega)
        subst hY
        rw [List.append_nil] at hout
        subst hout
        first | refine pwp_ss hmix ?_ | refine pwp_drawS hmix ?_
        intro K hK
        simp (disch := first | (refine Ok.mk ?_; (try simp only [Lm, La, Lc, Ln, Lt, Ld, Lr, Li, true_or, or_true, true_and, and_true]); omega) | (simp <;> fail) | skip) [runM_nil, planS_nil, hxl, hxd, hzo, zl_all]
        refine hK _ _ ?_
        clear hK K
        refine pwp_ro h_b ?_
        first | refine pwp_sr ?_ | refine pwp_regionM ?_
        intro K hK
        simp (disch := first | (refine Ok.mk ?_; (try simp only [Lm, La, Lc, Ln, Lt, Ld, Lr, Li, true_or, or_true, true_and, and_true]); omega) | (simp <;> fail) | skip) [runM_nil, hro]
        refine hK _ _ ?_
        clear hK K
        refine pwp_ret ⟨.inr rfl, _, _, (by simp [runM_nil, resL]; rfl), .refl _, false, (by simp [resV, take_u8]), rfl⟩
      · first | refine pwp_ss hmix ?_ | refine pwp_drawS hmix ?_
        intro K hK
        simp (disch := first | (refine Ok.mk ?_; (try simp only [Lm, La, Lc, Ln, Lt, Ld, Lr, Li, true_or, or_true, true_and, and_true]); omega) | (simp <;> fail) | skip) [runM_nil, planS_nil, hxl, hxd, hzo, g1, hmi, hcy, hty, hput, hre]
        refine hK _ _ ?_
        clear hK K
        refine pwp_ro h_b ?_
        first | refine pwp_sr ?_ | refine pwp_regionM ?_
        intro K hK
        simp (disch := first | (refine Ok.mk ?_; (try simp only [Lm, La, Lc, Ln, Lt, Ld, Lr, Li, true_or, or_true, true_and, and_true]); omega) | (simp <;> fail) | skip) [runM_nil, hro]
        refine hK _ _ ?_
        clear hK K
        refine pwp_ret ⟨.inr rfl, _, _, (by simp [runM_nil, resL]; rfl), .refl _, false, (by simp [resV, take_u8]), rfl⟩
end Go.Proofs.YtjcjbpbkakfjdaaDoor.E
/- Escaped bytes, and where markers begin. -/
namespace Go.Proofs.YtjcjbpbkakfjdaaDoor.E
open Go Go.RowKit Go.Proofs
set_option linter.unusedVariables false
set_option linter.unusedSimpArgs false
theorem two_lt {x y : Nat} (hx : x < 256) (hy : y < 256) : ∀ z ∈ [x, y], z < 256 := fun z hz => by
  rcases List.mem_cons.1 hz with rfl | hz
  · exact hx
  · rw [List.mem_singleton.1 hz]; exact hy
theorem one_lt {x : Nat} (hx : x < 256) : ∀ z ∈ [x], z < 256 := fun z hz => by rw [List.mem_singleton.1 hz]; exact hx
def escB (b : List Nat) : List Nat := repW [255] [255, 0] b
def unaB (b : List Nat) : List Nat × Nat := if b.count 255 + (repW [255, 0] [255] b).length = b.length then (repW [255, 0] [255] b, 0) else ([], 3)
theorem replAll_ok {s : Nat} {xs ys zs : List PV} {o q u : Bool} {r : PV} (h : PSpec Tryd.prog 56 [.lst s xs false, .lst 1 ys false, .lst 1 zs false, .int .i64 (-1)] r) (hr : lend r = r) :
    PSpec Tryd.prog 36 [.lst s xs o, .lst 1 ys q, .lst 1 zs u] r := by
  intro H
  refine spec_of t36 (by simp [p36]) ?_
  simp only [p36]
  first | refine pwp_sr ?_ | refine pwp_regionM ?_
  intro K hK
  simp (disch := first | (refine Ok.mk ?_; (try simp only [Lm, La, Lc, Ln, Lt, Ld, Lr, Li, true_or, or_true, true_and, and_true]); omega) | (simp <;> fail) | skip) [runM_nil]
  refine hK _ _ ?_
  clear hK K
  first | refine pwp_sr ?_ | refine pwp_regionM ?_
  intro K hK
  simp (disch := first | (refine Ok.mk ?_; (try simp only [Lm, La, Lc, Ln, Lt, Ld, Lr, Li, true_or, or_true, true_and, and_true]); omega) | (simp <;> fail) | skip) [runM_nil]
  refine useP (h) ?_
  simp (disch := first | (refine Ok.mk ?_; (try simp only [Lm, La, Lc, Ln, Lt, Ld, Lr, Li, true_or, or_true, true_and, and_true]); omega) | (simp <;> fail) | skip) [runM_nil]
  refine hK _ _ ?_
  clear hK K
  refine pwp_ret ⟨.inr rfl, _, _, (by simp (disch := first | (refine Ok.mk ?_; (try simp only [Lm, La, Lc, Ln, Lt, Ld, Lr, Li, true_or, or_true, true_and, and_true]); omega) | (simp <;> fail) | skip) [runM_nil, resL, hr]; rfl), .refl _, by simp (disch := first | (refine Ok.mk ?_; (try simp only [Lm, La, Lc, Ln, Lt, Ld, Lr, Li, true_or, or_true, true_and, and_true]); omega) | (simp <;> fail) | skip) [resV, hr], rfl⟩
theorem escape_ok {s : Nat} {xs : List PV} {o : Bool} {b : List Nat} (hx : xs = b.map u8) (hs : s = 1 ∨ b.length = 0) (hw : ∀ x ∈ b, x < 256) (hl : b.length ≤ 100000000) :
    PSpec Tryd.prog 15 [.lst s xs o] (bV (escB b) false) := by
  intro H
  have c0 := count1_ok (o := false) (q := false) hx hs hw 255 (by omega)
  rw [count_occ] at c0
  have c1 := replAll_ok (o := false) (q := false) (u := false) (replace_ok (o := false) (q := false) (u := false) (p := [255]) (n := [255, 0]) hx hs rfl rfl (by simp) (by simp) (by simp) (by simp) hw (one_lt (by omega)) hl c0) (by simp [lend, lendL_map])
  refine spec_of t15 (by simp [p15]) ?_
  simp only [p15]
  first | refine pwp_sr ?_ | refine pwp_regionM ?_
  intro K hK
  simp (disch := first | (refine Ok.mk ?_; (try simp only [Lm, La, Lc, Ln, Lt, Ld, Lr, Li, true_or, or_true, true_and, and_true]); omega) | (simp <;> fail) | skip) [runM_nil]
  refine hK _ _ ?_
  clear hK K
  first | refine pwp_sr ?_ | refine pwp_regionM ?_
  intro K hK
  simp (disch := first | (refine Ok.mk ?_; (try simp only [Lm, La, Lc, Ln, Lt, Ld, Lr, Li, true_or, or_true, true_and, and_true]); omega) | (simp <;> fail) | skip) [runM_nil]
  refine useP (c1) ?_
  simp (disch := first | (refine Ok.mk ?_; (try simp only [Lm, La, Lc, Ln, Lt, Ld, Lr, Li, true_or, or_true, true_and, and_true]); omega) | (simp <;> fail) | skip) [runM_nil]
  refine hK _ _ ?_
  clear hK K
  refine pwp_ret ⟨.inr rfl, _, _, (by simp (disch := first | (refine Ok.mk ?_; (try simp only [Lm, La, Lc, Ln, Lt, Ld, Lr, Li, true_or, or_true, true_and, and_true]); omega) | (simp <;> fail) | skip) [runM_nil, resL, escB]; rfl), .refl _, by simp (disch := first | (refine Ok.mk ?_; (try simp only [Lm, La, Lc, Ln, Lt, Ld, Lr, Li, true_or, or_true, true_and, and_true]); omega) | (simp <;> fail) | skip) [resV, escB], rfl⟩
theorem unesc_ok {s : Nat} {xs : List PV} {o : Bool} {b : List Nat} (hx : xs = b.map u8) (hs : s = 1 ∨ b.length = 0) (hw : ∀ x ∈ b, x < 256) (hl : b.length ≤ 100000000) :
    PSpec Tryd.prog 13 [.lst s xs o] (.tup [bV (unaB b).1 (decide ((unaB b).2 ≠ 0)), .int .i64 ((unaB b).2 : Nat)]) := by
  intro H
  have hxl : xs.length = b.length := by rw [hx, Lm]
  have c0 := count2_ok (o := false) (q := false) (p := [255, 0]) hx hs rfl (by simp) (by simp) hw (two_lt (by omega) (by omega)) (by omega)
  have c1 := replAll_ok (o := false) (q := false) (u := false) (replace_ok (o := false) (q := false) (u := false) (p := [255, 0]) (n := [255]) hx hs rfl rfl (by simp) (by simp) (by simp) (by simp) hw (two_lt (by omega) (by omega)) hl c0) (by simp [lend, lendL_map])
  have c2 := count1_ok (o := false) (q := false) hx hs hw 255 (by omega)
  have hr := rep_len (p := [255, 0]) (n := [255]) (by simp) _ b (Nat.le_refl _)
  have hc := List.count_le_length (a := 255) (l := b)
  unfold unaB
  simp only [List.length_cons, List.length_nil] at hr
  generalize repW [255, 0] [255] b = R at *
  generalize b.count 255 = C at *
  refine spec_ofU t13 (by simp [p13]) ?_
  simp only [p13]
  first | refine pwp_sr ?_ | refine pwp_regionM ?_
  intro K hK
  simp (disch := first | (refine Ok.mk ?_; (try simp only [Lm, La, Lc, Ln, Lt, Ld, Lr, Li, true_or, or_true, true_and, and_true]); omega) | (simp <;> fail) | skip) [runM_nil]
  refine hK _ _ ?_
  clear hK K
  first | refine pwp_sr ?_ | refine pwp_regionM ?_
  intro K hK
  simp (disch := first | (refine Ok.mk ?_; (try simp only [Lm, La, Lc, Ln, Lt, Ld, Lr, Li, true_or, or_true, true_and, and_true]); omega) | (simp <;> fail) | skip) [runM_nil]
  refine useP (c1) ?_
  simp (disch := first | (refine Ok.mk ?_; (try simp only [Lm, La, Lc, Ln, Lt, Ld, Lr, Li, true_or, or_true, true_and, and_true]); omega) | (simp <;> fail) | skip) [runM_nil]
  refine hK _ _ ?_
  clear hK K
  by_cases h : C + R.length = b.length
  · have h2 : (C : Int) = (b.length : Int) - R.length := by omega
    first | refine pwp_rif ?_ | refine pwp_rifE ?_
    intro K hK
    simp (disch := first | (refine Ok.mk ?_; (try simp only [Lm, La, Lc, Ln, Lt, Ld, Lr, Li, true_or, or_true, true_and, and_true]); omega) | (simp <;> fail) | skip) [runM_nil, hxl, h2]
    refine useP (c2) ?_
    simp (disch := first | (refine Ok.mk ?_; (try simp only [Lm, La, Lc, Ln, Lt, Ld, Lr, Li, true_or, or_true, true_and, and_true]); omega) | (simp <;> fail) | skip) [runM_nil, hxl, h2]
    refine hK _ _ ?_
    clear hK K
    refine ifF (by simp [runM_nil, h2]) (pwp_skip ?_)
    first | refine pwp_sr ?_ | refine pwp_regionM ?_
    intro K hK
    simp (disch := first | (refine Ok.mk ?_; (try simp only [Lm, La, Lc, Ln, Lt, Ld, Lr, Li, true_or, or_true, true_and, and_true]); omega) | (simp <;> fail) | skip) [runM_nil]
    refine hK _ _ ?_
    clear hK K
    refine pwp_ret ⟨.inr rfl, _, _, _, (by simp (disch := first | (refine Ok.mk ?_; (try simp only [Lm, La, Lc, Ln, Lt, Ld, Lr, Li, true_or, or_true, true_and, and_true]); omega) | (simp <;> fail) | skip) [runM_nil, resL, h]; rfl), .refl _, (by simp (disch := first | (refine Ok.mk ?_; (try simp only [Lm, La, Lc, Ln, Lt, Ld, Lr, Li, true_or, or_true, true_and, and_true]); omega) | (simp <;> fail) | skip) [resV, h]), rfl, rfl⟩
  · have h2 : ¬ (C : Int) = (b.length : Int) - R.length := by omega
    first | refine pwp_rif ?_ | refine pwp_rifE ?_
    intro K hK
    simp (disch := first | (refine Ok.mk ?_; (try simp only [Lm, La, Lc, Ln, Lt, Ld, Lr, Li, true_or, or_true, true_and, and_true]); omega) | (simp <;> fail) | skip) [runM_nil, hxl, h2]
    refine useP (c2) ?_
    simp (disch := first | (refine Ok.mk ?_; (try simp only [Lm, La, Lc, Ln, Lt, Ld, Lr, Li, true_or, or_true, true_and, and_true]); omega) | (simp <;> fail) | skip) [runM_nil, hxl, h2]
    refine hK _ _ ?_
    clear hK K
    refine ifT (by simp [runM_nil, h2]) ?_
    first | refine pwp_sr ?_ | refine pwp_regionM ?_
    intro K hK
    simp (disch := first | (refine Ok.mk ?_; (try simp only [Lm, La, Lc, Ln, Lt, Ld, Lr, Li, true_or, or_true, true_and, and_true]); omega) | (simp <;> fail) | skip) [runM_nil]
    refine hK _ _ ?_
    clear hK K
    refine pwp_ret (And.intro (.inr rfl) ⟨_, _, _, (by simp (disch := first | (refine Ok.mk ?_; (try simp only [Lm, La, Lc, Ln, Lt, Ld, Lr, Li, true_or, or_true, true_and, and_true]); omega) | (simp <;> fail) | skip) [runM_nil, resL, h]; rfl), .refl _, (by simp (disch := first | (refine Ok.mk ?_; (try simp only [Lm, La, Lc, Ln, Lt, Ld, Lr, Li, true_or, or_true, true_and, and_true]); omega) | (simp <;> fail) | skip) [resV, h]), rfl, rfl⟩)
def mkB (b : List Nat) (k : Nat) : Nat := min k b.length + dist [255, 83] (b.drop (min k b.length))
theorem marker_ok {s : Nat} {xs : List PV} {o : Bool} {b : List Nat} (hx : xs = b.map u8) (hs : s = 1 ∨ b.length = 0) (hw : ∀ x ∈ b, x < 256) (hl : b.length ≤ 100000000) (n : Int) :
    PSpec Tryd.prog 20 [.lst s xs o, .int .i64 n] (.int .i64 (mkB b n.toNat : Nat)) := by
  intro H
  have hxl : xs.length = b.length := by rw [hx, Lm]
  obtain ⟨k, hk⟩ : ∃ k, k = min n.toNat b.length := ⟨_, rfl⟩
  have hkl : k ≤ b.length := by omega
  have m1 : (if (0 : Int) < n then n else 0) = (n.toNat : Int) := by split <;> omega
  have m1b : (if n < (0 : Int) then 0 else n) = (n.toNat : Int) := by split <;> omega
  have m2 : (if (n.toNat : Int) < b.length then (n.toNat : Int) else b.length) = (k : Int) := by split <;> omega
  have m2b : (if (b.length : Int) < n.toNat then (b.length : Int) else n.toNat) = (k : Int) := by split <;> omega
  have m2c : (if b.length < n.toNat then (b.length : Int) else (n.toNat : Int)) = (k : Int) := by split <;> omega
  have m2d : (if n.toNat < b.length then (n.toNat : Int) else (b.length : Int)) = (k : Int) := by split <;> omega
  unfold mkB
  rw [← hk]
  have c1 := index_ok (o1 := false) (o2 := false) (s1 := s) (xs := xs.drop k) (p := [255, 83]) (by rw [hx, List.map_drop]) (hs.imp id fun h => by rw [List.length_drop]; omega) rfl (by simp) (by simp) (fun x hx => hw x (List.mem_of_mem_drop hx)) (two_lt (by omega) (by omega)) (by rw [List.length_drop]; omega)
  have hd := dist_le [255, 83] (b.drop k)
  rw [List.length_drop] at hd
  unfold ixI at c1
  rw [List.length_drop] at c1
  generalize n.toNat = N at *
  clear hk
  refine spec_of t20 (by simp [p20]) ?_
  simp only [p20]
  first | refine pwp_sr ?_ | refine pwp_regionM ?_
  intro K hK
  simp (disch := first | (refine Ok.mk ?_; (try simp only [Lm, La, Lc, Ln, Lt, Ld, Lr, Li, true_or, or_true, true_and, and_true]); omega) | (simp <;> fail) | skip) [runM_nil]
  refine hK _ _ ?_
  clear hK K
  first | refine pwp_sr ?_ | refine pwp_regionM ?_
  intro K hK
  simp (disch := first | (refine Ok.mk ?_; (try simp only [Lm, La, Lc, Ln, Lt, Ld, Lr, Li, true_or, or_true, true_and, and_true]); omega) | (simp <;> fail) | skip) [runM_nil, hxl, m1, m2, m1b, m2b, m2c, m2d]
  refine hK _ _ ?_
  clear hK K
  by_cases h : dist [255, 83] (b.drop k) < b.length - k
  · rw [if_pos h] at c1
    generalize dist [255, 83] (b.drop k) = d at *
    have n1 : ¬ (d : Int) < 0 := by omega
    first | refine pwp_sr ?_ | refine pwp_regionM ?_
    intro K hK
    simp (disch := first | (refine Ok.mk ?_; (try simp only [Lm, La, Lc, Ln, Lt, Ld, Lr, Li, true_or, or_true, true_and, and_true]); omega) | (simp <;> fail) | skip) [runM_nil, hxl]
    refine useP (c1) ?_
    simp (disch := first | (refine Ok.mk ?_; (try simp only [Lm, La, Lc, Ln, Lt, Ld, Lr, Li, true_or, or_true, true_and, and_true]); omega) | (simp <;> fail) | skip) [runM_nil, hxl]
    refine hK _ _ ?_
    clear hK K
    first | refine pwp_rif ?_ | refine pwp_rifE ?_
    intro K hK
    simp (disch := first | (refine Ok.mk ?_; (try simp only [Lm, La, Lc, Ln, Lt, Ld, Lr, Li, true_or, or_true, true_and, and_true]); omega) | (simp <;> fail) | skip) [runM_nil, n1]
    refine hK _ _ ?_
    clear hK K
    refine ifF (by simp (disch := first | (refine Ok.mk ?_; (try simp only [Lm, La, Lc, Ln, Lt, Ld, Lr, Li, true_or, or_true, true_and, and_true]); omega) | (simp <;> fail) | skip) [runM_nil]) (pwp_skip ?_)
    first | refine pwp_sr ?_ | refine pwp_regionM ?_
    intro K hK
    simp (disch := first | (refine Ok.mk ?_; (try simp only [Lm, La, Lc, Ln, Lt, Ld, Lr, Li, true_or, or_true, true_and, and_true]); omega) | (simp <;> fail) | skip) [runM_nil]
    refine hK _ _ ?_
    clear hK K
    refine pwp_ret ⟨.inr rfl, _, _, (by simp (disch := first | (refine Ok.mk ?_; (try simp only [Lm, La, Lc, Ln, Lt, Ld, Lr, Li, true_or, or_true, true_and, and_true]); omega) | (simp <;> fail) | skip) [runM_nil, resL]; rfl), .refl _, by simp (disch := first | (refine Ok.mk ?_; (try simp only [Lm, La, Lc, Ln, Lt, Ld, Lr, Li, true_or, or_true, true_and, and_true]); omega) | (simp <;> fail) | skip) [resV], rfl⟩
  · rw [if_neg h] at c1
    have e : k + dist [255, 83] (b.drop k) = b.length := by omega
    rw [e]
    first | refine pwp_sr ?_ | refine pwp_regionM ?_
    intro K hK
    simp (disch := first | (refine Ok.mk ?_; (try simp only [Lm, La, Lc, Ln, Lt, Ld, Lr, Li, true_or, or_true, true_and, and_true]); omega) | (simp <;> fail) | skip) [runM_nil, hxl]
    refine useP (c1) ?_
    simp (disch := first | (refine Ok.mk ?_; (try simp only [Lm, La, Lc, Ln, Lt, Ld, Lr, Li, true_or, or_true, true_and, and_true]); omega) | (simp <;> fail) | skip) [runM_nil, hxl]
    refine hK _ _ ?_
    clear hK K
    first | refine pwp_rif ?_ | refine pwp_rifE ?_
    intro K hK
    simp (disch := first | (refine Ok.mk ?_; (try simp only [Lm, La, Lc, Ln, Lt, Ld, Lr, Li, true_or, or_true, true_and, and_true]); omega) | (simp <;> fail) | skip) [runM_nil]
    refine hK _ _ ?_
    clear hK K
    refine ifT (by simp (disch := first | (refine Ok.mk ?_; (try simp only [Lm, La, Lc, Ln, Lt, Ld, Lr, Li, true_or, or_true, true_and, and_true]); omega) | (simp <;> fail) | skip) [runM_nil]) ?_
    first | refine pwp_sr ?_ | refine pwp_regionM ?_
    intro K hK
    simp (disch := first | (refine Ok.mk ?_; (try simp only [Lm, La, Lc, Ln, Lt, Ld, Lr, Li, true_or, or_true, true_and, and_true]); omega) | (simp <;> fail) | skip) [runM_nil, hxl]
    refine hK _ _ ?_
    clear hK K
    refine pwp_retT ⟨.inr rfl, _, _, (by simp (disch := first | (refine Ok.mk ?_; (try simp only [Lm, La, Lc, Ln, Lt, Ld, Lr, Li, true_or, or_true, true_and, and_true]); omega) | (simp <;> fail) | skip) [runM_nil, resL]; rfl), .refl _, by simp (disch := first | (refine Ok.mk ?_; (try simp only [Lm, La, Lc, Ln, Lt, Ld, Lr, Li, true_or, or_true, true_and, and_true]); omega) | (simp <;> fail) | skip) [resV], rfl⟩
end Go.Proofs.YtjcjbpbkakfjdaaDoor.E
/- Varints: what the program's functions and the document's come to. -/
namespace Go.Proofs.YtjcjbpbkakfjdaaDoor.E
open Go Go.RowKit Go.Proofs
set_option linter.unusedVariables false
set_option linter.unusedSimpArgs false
theorem lenL_get {v : Nat} (h : v < 256) : lenL[v]? = some ((bl v : Nat) : Int) ∧ bl v ≤ 8 := by
  obtain ⟨l, hl, h1, h2⟩ := lenL_at v (List.mem_range.2 h)
  rw [isLen_unique (isLen_bl v) h2]
  exact ⟨h1, by have := List.mem_range.1 hl; omega⟩
theorem lenL_len : lenL.length = 256 := by decide +kernel
theorem bl_up {n m : Nat} (hn : 2 ^ m ≤ n) : bl n = bl (n / 2 ^ m) + m := isLen_unique (isLen_bl n) (isLen_up hn (isLen_bl _))
set_option maxRecDepth 4000 in
theorem len64_ok (n : Nat) (h : n < 18446744073709551616) : PSpec Tryd.prog 68 [.int .u64 n] (.int .i64 (bl n : Nat)) := by
  intro H
  refine spec_of t68 (by simp [p68]) ?_
  simp only [p68]
  generalize hL : lenL = L
  have hLl : L.length = 256 := by rw [← hL]; exact lenL_len
  first | refine pwp_sr ?_ | refine pwp_regionM ?_
  intro K hK
  simp (disch := first | (refine Ok.mk ?_; (try simp only [Lm, La, Lc, Ln, Lt, Ld, Lr, Li, true_or, or_true, true_and, and_true]); omega) | (simp <;> fail) | skip) [runM_nil]
  refine hK _ _ ?_
  clear hK K
  refine pwp_cut [0, 2] (fun st2 H2 => ∃ m s : Nat, m < 4294967296 ∧ bl n = bl m + s ∧ s ≤ 32 ∧ st2 = MS 25 [(0, .int .u64 m), (2, .int .i64 s)] ∧ H = H2) ?_ ?_
  · first | refine pwp_rif ?_ | refine pwp_rifE ?_
    intro K hK
    simp (disch := first | (refine Ok.mk ?_; (try simp only [Lm, La, Lc, Ln, Lt, Ld, Lr, Li, true_or, or_true, true_and, and_true]); omega) | (simp <;> fail) | skip) [runM_nil]
    refine hK _ _ ?_
    clear hK K
    refine ⟨_, (by simp (disch := first | (refine Ok.mk ?_; (try simp only [Lm, La, Lc, Ln, Lt, Ld, Lr, Li, true_or, or_true, true_and, and_true]); omega) | (simp <;> fail) | skip) [runM_nil]; rfl), fun hc => ?_, fun hc => ?_⟩ <;> try simp at hc
    · have e := bl_up (n := n) (m := 32) (by omega)
      first | refine pwp_sr ?_ | refine pwp_regionM ?_
      intro K hK
      simp (disch := first | (refine Ok.mk ?_; (try simp only [Lm, La, Lc, Ln, Lt, Ld, Lr, Li, true_or, or_true, true_and, and_true]); omega) | (simp <;> fail) | skip) [runM_nil]
      refine hK _ _ ?_
      clear hK K
      first | refine pwp_sr ?_ | refine pwp_regionM ?_
      intro K hK
      simp (disch := first | (refine Ok.mk ?_; (try simp only [Lm, La, Lc, Ln, Lt, Ld, Lr, Li, true_or, or_true, true_and, and_true]); omega) | (simp <;> fail) | skip) [runM_nil]
      refine hK _ _ ?_
      clear hK K
      exact cut_to (by simp [keepA, getS]) (.refl _) ⟨n / 4294967296, 32, by omega, e, by omega, rfl, rfl⟩
    · refine pwp_skip ?_
      exact cut_to (by simp [keepA, getS]) (.refl _) ⟨n, 0, by omega, by omega, by omega, rfl, rfl⟩
  rintro _ _ ⟨m, s, hm, hb, hs, rfl, rfl⟩
  refine pwp_cut [0, 2] (fun st2 H2 => ∃ m s : Nat, m < 65536 ∧ bl n = bl m + s ∧ s ≤ 48 ∧ st2 = MS 25 [(0, .int .u64 m), (2, .int .i64 s)] ∧ H = H2) ?_ ?_
  · first | refine pwp_rif ?_ | refine pwp_rifE ?_
    intro K hK
    simp (disch := first | (refine Ok.mk ?_; (try simp only [Lm, La, Lc, Ln, Lt, Ld, Lr, Li, true_or, or_true, true_and, and_true]); omega) | (simp <;> fail) | skip) [runM_nil]
    refine hK _ _ ?_
    clear hK K
    refine ⟨_, (by simp (disch := first | (refine Ok.mk ?_; (try simp only [Lm, La, Lc, Ln, Lt, Ld, Lr, Li, true_or, or_true, true_and, and_true]); omega) | (simp <;> fail) | skip) [runM_nil]; rfl), fun hc => ?_, fun hc => ?_⟩ <;> try simp at hc
    · have e : bl m = bl (m / 65536) + 16 := bl_up (m := 16) (by omega)
      first | refine pwp_sr ?_ | refine pwp_regionM ?_
      intro K hK
      simp (disch := first | (refine Ok.mk ?_; (try simp only [Lm, La, Lc, Ln, Lt, Ld, Lr, Li, true_or, or_true, true_and, and_true]); omega) | (simp <;> fail) | skip) [runM_nil]
      refine hK _ _ ?_
      clear hK K
      first | refine pwp_sr ?_ | refine pwp_regionM ?_
      intro K hK
      simp (disch := first | (refine Ok.mk ?_; (try simp only [Lm, La, Lc, Ln, Lt, Ld, Lr, Li, true_or, or_true, true_and, and_true]); omega) | (simp <;> fail) | skip) [runM_nil]
      refine hK _ _ ?_
      clear hK K
      exact cut_to (by simp [keepA, getS]) (.refl _) ⟨m / 65536, s + 16, by omega, by omega, by omega, rfl, rfl⟩
    · refine pwp_skip ?_
      exact cut_to (by simp [keepA, getS]) (.refl _) ⟨m, s, by omega, by omega, by omega, rfl, rfl⟩
  clear hm hb hs
  rintro _ _ ⟨m, s, hm, hb, hs, rfl, rfl⟩
  refine pwp_cut [0, 2] (fun st2 H2 => ∃ m s : Nat, m < 256 ∧ bl n = bl m + s ∧ s ≤ 56 ∧ st2 = MS 25 [(0, .int .u64 m), (2, .int .i64 s)] ∧ H = H2) ?_ ?_
  · first | refine pwp_rif ?_ | refine pwp_rifE ?_
    intro K hK
    simp (disch := first | (refine Ok.mk ?_; (try simp only [Lm, La, Lc, Ln, Lt, Ld, Lr, Li, true_or, or_true, true_and, and_true]); omega) | (simp <;> fail) | skip) [runM_nil]
    refine hK _ _ ?_
    clear hK K
    refine ⟨_, (by simp (disch := first | (refine Ok.mk ?_; (try simp only [Lm, La, Lc, Ln, Lt, Ld, Lr, Li, true_or, or_true, true_and, and_true]); omega) | (simp <;> fail) | skip) [runM_nil]; rfl), fun hc => ?_, fun hc => ?_⟩ <;> try simp at hc
    · have e : bl m = bl (m / 256) + 8 := bl_up (m := 8) (by omega)
      first | refine pwp_sr ?_ | refine pwp_regionM ?_
      intro K hK
      simp (disch := first | (refine Ok.mk ?_; (try simp only [Lm, La, Lc, Ln, Lt, Ld, Lr, Li, true_or, or_true, true_and, and_true]); omega) | (simp <;> fail) | skip) [runM_nil]
      refine hK _ _ ?_
      clear hK K
      first | refine pwp_sr ?_ | refine pwp_regionM ?_
      intro K hK
      simp (disch := first | (refine Ok.mk ?_; (try simp only [Lm, La, Lc, Ln, Lt, Ld, Lr, Li, true_or, or_true, true_and, and_true]); omega) | (simp <;> fail) | skip) [runM_nil]
      refine hK _ _ ?_
      clear hK K
      exact cut_to (by simp [keepA, getS]) (.refl _) ⟨m / 256, s + 8, by omega, by omega, by omega, rfl, rfl⟩
    · refine pwp_skip ?_
      exact cut_to (by simp [keepA, getS]) (.refl _) ⟨m, s, by omega, by omega, by omega, rfl, rfl⟩
  clear hm hb hs
  rintro _ _ ⟨m, s, hm, hb, hs, rfl, rfl⟩
  have hg := lenL_get hm
  rw [hL] at hg
  obtain ⟨hg, h8⟩ := hg
  first | refine pwp_sr ?_ | refine pwp_regionM ?_
  intro K hK
  simp (disch := first | (refine Ok.mk ?_; (try simp only [Lm, La, Lc, Ln, Lt, Ld, Lr, Li, true_or, or_true, true_and, and_true]); omega) | (simp <;> fail) | skip) [runM_nil, hg, hm, hLl]
  refine hK _ _ ?_
  clear hK K
  refine pwp_ret ⟨.inr rfl, _, _, (by simp (disch := first | (refine Ok.mk ?_; (try simp only [Lm, La, Lc, Ln, Lt, Ld, Lr, Li, true_or, or_true, true_and, and_true]); omega) | (simp <;> fail) | skip) [runM_nil, resL, hb, Int.add_comm]; rfl), .refl _, by simp (disch := first | (refine Ok.mk ?_; (try simp only [Lm, La, Lc, Ln, Lt, Ld, Lr, Li, true_or, or_true, true_and, and_true]); omega) | (simp <;> fail) | skip) [resV, hb, Int.add_comm], rfl⟩
theorem size_ok (n : Nat) (h : n < 18446744073709551616) : PSpec Tryd.prog 47 [.int .u64 n] (.int .i64 ((vb n).length : Nat)) := by
  intro H
  have c := len64_ok n h
  have e := isLen_vb (isLen_bl n)
  have hb : bl n ≤ 64 := by
    obtain ⟨_, h2⟩ := isLen_bl n
    rcases h2 with h2 | h2
    · omega
    · by_cases h3 : bl n ≤ 64
      · exact h3
      · have := Nat.pow_le_pow_right (n := 2) (by omega) (show 64 ≤ bl n - 1 by omega)
        omega
  generalize bl n = l at *
  refine spec_of t47 (by simp [p47]) ?_
  simp only [p47]
  first | refine pwp_sr ?_ | refine pwp_regionM ?_
  intro K hK
  simp (disch := first | (refine Ok.mk ?_; (try simp only [Lm, La, Lc, Ln, Lt, Ld, Lr, Li, true_or, or_true, true_and, and_true]); omega) | (simp <;> fail) | skip) [runM_nil]
  refine hK _ _ ?_
  clear hK K
  first | refine pwp_sr ?_ | refine pwp_regionM ?_
  intro K hK
  simp (disch := first | (refine Ok.mk ?_; (try simp only [Lm, La, Lc, Ln, Lt, Ld, Lr, Li, true_or, or_true, true_and, and_true]); omega) | (simp <;> fail) | skip) [runM_nil]
  refine useP (c) ?_
  simp (disch := first | (refine Ok.mk ?_; (try simp only [Lm, La, Lc, Ln, Lt, Ld, Lr, Li, true_or, or_true, true_and, and_true]); omega) | (simp <;> fail) | skip) [runM_nil]
  refine hK _ _ ?_
  clear hK K
  refine pwp_ret ⟨.inr rfl, _, _, (by simp [resL]; rfl), .refl _, ?_, rfl⟩
  simp only [resV, e]
  congr 1
  split <;> split <;> omega
end Go.Proofs.YtjcjbpbkakfjdaaDoor.E
/- Varints: numbers put, and taken. -/
namespace Go.Proofs.YtjcjbpbkakfjdaaDoor.E
open Go Go.RowKit Go.Proofs
set_option linter.unusedVariables false
set_option linter.unusedSimpArgs false
theorem or128 : ∀ v ∈ List.range 256, v ||| 128 = v % 128 + 128 := by decide +kernel
theorem vb_acc {b acc : List Nat} {n m : Nat} (h : acc ++ vb m = b ++ vb n) (hn : n < 18446744073709551616) : acc.length ≤ b.length + 9 := by
  have h1 := congrArg List.length h
  simp only [List.length_append] at h1
  have h2 := vb_length_le10 hn
  have h3 := vb_length_pos m
  omega
theorem put_ok {s : Nat} {xs : List PV} {o : Bool} {b : List Nat} (hx : xs = b.map u8) (hs : s = 1 ∨ b.length = 0) (n : Nat) (hn : n < 18446744073709551616) (hl : b.length ≤ 100000000000000) :
    PSpec Tryd.prog 28 [.lst s xs o, .int .u64 n] (bV (b ++ vb n) true) := by
  subst hx
  intro H
  have c := size_ok n hn
  have h10 := vb_length_le10 hn
  refine spec_of t28 (by simp [p28]) ?_
  simp only [p28]
  first | refine pwp_sr ?_ | refine pwp_regionM ?_
  intro K hK
  simp (disch := first | (refine Ok.mk ?_; (try simp only [Lm, La, Lc, Ln, Lt, Ld, Lr, Li, true_or, or_true, true_and, and_true]); omega) | (simp <;> fail) | skip) [runM_nil]
  refine hK _ _ ?_
  clear hK K
  first | refine pwp_sr ?_ | refine pwp_regionM ?_
  intro K hK
  simp (disch := first | (refine Ok.mk ?_; (try simp only [Lm, La, Lc, Ln, Lt, Ld, Lr, Li, true_or, or_true, true_and, and_true]); omega) | (simp <;> fail) | skip) [runM_nil]
  refine useP (c) ?_
  simp (disch := first | (refine Ok.mk ?_; (try simp only [Lm, La, Lc, Ln, Lt, Ld, Lr, Li, true_or, or_true, true_and, and_true]); omega) | (simp <;> fail) | skip) [runM_nil]
  refine hK _ _ ?_
  clear hK K
  refine pwp_seq (pwp_block ?_)
  refine pwp_loopK [1, 5] (fun k st H' => ∃ (acc : List Nat), acc ++ vb k = b ++ vb n ∧ k < 18446744073709551616 ∧ H' = H ∧ st = MS 29 [(1, .int .u64 k), (5, bV acc true)]) (n := n)
    ⟨_, .refl _, b, rfl, hn, rfl, by simp [keepL_MS, keepA, getS]⟩ ?_
  rintro k st _ ⟨acc, ha, hk, rfl, rfl⟩
  have hal := vb_acc ha hn
  first | refine pwp_rif ?_ | refine pwp_rifE ?_
  intro K hK
  simp (disch := first | (refine Ok.mk ?_; (try simp only [Lm, La, Lc, Ln, Lt, Ld, Lr, Li, true_or, or_true, true_and, and_true]); omega) | (simp <;> fail) | skip) [runM_nil]
  refine hK _ _ ?_
  clear hK K
  refine ⟨_, (by simp (disch := first | (refine Ok.mk ?_; (try simp only [Lm, La, Lc, Ln, Lt, Ld, Lr, Li, true_or, or_true, true_and, and_true]); omega) | (simp <;> fail) | skip) [runM_nil]; rfl), fun hc => ?_, fun hc => ?_⟩ <;> try simp at hc
  · have ho : k % 256 ||| 128 = k % 128 + 128 := (or128 (k % 256) (List.mem_range.2 (by omega))).trans (by omega)
    have e1 : ((k : Int) % 256).toNat = k % 256 := by omega
    rw [vb_big (by omega)] at ha
    refine pwp_skip ?_
    refine pwp_seq (pwp_block ?_)
    first | refine pwp_sr ?_ | refine pwp_regionM ?_
    intro K hK
    simp (disch := first | (refine Ok.mk ?_; (try simp only [Lm, La, Lc, Ln, Lt, Ld, Lr, Li, true_or, or_true, true_and, and_true]); omega) | (simp <;> fail) | skip) [runM_nil, wm_u8, e1, ho]
    refine hK _ _ ?_
    clear hK K
    first | refine pwp_sr ?_ | refine pwp_regionM ?_
    intro K hK
    simp (disch := first | (refine Ok.mk ?_; (try simp only [Lm, La, Lc, Ln, Lt, Ld, Lr, Li, true_or, or_true, true_and, and_true]); omega) | (simp <;> fail) | skip) [runM_nil]
    refine hK _ _ ?_
    clear hK K
    refine ⟨k / 128, by omega, _, .refl _, acc ++ [k % 128 + 128], by rw [List.append_assoc]; exact ha, by omega, rfl, ?_⟩
    simp [keepL_MS, keepA, getS]
  · refine pwp_exit ?_
    rw [vb_small (by omega)] at ha
    first | refine pwp_sr ?_ | refine pwp_regionM ?_
    intro K hK
    simp (disch := first | (refine Ok.mk ?_; (try simp only [Lm, La, Lc, Ln, Lt, Ld, Lr, Li, true_or, or_true, true_and, and_true]); omega) | (simp <;> fail) | skip) [runM_nil]
    refine hK _ _ ?_
    clear hK K
    rw [← ha]
    refine pwp_ret ⟨.inr rfl, _, _, (by simp (disch := first | (refine Ok.mk ?_; (try simp only [Lm, La, Lc, Ln, Lt, Ld, Lr, Li, true_or, or_true, true_and, and_true]); omega) | (simp <;> fail) | skip) [runM_nil, resL]; rfl), .refl _, by simp (disch := first | (refine Ok.mk ?_; (try simp only [Lm, La, Lc, Ln, Lt, Ld, Lr, Li, true_or, or_true, true_and, and_true]); omega) | (simp <;> fail) | skip) [resV], rfl⟩
end Go.Proofs.YtjcjbpbkakfjdaaDoor.E
/- Varints: frames, and what is taken off. -/
namespace Go.Proofs.YtjcjbpbkakfjdaaDoor.E
open Go Go.RowKit Go.Proofs
set_option linter.unusedVariables false
set_option linter.unusedSimpArgs false
theorem frame_ok {s : Nat} {xs : List PV} {o : Bool} {b : List Nat} (hx : xs = b.map u8) (hs : s = 1 ∨ b.length = 0) (t : List Nat) (hl : b.length + t.length ≤ 100000000000000) :
    PSpec Tryd.prog 48 [.lst s xs o, .str (ci t)] (bV (b ++ vb t.length ++ t) true) := by
  intro H
  have h10 := vb_length_le10 (n := t.length) (by omega)
  have c := put_ok (s := s) (o := false) hx hs t.length (by omega) (by omega)
  refine spec_of t48 (by simp [p48]) ?_
  simp only [p48]
  first | refine pwp_sr ?_ | refine pwp_regionM ?_
  intro K hK
  simp (disch := first | (refine Ok.mk ?_; (try simp only [Lm, La, Lc, Ln, Lt, Ld, Lr, Li, true_or, or_true, true_and, and_true]); omega) | (simp <;> fail) | skip) [runM_nil]
  refine hK _ _ ?_
  clear hK K
  first | refine pwp_sr ?_ | refine pwp_regionM ?_
  intro K hK
  simp (disch := first | (refine Ok.mk ?_; (try simp only [Lm, La, Lc, Ln, Lt, Ld, Lr, Li, true_or, or_true, true_and, and_true]); omega) | (simp <;> fail) | skip) [runM_nil]
  refine useP (c) ?_
  simp (disch := first | (refine Ok.mk ?_; (try simp only [Lm, La, Lc, Ln, Lt, Ld, Lr, Li, true_or, or_true, true_and, and_true]); omega) | (simp <;> fail) | skip) [runM_nil]
  refine hK _ _ ?_
  clear hK K
  refine pwp_ret ⟨.inr rfl, _, _, (by simp (disch := first | (refine Ok.mk ?_; (try simp only [Lm, La, Lc, Ln, Lt, Ld, Lr, Li, true_or, or_true, true_and, and_true]); omega) | (simp <;> fail) | skip) [runM_nil, resL]; rfl), .refl _, by simp (disch := first | (refine Ok.mk ?_; (try simp only [Lm, La, Lc, Ln, Lt, Ld, Lr, Li, true_or, or_true, true_and, and_true]); omega) | (simp <;> fail) | skip) [resV], rfl⟩
end Go.Proofs.YtjcjbpbkakfjdaaDoor.E
/- Varints: a number taken off. -/
namespace Go.Proofs.YtjcjbpbkakfjdaaDoor.E
open Go Go.RowKit Go.Proofs
set_option linter.unusedVariables false
set_option linter.unusedSimpArgs false
theorem andNot128 : ∀ c ∈ List.range 256, bitsP .andNot .u8 (c : Int) 128 = some ((c % 128 : Nat) : Int) := by decide +kernel
def gv (x i : Nat) : Nat := x % 128 * 2 ^ (7 * i) % 18446744073709551616
theorem gv_lt (x i : Nat) : gv x i < 18446744073709551616 := Nat.mod_lt _ (by omega)
theorem gv_wrap (x i : Nat) : IntKind.u64.wrap ((x : Int) % 128 * 2 ^ (7 * i)) = (gv x i : Nat) := by
  rw [wm_u64]
  simp [gv]
theorem gv_or {i x a : Nat} (hi : i ≤ 9) (h9 : i = 9 → x % 128 ≤ 1) (ha : a < 128 ^ i) : (a ||| gv x i) = a + x % 128 * 128 ^ i := by
  have e7 : (2 : Nat) ^ (7 * i) = 128 ^ i := by rw [Nat.pow_mul]
  have hx : x % 128 ≤ 127 := by omega
  have hlt : x % 128 * 2 ^ (7 * i) < 18446744073709551616 := by
    rw [e7]
    rcases Nat.lt_or_ge i 9 with h | h
    · have h3 : (128 : Nat) ^ i ≤ 128 ^ 8 := Nat.pow_le_pow_right (by omega) (by omega)
      have h4 : x % 128 * 128 ^ i ≤ 127 * 128 ^ 8 := Nat.mul_le_mul hx h3
      omega
    · obtain rfl : i = 9 := by omega
      have h4 : x % 128 * 128 ^ 9 ≤ 1 * 128 ^ 9 := Nat.mul_le_mul (h9 rfl) (Nat.le_refl _)
      omega
  unfold gv
  rw [Nat.mod_eq_of_lt hlt]
  have := Nat.two_pow_add_eq_or_of_lt (i := 7 * i) (b := a) (by rw [e7]; exact ha) (x % 128)
  rw [Nat.mul_comm (x % 128), Nat.or_comm, ← this, Nat.add_comm, e7, Nat.mul_comm]
set_option maxRecDepth 4000 in
theorem take_ok {s : Nat} {xs : List PV} {o : Bool} {b : List Nat} (hx : xs = b.map u8) (hs : s = 1 ∨ b.length = 0) (hw : ∀ x ∈ b, x < 256) (hl : b.length ≤ 100000000000000) :
    PSpec Tryd.prog 81 [.lst s xs o] (.tup [.int .u64 ((vtake b).1 : Nat), bV (vtake b).2.1 true, .int .i64 ((vtake b).2.2 : Nat)]) := by
  subst hx
  intro H
  have hll := lead_le b
  refine spec_ofU t81 (by simp [p81]) ?_
  simp only [p81]
  first | refine pwp_sr ?_ | refine pwp_regionM ?_
  intro K hK
  simp (disch := first | (refine Ok.mk ?_; (try simp only [Lm, La, Lc, Ln, Lt, Ld, Lr, Li, true_or, or_true, true_and, and_true]); omega) | (simp <;> fail) | skip) [runM_nil]
  refine hK _ _ ?_
  clear hK K
  first | refine pwp_sr ?_ | refine pwp_regionM ?_
  intro K hK
  simp (disch := first | (refine Ok.mk ?_; (try simp only [Lm, La, Lc, Ln, Lt, Ld, Lr, Li, true_or, or_true, true_and, and_true]); omega) | (simp <;> fail) | skip) [runM_nil]
  refine hK _ _ ?_
  clear hK K
  refine pwp_seq ?_
  first | refine pwp_sr ?_ | refine pwp_regionM ?_
  intro K hK
  simp (disch := first | (refine Ok.mk ?_; (try simp only [Lm, La, Lc, Ln, Lt, Ld, Lr, Li, true_or, or_true, true_and, and_true]); omega) | (simp <;> fail) | skip) [runM_nil]
  refine hK _ _ ?_
  clear hK K
  refine pwp_block ?_
  refine pwp_loopK [0, 5, 8, 9, 10] (fun m st H' => ∃ i n : Nat, i ≤ lead b ∧ i ≤ 10 ∧ m = b.length - i ∧ n < 18446744073709551616 ∧ (i ≤ 9 → n = num (b.take i)) ∧ H' = H ∧
      st = MS 51 [(0, .lst s (b.map u8) o), (5, .int .u64 n), (8, .lst s (b.map u8) false), (9, .int .i64 b.length), (10, .int .i64 i)]) (n := b.length)
    ⟨_, .refl _, 0, 0, Nat.zero_le _, by omega, rfl, by omega, fun _ => rfl, rfl, by simp [keepL_MS, keepA, getS]⟩ ?_
  rintro m st _ ⟨i, n, h1, h2, rfl, hn, hnum, rfl, rfl⟩
  by_cases hi : i < b.length
  case neg =>
    first | refine pwp_sr ?_ | refine pwp_regionM ?_
    intro K hK
    simp (disch := first | (refine Ok.mk ?_; (try simp only [Lm, La, Lc, Ln, Lt, Ld, Lr, Li, true_or, or_true, true_and, and_true]); omega) | (simp <;> fail) | skip) [runM_nil, hi]
    refine hK _ _ ?_
    clear hK K
    refine pwp_seq (pwp_cF (by simp) (pwp_exit ?_))
    by_cases h10 : i = 10
    · have e : vtake b = (0, [], 3) := by unfold vtake; rw [if_pos (by omega)]
      rw [e]
      have h3 : (10 : Int) ≤ b.length := by omega
      first | refine pwp_rif ?_ | refine pwp_rifE ?_
      intro K hK
      simp (disch := first | (refine Ok.mk ?_; (try simp only [Lm, La, Lc, Ln, Lt, Ld, Lr, Li, true_or, or_true, true_and, and_true]); omega) | (simp <;> fail) | skip) [runM_nil, h3]
      refine hK _ _ ?_
      clear hK K
      refine ifT (by simp (disch := first | (refine Ok.mk ?_; (try simp only [Lm, La, Lc, Ln, Lt, Ld, Lr, Li, true_or, or_true, true_and, and_true]); omega) | (simp <;> fail) | skip) [runM_nil]) ?_
      first | refine pwp_sr ?_ | refine pwp_regionM ?_
      intro K hK
      simp (disch := first | (refine Ok.mk ?_; (try simp only [Lm, La, Lc, Ln, Lt, Ld, Lr, Li, true_or, or_true, true_and, and_true]); omega) | (simp <;> fail) | skip) [runM_nil]
      refine hK _ _ ?_
      clear hK K
      refine pwp_ret ⟨.inr rfl, _, _, _, (by simp (disch := first | (refine Ok.mk ?_; (try simp only [Lm, La, Lc, Ln, Lt, Ld, Lr, Li, true_or, or_true, true_and, and_true]); omega) | (simp <;> fail) | skip) [runM_nil, resL]; rfl), .refl _, (by simp (disch := first | (refine Ok.mk ?_; (try simp only [Lm, La, Lc, Ln, Lt, Ld, Lr, Li, true_or, or_true, true_and, and_true]); omega) | (simp <;> fail) | skip) [resV]), rfl, rfl⟩
    · have e : vtake b = (0, [], 2) := by unfold vtake; rw [if_neg (by omega), if_pos (by omega)]
      rw [e]
      have h3 : ¬ (10 : Int) ≤ b.length := by omega
      first | refine pwp_rif ?_ | refine pwp_rifE ?_
      intro K hK
      simp (disch := first | (refine Ok.mk ?_; (try simp only [Lm, La, Lc, Ln, Lt, Ld, Lr, Li, true_or, or_true, true_and, and_true]); omega) | (simp <;> fail) | skip) [runM_nil, h3]
      refine hK _ _ ?_
      clear hK K
      refine ifF (by simp (disch := first | (refine Ok.mk ?_; (try simp only [Lm, La, Lc, Ln, Lt, Ld, Lr, Li, true_or, or_true, true_and, and_true]); omega) | (simp <;> fail) | skip) [runM_nil]) (pwp_skip ?_)
      first | refine pwp_sr ?_ | refine pwp_regionM ?_
      intro K hK
      simp (disch := first | (refine Ok.mk ?_; (try simp only [Lm, La, Lc, Ln, Lt, Ld, Lr, Li, true_or, or_true, true_and, and_true]); omega) | (simp <;> fail) | skip) [runM_nil]
      refine hK _ _ ?_
      clear hK K
      refine pwp_ret ⟨.inr rfl, _, _, _, (by simp (disch := first | (refine Ok.mk ?_; (try simp only [Lm, La, Lc, Ln, Lt, Ld, Lr, Li, true_or, or_true, true_and, and_true]); omega) | (simp <;> fail) | skip) [runM_nil, resL]; rfl), .refl _, (by simp (disch := first | (refine Ok.mk ?_; (try simp only [Lm, La, Lc, Ln, Lt, Ld, Lr, Li, true_or, or_true, true_and, and_true]); omega) | (simp <;> fail) | skip) [resV]), rfl, rfl⟩
  have hxm : ∃ x, b[i]? = some x ∧ x < 256 ∧ b.getD i 0 = x := ⟨b[i], List.getElem?_eq_getElem hi, hw _ (List.getElem_mem hi), by simp [List.getD, List.getElem?_eq_getElem hi]⟩
  obtain ⟨x, hgx, hx, hgd⟩ := hxm
  obtain rfl : s = 1 := by omega
  first | refine pwp_sr ?_ | refine pwp_regionM ?_
  intro K hK
  simp (disch := first | (refine Ok.mk ?_; (try simp only [Lm, La, Lc, Ln, Lt, Ld, Lr, Li, true_or, or_true, true_and, and_true]); omega) | (simp <;> fail) | skip) [runM_nil, hi]
  refine hK _ _ ?_
  clear hK K
  refine pwp_seq (pwp_cT (by simp) (pwp_skip ?_))
  refine pwp_seq (pwp_block ?_)
  first | refine pwp_sr ?_ | refine pwp_regionM ?_
  intro K hK
  simp (disch := first | (refine Ok.mk ?_; (try simp only [Lm, La, Lc, Ln, Lt, Ld, Lr, Li, true_or, or_true, true_and, and_true]); omega) | (simp <;> fail) | skip) [runM_nil, hgx]
  refine hK _ _ ?_
  clear hK K
  by_cases h10 : i = 10
  · have e : vtake b = (0, [], 3) := by unfold vtake; rw [if_pos (by omega)]
    have h10' : (i : Int) = 10 := by omega
    first | refine pwp_rif ?_ | refine pwp_rifE ?_
    intro K hK
    simp (disch := first | (refine Ok.mk ?_; (try simp only [Lm, La, Lc, Ln, Lt, Ld, Lr, Li, true_or, or_true, true_and, and_true]); omega) | (simp <;> fail) | skip) [runM_nil, h10']
    refine hK _ _ ?_
    clear hK K
    refine ifT (by simp (disch := first | (refine Ok.mk ?_; (try simp only [Lm, La, Lc, Ln, Lt, Ld, Lr, Li, true_or, or_true, true_and, and_true]); omega) | (simp <;> fail) | skip) [runM_nil]) ?_
    refine pwp_exit ?_
    rw [e]
    have h3 : (10 : Int) ≤ b.length := by omega
    first | refine pwp_rif ?_ | refine pwp_rifE ?_
    intro K hK
    simp (disch := first | (refine Ok.mk ?_; (try simp only [Lm, La, Lc, Ln, Lt, Ld, Lr, Li, true_or, or_true, true_and, and_true]); omega) | (simp <;> fail) | skip) [runM_nil, h3]
    refine hK _ _ ?_
    clear hK K
    refine ifT (by simp (disch := first | (refine Ok.mk ?_; (try simp only [Lm, La, Lc, Ln, Lt, Ld, Lr, Li, true_or, or_true, true_and, and_true]); omega) | (simp <;> fail) | skip) [runM_nil]) ?_
    first | refine pwp_sr ?_ | refine pwp_regionM ?_
    intro K hK
    simp (disch := first | (refine Ok.mk ?_; (try simp only [Lm, La, Lc, Ln, Lt, Ld, Lr, Li, true_or, or_true, true_and, and_true]); omega) | (simp <;> fail) | skip) [runM_nil]
    refine hK _ _ ?_
    clear hK K
    refine pwp_ret ⟨.inr rfl, _, _, _, (by simp (disch := first | (refine Ok.mk ?_; (try simp only [Lm, La, Lc, Ln, Lt, Ld, Lr, Li, true_or, or_true, true_and, and_true]); omega) | (simp <;> fail) | skip) [runM_nil, resL]; rfl), .refl _, (by simp (disch := first | (refine Ok.mk ?_; (try simp only [Lm, La, Lc, Ln, Lt, Ld, Lr, Li, true_or, or_true, true_and, and_true]); omega) | (simp <;> fail) | skip) [resV]), rfl, rfl⟩
  have h10' : ¬ (i : Int) = 10 := by omega
  first | refine pwp_rif ?_ | refine pwp_rifE ?_
  intro K hK
  simp (disch := first | (refine Ok.mk ?_; (try simp only [Lm, La, Lc, Ln, Lt, Ld, Lr, Li, true_or, or_true, true_and, and_true]); omega) | (simp <;> fail) | skip) [runM_nil, h10']
  refine hK _ _ ?_
  clear hK K
  refine ifF (by simp (disch := first | (refine Ok.mk ?_; (try simp only [Lm, La, Lc, Ln, Lt, Ld, Lr, Li, true_or, or_true, true_and, and_true]); omega) | (simp <;> fail) | skip) [runM_nil]) (pwp_skip ?_)
  have ha := andNot128 x (List.mem_range.2 hx)
  have e2 : min (7 * (i : Int)).toNat 64 = 7 * i := by omega
  have hgl := gv_lt x i
  first | refine pwp_sr ?_ | refine pwp_regionM ?_
  intro K hK
  simp (disch := first | (refine Ok.mk ?_; (try simp only [Lm, La, Lc, Ln, Lt, Ld, Lr, Li, true_or, or_true, true_and, and_true]); omega) | (simp <;> fail) | skip) [runM_nil, ha, e2, gv_wrap]
  refine hK _ _ ?_
  clear hK K
  have hnn := hnum (by omega)
  have hna := num_lt (b.take i)
  rw [List.length_take, Nat.min_eq_left (by omega), ← hnn] at hna
  by_cases hc : 128 ≤ x
  · have hc' : (128 : Int) ≤ x := by omega
    first | refine pwp_rif ?_ | refine pwp_rifE ?_
    intro K hK
    simp (disch := first | (refine Ok.mk ?_; (try simp only [Lm, La, Lc, Ln, Lt, Ld, Lr, Li, true_or, or_true, true_and, and_true]); omega) | (simp <;> fail) | skip) [runM_nil, hc']
    refine hK _ _ ?_
    clear hK K
    refine ifT (by simp (disch := first | (refine Ok.mk ?_; (try simp only [Lm, La, Lc, Ln, Lt, Ld, Lr, Li, true_or, or_true, true_and, and_true]); omega) | (simp <;> fail) | skip) [runM_nil]) ?_
    have hne : lead b ≠ i := by
      intro he
      have := lead_lo b (by omega)
      rw [he, hgd] at this
      omega
    refine pwp_exit ?_
    first | refine pwp_sr ?_ | refine pwp_regionM ?_
    intro K hK
    simp (disch := first | (refine Ok.mk ?_; (try simp only [Lm, La, Lc, Ln, Lt, Ld, Lr, Li, true_or, or_true, true_and, and_true]); omega) | (simp <;> fail) | skip) [runM_nil]
    refine hK _ _ ?_
    clear hK K
    refine ⟨b.length - (i + 1), by omega, _, .refl _, i + 1, n ||| gv x i, by omega, by omega, rfl, Nat.or_lt_two_pow (n := 64) hn hgl, fun h9 => ?_, rfl, by simp [keepL_MS, keepA, getS]⟩
    rw [gv_or (by omega) (by omega) hna, take_snoc hi, num_snoc, List.length_take, Nat.min_eq_left (by omega), hgd, ← hnn]
  · have hc' : ¬ (128 : Int) ≤ x := by omega
    have he : lead b = i := by
      rcases Nat.lt_or_ge i (lead b) with h3 | h3
      · have := lead_hi b i h3; omega
      · omega
    first | refine pwp_rif ?_ | refine pwp_rifE ?_
    intro K hK
    simp (disch := first | (refine Ok.mk ?_; (try simp only [Lm, La, Lc, Ln, Lt, Ld, Lr, Li, true_or, or_true, true_and, and_true]); omega) | (simp <;> fail) | skip) [runM_nil, hc']
    refine hK _ _ ?_
    clear hK K
    refine ifF (by simp (disch := first | (refine Ok.mk ?_; (try simp only [Lm, La, Lc, Ln, Lt, Ld, Lr, Li, true_or, or_true, true_and, and_true]); omega) | (simp <;> fail) | skip) [runM_nil]) (pwp_skip ?_)
    have hdrop : (b.drop (i + 1)).length ≤ 100000000000000 := by rw [Ld]; omega
    have bad : vbad b i → vtake b = (0, [], 3) := fun h => by unfold vtake; rw [he, if_neg (by omega), if_neg (by omega), if_pos h]
    have good : ¬ vbad b i → vtake b = (n ||| gv x i, b.drop (i + 1), 0) := fun h => by
      have h9 : i = 9 → x % 128 ≤ 1 := fun h9 => by unfold vbad at h; rw [hgd] at h; omega
      unfold vtake
      rw [he, if_neg (by omega), if_neg (by omega), if_neg h, gv_or (by omega) h9 hna, take_snoc hi, num_snoc, List.length_take, Nat.min_eq_left (by omega), hgd, ← hnn]
    unfold vbad at bad good
    rw [hgd] at bad good
    have h4 : (x = 0 ∧ 0 < i) ∨ ¬ (x = 0 ∧ 0 < i) ∧ (i = 9 ∧ 1 < x) ∨ ¬ (x = 0 ∧ 0 < i) ∧ ¬ (i = 9 ∧ 1 < x) := by omega
    rcases h4 with ⟨q1, q2⟩ | ⟨q0, q1, q2⟩ | ⟨q1, q2⟩
    · have e := bad (.inl ⟨q1, q2⟩)
      subst q1
      first | refine pwp_rif ?_ | refine pwp_rifE ?_
      intro K hK
      simp (disch := first | (refine Ok.mk ?_; (try simp only [Lm, La, Lc, Ln, Lt, Ld, Lr, Li, true_or, or_true, true_and, and_true]); omega) | (simp <;> fail) | skip) [runM_nil, q2]
      refine hK _ _ ?_
      clear hK K
      refine ifT (by simp (disch := first | (refine Ok.mk ?_; (try simp only [Lm, La, Lc, Ln, Lt, Ld, Lr, Li, true_or, or_true, true_and, and_true]); omega) | (simp <;> fail) | skip) [runM_nil]) ?_
      first | refine pwp_sr ?_ | refine pwp_regionM ?_
      intro K hK
      simp (disch := first | (refine Ok.mk ?_; (try simp only [Lm, La, Lc, Ln, Lt, Ld, Lr, Li, true_or, or_true, true_and, and_true]); omega) | (simp <;> fail) | skip) [runM_nil]
      refine hK _ _ ?_
      clear hK K
      rw [e]
      refine pwp_ret ⟨.inr rfl, _, _, _, (by simp (disch := first | (refine Ok.mk ?_; (try simp only [Lm, La, Lc, Ln, Lt, Ld, Lr, Li, true_or, or_true, true_and, and_true]); omega) | (simp <;> fail) | skip) [runM_nil, resL]; rfl), .refl _, (by simp (disch := first | (refine Ok.mk ?_; (try simp only [Lm, La, Lc, Ln, Lt, Ld, Lr, Li, true_or, or_true, true_and, and_true]); omega) | (simp <;> fail) | skip) [resV]), rfl, rfl⟩
    · have e := bad (.inr ⟨q1, q2⟩)
      subst q1
      have q3 : (1 : Int) < x := by omega
      have q4 : ¬ x = 0 := by omega
      first | refine pwp_rif ?_ | refine pwp_rifE ?_
      intro K hK
      simp (disch := first | (refine Ok.mk ?_; (try simp only [Lm, La, Lc, Ln, Lt, Ld, Lr, Li, true_or, or_true, true_and, and_true]); omega) | (simp <;> fail) | skip) [runM_nil, q3, q4]
      refine hK _ _ ?_
      clear hK K
      refine ifT (by simp (disch := first | (refine Ok.mk ?_; (try simp only [Lm, La, Lc, Ln, Lt, Ld, Lr, Li, true_or, or_true, true_and, and_true]); omega) | (simp <;> fail) | skip) [runM_nil]) ?_
      first | refine pwp_sr ?_ | refine pwp_regionM ?_
      intro K hK
      simp (disch := first | (refine Ok.mk ?_; (try simp only [Lm, La, Lc, Ln, Lt, Ld, Lr, Li, true_or, or_true, true_and, and_true]); omega) | (simp <;> fail) | skip) [runM_nil]
      refine hK _ _ ?_
      clear hK K
      rw [e]
      refine pwp_ret ⟨.inr rfl, _, _, _, (by simp (disch := first | (refine Ok.mk ?_; (try simp only [Lm, La, Lc, Ln, Lt, Ld, Lr, Li, true_or, or_true, true_and, and_true]); omega) | (simp <;> fail) | skip) [runM_nil, resL]; rfl), .refl _, (by simp (disch := first | (refine Ok.mk ?_; (try simp only [Lm, La, Lc, Ln, Lt, Ld, Lr, Li, true_or, or_true, true_and, and_true]); omega) | (simp <;> fail) | skip) [resV]), rfl, rfl⟩
    · have e := good (by rintro (h | h); exact q1 h; exact q2 h)
      rw [e]
      have q5 : (i : Int) = 9 ∨ ¬ (i : Int) = 9 := by omega
      have q6 : x = 0 ∨ ¬ x = 0 := by omega
      rcases q6 with q6 | q6
      · have q7 : i = 0 := by omega
        subst q7 q6
        first | refine pwp_rif ?_ | refine pwp_rifE ?_
        intro K hK
        simp (disch := first | (refine Ok.mk ?_; (try simp only [Lm, La, Lc, Ln, Lt, Ld, Lr, Li, true_or, or_true, true_and, and_true]); omega) | (simp <;> fail) | skip) [runM_nil]
        refine hK _ _ ?_
        clear hK K
        refine ifF (by simp (disch := first | (refine Ok.mk ?_; (try simp only [Lm, La, Lc, Ln, Lt, Ld, Lr, Li, true_or, or_true, true_and, and_true]); omega) | (simp <;> fail) | skip) [runM_nil]) (pwp_skip ?_)
        first | refine pwp_sr ?_ | refine pwp_regionM ?_
        intro K hK
        simp (disch := first | (refine Ok.mk ?_; (try simp only [Lm, La, Lc, Ln, Lt, Ld, Lr, Li, true_or, or_true, true_and, and_true]); omega) | (simp <;> fail) | skip) [runM_nil]
        refine useP (clone_ok (l := b.drop (0 + 1)) (by simp) (.inl rfl) hdrop) ?_
        simp (disch := first | (refine Ok.mk ?_; (try simp only [Lm, La, Lc, Ln, Lt, Ld, Lr, Li, true_or, or_true, true_and, and_true]); omega) | (simp <;> fail) | skip) [runM_nil]
        refine hK _ _ ?_
        clear hK K
        refine pwp_ret ⟨.inr rfl, _, _, _, (by simp (disch := first | (refine Ok.mk ?_; (try simp only [Lm, La, Lc, Ln, Lt, Ld, Lr, Li, true_or, or_true, true_and, and_true]); omega) | (simp <;> fail) | skip) [runM_nil, resL]; rfl), .refl _, (by simp (disch := first | (refine Ok.mk ?_; (try simp only [Lm, La, Lc, Ln, Lt, Ld, Lr, Li, true_or, or_true, true_and, and_true]); omega) | (simp <;> fail) | skip) [resV]), rfl, rfl⟩
      · rcases q5 with q5 | q5
        all_goals
          first | refine pwp_rif ?_ | refine pwp_rifE ?_
          intro K hK
          simp (disch := first | (refine Ok.mk ?_; (try simp only [Lm, La, Lc, Ln, Lt, Ld, Lr, Li, true_or, or_true, true_and, and_true]); omega) | (simp <;> fail) | skip) [runM_nil]
          refine hK _ _ ?_
          clear hK K
          refine ifF (by simp (disch := first | (refine Ok.mk ?_; (try simp only [Lm, La, Lc, Ln, Lt, Ld, Lr, Li, true_or, or_true, true_and, and_true]); omega) | (simp <;> fail) | skip) [runM_nil]) (pwp_skip ?_)
          first | refine pwp_sr ?_ | refine pwp_regionM ?_
          intro K hK
          simp (disch := first | (refine Ok.mk ?_; (try simp only [Lm, La, Lc, Ln, Lt, Ld, Lr, Li, true_or, or_true, true_and, and_true]); omega) | (simp <;> fail) | skip) [runM_nil]
          refine useP (clone_ok (l := b.drop (i + 1)) (by simp) (.inl rfl) hdrop) ?_
          simp (disch := first | (refine Ok.mk ?_; (try simp only [Lm, La, Lc, Ln, Lt, Ld, Lr, Li, true_or, or_true, true_and, and_true]); omega) | (simp <;> fail) | skip) [runM_nil]
          refine hK _ _ ?_
          clear hK K
          refine pwp_ret ⟨.inr rfl, _, _, _, (by simp (disch := first | (refine Ok.mk ?_; (try simp only [Lm, La, Lc, Ln, Lt, Ld, Lr, Li, true_or, or_true, true_and, and_true]); omega) | (simp <;> fail) | skip) [runM_nil, resL]; rfl), .refl _, (by simp (disch := first | (refine Ok.mk ?_; (try simp only [Lm, La, Lc, Ln, Lt, Ld, Lr, Li, true_or, or_true, true_and, and_true]); omega) | (simp <;> fail) | skip) [resV]), rfl, rfl⟩
end Go.Proofs.YtjcjbpbkakfjdaaDoor.E
/- Varints: a frame taken off; the document's. -/
namespace Go.Proofs.YtjcjbpbkakfjdaaDoor.E
open Go Go.RowKit Go.Proofs
set_option linter.unusedVariables false
set_option linter.unusedSimpArgs false
def vframe (b : List Nat) (most : Int) : List Nat × List Nat × Nat :=
  if (vtake b).2.2 ≠ 0 then ([], [], (vtake b).2.2) else if most < 0 ∨ most < (vtake b).1 then ([], [], 5) else if (vtake b).2.1.length < (vtake b).1 then ([], [], 2)
  else ((vtake b).2.1.take (vtake b).1, (vtake b).2.1.drop (vtake b).1, 0)
theorem vtake_wf {b : List Nat} (hw : ∀ x ∈ b, x < 256) : ∀ x ∈ (vtake b).2.1, x < 256 := fun x hx => hw x (vtake_rest.2 x hx)
theorem vtake_err (b : List Nat) : (vtake b).2.2 ≤ 3 := by
  unfold vtake
  split
  · exact Nat.le_refl _
  split
  · exact (by decide : 2 ≤ 3)
  split
  · exact Nat.le_refl _
  · exact Nat.zero_le _
theorem vframe_cases (b : List Nat) (most : Int) {n : Nat} {r : List Nat} {e : Nat} (h1 : (vtake b).1 = n) (h2 : (vtake b).2.1 = r) (h3 : (vtake b).2.2 = e) :
    (e ≠ 0 ∧ vframe b most = ([], [], e)) ∨ (e = 0 ∧ most < 0 ∧ vframe b most = ([], [], 5)) ∨ (e = 0 ∧ 0 ≤ most ∧ most < n ∧ vframe b most = ([], [], 5)) ∨
    (e = 0 ∧ 0 ≤ most ∧ n ≤ most ∧ r.length < n ∧ vframe b most = ([], [], 2)) ∨ (e = 0 ∧ 0 ≤ most ∧ n ≤ most ∧ n ≤ r.length ∧ vframe b most = (r.take n, r.drop n, 0)) := by
  unfold vframe
  rw [h1, h2, h3]
  by_cases q1 : e = 0
  · rw [if_neg (by omega)]
    by_cases q2 : most < 0
    · rw [if_pos (.inl q2)]; simp [q1, q2]
    · by_cases q3 : most < n
      · rw [if_pos (.inr q3)]; simp [q1, q2, q3]; omega
      · rw [if_neg (by omega)]
        by_cases q4 : r.length < n
        · rw [if_pos q4]; simp [q1, q4]; omega
        · rw [if_neg q4]; simp [q1]; omega
  · rw [if_pos q1]; simp [q1]
set_option maxRecDepth 4000 in
theorem takeFrame_ok {s : Nat} {xs : List PV} {o : Bool} {b : List Nat} (hx : xs = b.map u8) (hs : s = 1 ∨ b.length = 0) (hw : ∀ x ∈ b, x < 256) (hl : b.length ≤ 100000000000000) (most : Int) (hm : most < 9223372036854775808) :
    PSpec Tryd.prog 84 [.lst s xs o, .int .i64 most] (.tup [.str (ci (vframe b most).1), bV (vframe b most).2.1 (decide ((vframe b most).2.2 ≠ 0)), .int .i64 ((vframe b most).2.2 : Nat)]) := by
  intro H
  have c := take_ok (o := false) hx hs hw hl
  have hwr := vtake_wf hw
  have hn := vtake_lt hw
  have hrl : (vtake b).2.1.length ≤ b.length := (vtake_rest (s := b)).1
  have hc := vframe_cases b most rfl rfl rfl
  have he := vtake_err b
  generalize hv : vframe b most = v at *
  generalize (vtake b).1 = n at *
  generalize (vtake b).2.1 = r at *
  generalize (vtake b).2.2 = e at *
  refine spec_ofU t84 (by simp [p84]) ?_
  simp only [p84]
  first | refine pwp_sr ?_ | refine pwp_regionM ?_
  intro K hK
  simp (disch := first | (refine Ok.mk ?_; (try simp only [Lm, La, Lc, Ln, Lt, Ld, Lr, Li, true_or, or_true, true_and, and_true]); omega) | (simp <;> fail) | skip) [runM_nil]
  refine hK _ _ ?_
  clear hK K
  first | refine pwp_sr ?_ | refine pwp_regionM ?_
  intro K hK
  simp (disch := first | (refine Ok.mk ?_; (try simp only [Lm, La, Lc, Ln, Lt, Ld, Lr, Li, true_or, or_true, true_and, and_true]); omega) | (simp <;> fail) | skip) [runM_nil]
  refine useP (c) ?_
  simp (disch := first | (refine Ok.mk ?_; (try simp only [Lm, La, Lc, Ln, Lt, Ld, Lr, Li, true_or, or_true, true_and, and_true]); omega) | (simp <;> fail) | skip) [runM_nil]
  refine hK _ _ ?_
  clear hK K
  refine pwp_seq (pwp_block ?_)
  rcases hc with ⟨q1, rfl⟩ | ⟨q1, q2, rfl⟩ | ⟨q1, q2, q3, rfl⟩ | ⟨q1, q2, q3, q4, rfl⟩ | ⟨q1, q2, q3, q4, rfl⟩
  · first | refine pwp_sr ?_ | refine pwp_regionM ?_
    intro K hK
    simp (disch := first | (refine Ok.mk ?_; (try simp only [Lm, La, Lc, Ln, Lt, Ld, Lr, Li, true_or, or_true, true_and, and_true]); omega) | (simp <;> fail) | skip) [runM_nil]
    refine hK _ _ ?_
    clear hK K
    refine pwp_cT (by simp) ?_
    first | refine pwp_sr ?_ | refine pwp_regionM ?_
    intro K hK
    simp (disch := first | (refine Ok.mk ?_; (try simp only [Lm, La, Lc, Ln, Lt, Ld, Lr, Li, true_or, or_true, true_and, and_true]); omega) | (simp <;> fail) | skip) [runM_nil]
    refine hK _ _ ?_
    clear hK K
    refine pwp_ret ⟨.inr rfl, _, _, _, (by simp (disch := first | (refine Ok.mk ?_; (try simp only [Lm, La, Lc, Ln, Lt, Ld, Lr, Li, true_or, or_true, true_and, and_true]); omega) | (simp <;> fail) | skip) [runM_nil, resL, q1]; rfl), .refl _, (by simp (disch := first | (refine Ok.mk ?_; (try simp only [Lm, La, Lc, Ln, Lt, Ld, Lr, Li, true_or, or_true, true_and, and_true]); omega) | (simp <;> fail) | skip) [resV, q1]), rfl, rfl⟩
  · first | refine pwp_sr ?_ | refine pwp_regionM ?_
    intro K hK
    simp (disch := first | (refine Ok.mk ?_; (try simp only [Lm, La, Lc, Ln, Lt, Ld, Lr, Li, true_or, or_true, true_and, and_true]); omega) | (simp <;> fail) | skip) [runM_nil]
    refine hK _ _ ?_
    clear hK K
    refine pwp_cF (by simp) ?_
    first | refine pwp_sr ?_ | refine pwp_regionM ?_
    intro K hK
    simp (disch := first | (refine Ok.mk ?_; (try simp only [Lm, La, Lc, Ln, Lt, Ld, Lr, Li, true_or, or_true, true_and, and_true]); omega) | (simp <;> fail) | skip) [runM_nil]
    refine hK _ _ ?_
    clear hK K
    refine pwp_cT (by simp) ?_
    first | refine pwp_sr ?_ | refine pwp_regionM ?_
    intro K hK
    simp (disch := first | (refine Ok.mk ?_; (try simp only [Lm, La, Lc, Ln, Lt, Ld, Lr, Li, true_or, or_true, true_and, and_true]); omega) | (simp <;> fail) | skip) [runM_nil]
    refine hK _ _ ?_
    clear hK K
    refine pwp_ret ⟨.inr rfl, _, _, _, (by simp (disch := first | (refine Ok.mk ?_; (try simp only [Lm, La, Lc, Ln, Lt, Ld, Lr, Li, true_or, or_true, true_and, and_true]); omega) | (simp <;> fail) | skip) [runM_nil, resL]; rfl), .refl _, (by simp (disch := first | (refine Ok.mk ?_; (try simp only [Lm, La, Lc, Ln, Lt, Ld, Lr, Li, true_or, or_true, true_and, and_true]); omega) | (simp <;> fail) | skip) [resV]), rfl, rfl⟩
  · first | refine pwp_sr ?_ | refine pwp_regionM ?_
    intro K hK
    simp (disch := first | (refine Ok.mk ?_; (try simp only [Lm, La, Lc, Ln, Lt, Ld, Lr, Li, true_or, or_true, true_and, and_true]); omega) | (simp <;> fail) | skip) [runM_nil]
    refine hK _ _ ?_
    clear hK K
    refine pwp_cF (by simp) ?_
    first | refine pwp_sr ?_ | refine pwp_regionM ?_
    intro K hK
    simp (disch := first | (refine Ok.mk ?_; (try simp only [Lm, La, Lc, Ln, Lt, Ld, Lr, Li, true_or, or_true, true_and, and_true]); omega) | (simp <;> fail) | skip) [runM_nil]
    refine hK _ _ ?_
    clear hK K
    refine pwp_cT (by simp) ?_
    first | refine pwp_sr ?_ | refine pwp_regionM ?_
    intro K hK
    simp (disch := first | (refine Ok.mk ?_; (try simp only [Lm, La, Lc, Ln, Lt, Ld, Lr, Li, true_or, or_true, true_and, and_true]); omega) | (simp <;> fail) | skip) [runM_nil]
    refine hK _ _ ?_
    clear hK K
    refine pwp_ret ⟨.inr rfl, _, _, _, (by simp (disch := first | (refine Ok.mk ?_; (try simp only [Lm, La, Lc, Ln, Lt, Ld, Lr, Li, true_or, or_true, true_and, and_true]); omega) | (simp <;> fail) | skip) [runM_nil, resL]; rfl), .refl _, (by simp (disch := first | (refine Ok.mk ?_; (try simp only [Lm, La, Lc, Ln, Lt, Ld, Lr, Li, true_or, or_true, true_and, and_true]); omega) | (simp <;> fail) | skip) [resV]), rfl, rfl⟩
  · first | refine pwp_sr ?_ | refine pwp_regionM ?_
    intro K hK
    simp (disch := first | (refine Ok.mk ?_; (try simp only [Lm, La, Lc, Ln, Lt, Ld, Lr, Li, true_or, or_true, true_and, and_true]); omega) | (simp <;> fail) | skip) [runM_nil]
    refine hK _ _ ?_
    clear hK K
    refine pwp_cF (by simp) ?_
    first | refine pwp_sr ?_ | refine pwp_regionM ?_
    intro K hK
    simp (disch := first | (refine Ok.mk ?_; (try simp only [Lm, La, Lc, Ln, Lt, Ld, Lr, Li, true_or, or_true, true_and, and_true]); omega) | (simp <;> fail) | skip) [runM_nil]
    refine hK _ _ ?_
    clear hK K
    refine pwp_cF (by simp) ?_
    first | refine pwp_sr ?_ | refine pwp_regionM ?_
    intro K hK
    simp (disch := first | (refine Ok.mk ?_; (try simp only [Lm, La, Lc, Ln, Lt, Ld, Lr, Li, true_or, or_true, true_and, and_true]); omega) | (simp <;> fail) | skip) [runM_nil]
    refine hK _ _ ?_
    clear hK K
    refine pwp_cT (by simp) ?_
    first | refine pwp_sr ?_ | refine pwp_regionM ?_
    intro K hK
    simp (disch := first | (refine Ok.mk ?_; (try simp only [Lm, La, Lc, Ln, Lt, Ld, Lr, Li, true_or, or_true, true_and, and_true]); omega) | (simp <;> fail) | skip) [runM_nil]
    refine hK _ _ ?_
    clear hK K
    refine pwp_ret ⟨.inr rfl, _, _, _, (by simp (disch := first | (refine Ok.mk ?_; (try simp only [Lm, La, Lc, Ln, Lt, Ld, Lr, Li, true_or, or_true, true_and, and_true]); omega) | (simp <;> fail) | skip) [runM_nil, resL]; rfl), .refl _, (by simp (disch := first | (refine Ok.mk ?_; (try simp only [Lm, La, Lc, Ln, Lt, Ld, Lr, Li, true_or, or_true, true_and, and_true]); omega) | (simp <;> fail) | skip) [resV]), rfl, rfl⟩
  · first | refine pwp_sr ?_ | refine pwp_regionM ?_
    intro K hK
    simp (disch := first | (refine Ok.mk ?_; (try simp only [Lm, La, Lc, Ln, Lt, Ld, Lr, Li, true_or, or_true, true_and, and_true]); omega) | (simp <;> fail) | skip) [runM_nil]
    refine hK _ _ ?_
    clear hK K
    refine pwp_cF (by simp) ?_
    first | refine pwp_sr ?_ | refine pwp_regionM ?_
    intro K hK
    simp (disch := first | (refine Ok.mk ?_; (try simp only [Lm, La, Lc, Ln, Lt, Ld, Lr, Li, true_or, or_true, true_and, and_true]); omega) | (simp <;> fail) | skip) [runM_nil]
    refine hK _ _ ?_
    clear hK K
    refine pwp_cF (by simp) ?_
    first | refine pwp_sr ?_ | refine pwp_regionM ?_
    intro K hK
    simp (disch := first | (refine Ok.mk ?_; (try simp only [Lm, La, Lc, Ln, Lt, Ld, Lr, Li, true_or, or_true, true_and, and_true]); omega) | (simp <;> fail) | skip) [runM_nil]
    refine hK _ _ ?_
    clear hK K
    refine pwp_cF (by simp) ?_
    refine pwp_skip ?_
    have cs := cvS_u8 (s := 1) (o := false) (l := r.take n) rfl (.inl rfl) (fun x hx => hwr x (List.mem_of_mem_take hx))
    rw [List.map_take] at cs
    first | refine pwp_sd hmix ?_ | refine pwp_drawM hmix ?_
    intro K hK
    simp (disch := first | (refine Ok.mk ?_; (try simp only [Lm, La, Lc, Ln, Lt, Ld, Lr, Li, true_or, or_true, true_and, and_true]); omega) | (simp <;> fail) | skip) [runM_nil, cs]
    refine hK _ _ ?_
    clear hK K
    refine pwp_ret ⟨.inr rfl, _, _, _, (by simp (disch := first | (refine Ok.mk ?_; (try simp only [Lm, La, Lc, Ln, Lt, Ld, Lr, Li, true_or, or_true, true_and, and_true]); omega) | (simp <;> fail) | skip) [runM_nil, resL]; rfl), .refl _, (by simp (disch := first | (refine Ok.mk ?_; (try simp only [Lm, La, Lc, Ln, Lt, Ld, Lr, Li, true_or, or_true, true_and, and_true]); omega) | (simp <;> fail) | skip) [resV]), rfl, rfl⟩
end Go.Proofs.YtjcjbpbkakfjdaaDoor.E
/- A pair taken off; the records of a block. -/
namespace Go.Proofs.YtjcjbpbkakfjdaaDoor.E
open Go Go.RowKit Go.Proofs
set_option linter.unusedVariables false
set_option linter.unusedSimpArgs false
theorem vframe_wf {b : List Nat} (hw : ∀ x ∈ b, x < 256) (m : Int) : (∀ x ∈ (vframe b m).1, x < 256) ∧ (∀ x ∈ (vframe b m).2.1, x < 256) ∧ (vframe b m).1.length ≤ b.length ∧ (vframe b m).2.1.length ≤ b.length := by
  have h1 := vtake_wf hw
  have h2 : (vtake b).2.1.length ≤ b.length := (vtake_rest (s := b)).1
  unfold vframe
  split
  · simp
  split
  · simp
  split
  · simp
  · refine ⟨fun x hx => h1 x (List.mem_of_mem_take hx), fun x hx => h1 x (List.mem_of_mem_drop hx), ?_, ?_⟩
    · simp only [List.length_take]; omega
    · simp only [List.length_drop]; omega
theorem opened_wf {t s : List Nat} (hw : ∀ x ∈ s, x < 256) : (∀ x ∈ (opened t s).1, x < 256) ∧ (opened t s).1.length ≤ s.length ∧ ((opened t s).2 = 0 → (opened t s).1.length = s.length - 4) := by
  unfold opened
  split
  · simp
  · split
    · exact ⟨fun x hx => hw x (List.mem_of_mem_take hx), by simp only [List.length_take]; omega, fun _ => by simp only [List.length_take]; omega⟩
    · simp
def vpair (b : List Nat) : (List Nat × List Nat) × List Nat × Nat :=
  if (vframe b 1000).2.2 ≠ 0 then (([], []), [], (vframe b 1000).2.2) else
  if (vframe (vframe b 1000).2.1 1000).2.2 ≠ 0 then (([], []), [], (vframe (vframe b 1000).2.1 1000).2.2) else
  (((vframe b 1000).1, (vframe (vframe b 1000).2.1 1000).1), (vframe (vframe b 1000).2.1 1000).2.1, 0)
def vpV (x : (List Nat × List Nat) × List Nat × Nat) : PV := .tup [.agg [.str (ci x.1.1), .str (ci x.1.2)], bV x.2.1 (decide (x.2.2 ≠ 0)), .int .i64 (x.2.2 : Nat)]
theorem vpair_wf {b : List Nat} (hw : ∀ x ∈ b, x < 256) : (∀ x ∈ (vpair b).1.1, x < 256) ∧ (∀ x ∈ (vpair b).1.2, x < 256) ∧ (∀ x ∈ (vpair b).2.1, x < 256) ∧ (vpair b).2.1.length ≤ b.length ∧ (vpair b).1.1.length ≤ b.length ∧ (vpair b).1.2.length ≤ b.length := by
  obtain ⟨w1, w2, w3, w4⟩ := vframe_wf hw 1000
  obtain ⟨v1, v2, v3, v4⟩ := vframe_wf w2 1000
  unfold vpair
  split
  · simp
  · split
    · simp
    · exact ⟨w1, v1, v2, Nat.le_trans v4 w4, w3, Nat.le_trans v3 w4⟩
theorem takePair_ok {s : Nat} {xs : List PV} {o : Bool} {b : List Nat} (hx : xs = b.map u8) (hs : s = 1 ∨ b.length = 0) (hw : ∀ x ∈ b, x < 256) (hl : b.length ≤ 1000000) :
    PSpec Tryd.prog 82 [.lst s xs o, .int .i64 1000] (vpV (vpair b)) := by
  intro H
  have c1 := takeFrame_ok (o := false) hx hs hw (by omega) 1000 (by omega)
  obtain ⟨w1, w2, w3, w4⟩ := vframe_wf hw 1000
  have c2 := takeFrame_ok (s := 1) (xs := (vframe b 1000).2.1.map u8) (o := false) rfl (.inl rfl) w2 (by omega) 1000 (by omega)
  unfold vpair
  generalize vframe b 1000 = F at *
  obtain ⟨f1, f2, f3⟩ := F
  dsimp only at *
  generalize vframe f2 1000 = T at *
  obtain ⟨t1, t2, t3⟩ := T
  dsimp only at *
  refine spec_ofU t82 (by simp [p82]) ?_
  simp only [p82]
  first | refine pwp_sr ?_ | refine pwp_regionM ?_
  intro K hK
  simp (disch := first | (refine Ok.mk ?_; (try simp only [Lm, La, Lc, Ln, Lt, Ld, Lr, Li, true_or, or_true, true_and, and_true]); omega) | (simp <;> fail) | skip) [runM_nil]
  intro b4 h_b4
  try simp (disch := first | (refine Ok.mk ?_; (try simp only [Lm, La, Lc, Ln, Lt, Ld, Lr, Li, true_or, or_true, true_and, and_true]); omega) | (simp <;> fail) | skip) [runM_nil]
  refine hK _ _ ?_
  clear hK K
  first | refine pwp_sr ?_ | refine pwp_regionM ?_
  intro K hK
  simp (disch := first | (refine Ok.mk ?_; (try simp only [Lm, La, Lc, Ln, Lt, Ld, Lr, Li, true_or, or_true, true_and, and_true]); omega) | (simp <;> fail) | skip) [runM_nil]
  refine useP (c1) ?_
  simp (disch := first | (refine Ok.mk ?_; (try simp only [Lm, La, Lc, Ln, Lt, Ld, Lr, Li, true_or, or_true, true_and, and_true]); omega) | (simp <;> fail) | skip) [runM_nil]
  refine hK _ _ ?_
  clear hK K
  by_cases h3 : f3 = 0
  · subst h3
    first | refine pwp_rif ?_ | refine pwp_rifE ?_
    intro K hK
    simp (disch := first | (refine Ok.mk ?_; (try simp only [Lm, La, Lc, Ln, Lt, Ld, Lr, Li, true_or, or_true, true_and, and_true]); omega) | (simp <;> fail) | skip) [runM_nil]
    refine hK _ _ ?_
    clear hK K
    refine ifF (by simp [runM_nil]) (pwp_skip ?_)
    first | refine pwp_sr ?_ | refine pwp_regionM ?_
    intro K hK
    simp (disch := first | (refine Ok.mk ?_; (try simp only [Lm, La, Lc, Ln, Lt, Ld, Lr, Li, true_or, or_true, true_and, and_true]); omega) | (simp <;> fail) | skip) [runM_nil]
    refine useP (c2) ?_
    simp (disch := first | (refine Ok.mk ?_; (try simp only [Lm, La, Lc, Ln, Lt, Ld, Lr, Li, true_or, or_true, true_and, and_true]); omega) | (simp <;> fail) | skip) [runM_nil]
    refine hK _ _ ?_
    clear hK K
    by_cases h4 : t3 = 0
    · subst h4
      first | refine pwp_rif ?_ | refine pwp_rifE ?_
      intro K hK
      simp (disch := first | (refine Ok.mk ?_; (try simp only [Lm, La, Lc, Ln, Lt, Ld, Lr, Li, true_or, or_true, true_and, and_true]); omega) | (simp <;> fail) | skip) [runM_nil]
      refine hK _ _ ?_
      clear hK K
      refine ifF (by simp [runM_nil]) (pwp_skip ?_)
      first | refine pwp_sr ?_ | refine pwp_regionM ?_
      intro K hK
      simp (disch := first | (refine Ok.mk ?_; (try simp only [Lm, La, Lc, Ln, Lt, Ld, Lr, Li, true_or, or_true, true_and, and_true]); omega) | (simp <;> fail) | skip) [runM_nil]
      refine hK _ _ ?_
      clear hK K
      refine pwp_ret (And.intro (.inr rfl) ⟨_, _, _, (by simp (disch := first | (refine Ok.mk ?_; (try simp only [Lm, La, Lc, Ln, Lt, Ld, Lr, Li, true_or, or_true, true_and, and_true]); omega) | (simp <;> fail) | skip) [runM_nil, resL, vpV]; rfl), (.cons _ (.refl _)), (by simp (disch := first | (refine Ok.mk ?_; (try simp only [Lm, La, Lc, Ln, Lt, Ld, Lr, Li, true_or, or_true, true_and, and_true]); omega) | (simp <;> fail) | skip) [resV, vpV]), rfl, rfl⟩)
    · have h4' : ¬ (t3 : Int) = 0 := by omega
      first | refine pwp_rif ?_ | refine pwp_rifE ?_
      intro K hK
      simp (disch := first | (refine Ok.mk ?_; (try simp only [Lm, La, Lc, Ln, Lt, Ld, Lr, Li, true_or, or_true, true_and, and_true]); omega) | (simp <;> fail) | skip) [runM_nil, h4, h4']
      refine hK _ _ ?_
      clear hK K
      refine ifT (by simp [runM_nil, h4, h4']) ?_
      first | refine pwp_sr ?_ | refine pwp_regionM ?_
      intro K hK
      simp (disch := first | (refine Ok.mk ?_; (try simp only [Lm, La, Lc, Ln, Lt, Ld, Lr, Li, true_or, or_true, true_and, and_true]); omega) | (simp <;> fail) | skip) [runM_nil]
      refine hK _ _ ?_
      clear hK K
      refine pwp_ret (And.intro (.inr rfl) ⟨_, _, _, (by simp (disch := first | (refine Ok.mk ?_; (try simp only [Lm, La, Lc, Ln, Lt, Ld, Lr, Li, true_or, or_true, true_and, and_true]); omega) | (simp <;> fail) | skip) [runM_nil, resL, vpV, h4]; rfl), (.cons _ (.refl _)), (by simp (disch := first | (refine Ok.mk ?_; (try simp only [Lm, La, Lc, Ln, Lt, Ld, Lr, Li, true_or, or_true, true_and, and_true]); omega) | (simp <;> fail) | skip) [resV, vpV, h4]), rfl, rfl⟩)
  · have h3' : ¬ (f3 : Int) = 0 := by omega
    first | refine pwp_rif ?_ | refine pwp_rifE ?_
    intro K hK
    simp (disch := first | (refine Ok.mk ?_; (try simp only [Lm, La, Lc, Ln, Lt, Ld, Lr, Li, true_or, or_true, true_and, and_true]); omega) | (simp <;> fail) | skip) [runM_nil, h3, h3']
    refine hK _ _ ?_
    clear hK K
    refine ifT (by simp [runM_nil, h3, h3']) ?_
    first | refine pwp_sr ?_ | refine pwp_regionM ?_
    intro K hK
    simp (disch := first | (refine Ok.mk ?_; (try simp only [Lm, La, Lc, Ln, Lt, Ld, Lr, Li, true_or, or_true, true_and, and_true]); omega) | (simp <;> fail) | skip) [runM_nil]
    refine hK _ _ ?_
    clear hK K
    refine pwp_ret (And.intro (.inr rfl) ⟨_, _, _, (by simp (disch := first | (refine Ok.mk ?_; (try simp only [Lm, La, Lc, Ln, Lt, Ld, Lr, Li, true_or, or_true, true_and, and_true]); omega) | (simp <;> fail) | skip) [runM_nil, resL, vpV, h3]; rfl), (.cons _ (.refl _)), (by simp (disch := first | (refine Ok.mk ?_; (try simp only [Lm, La, Lc, Ln, Lt, Ld, Lr, Li, true_or, or_true, true_and, and_true]); omega) | (simp <;> fail) | skip) [resV, vpV, h3]), rfl, rfl⟩)
abbrev Rc := List (List Nat)
def recL : Nat → List Rc → List Nat → List Rc × List Nat × Nat
  | 0, acc, b => (acc, b, 0)
  | n + 1, acc, b => if (vpair b).2.2 ≠ 0 then ([], [], (vpair b).2.2) else recL n (acc ++ [[(vpair b).1.1, (vpair b).1.2]]) (vpair b).2.1
def recsB (b : List Nat) : List Rc × Nat :=
  if (vtake b).2.2 ≠ 0 ∨ (vtake b).1 = 0 ∨ 100 < (vtake b).1 then ([], 3) else
  if (recL (vtake b).1 [] (vtake b).2.1).2.2 ≠ 0 then ([], (recL (vtake b).1 [] (vtake b).2.1).2.2) else
  if (recL (vtake b).1 [] (vtake b).2.1).2.1 ≠ [] then ([], 3) else ((recL (vtake b).1 [] (vtake b).2.1).1, 0)
theorem records_ok {s : Nat} {xs : List PV} {o : Bool} {b : List Nat} (hx : xs = b.map u8) (hs : s = 1 ∨ b.length = 0) (hw : ∀ x ∈ b, x < 256) (hl : b.length ≤ 1000000) :
    PSpec Tryd.prog 74 [.lst s xs o] (.tup [.lst 1 (rowsC (recsB b).1) true, .int .i64 ((recsB b).2 : Nat)]) := by
  intro H
  have hxl : xs.length = b.length := by rw [hx, List.length_map]
  have c1 := take_ok (o := false) hx hs hw (by omega)
  have hrw := vtake_wf hw
  have hrl : (vtake b).2.1.length ≤ b.length := (vtake_rest (s := b)).1
  unfold recsB
  generalize vtake b = T at *
  obtain ⟨n, r, e⟩ := T
  dsimp only at *
  refine spec_ofU t74 (by simp [p74]) ?_
  simp only [p74]
  first | refine pwp_sr ?_ | refine pwp_regionM ?_
  intro K hK
  simp (disch := first | (refine Ok.mk ?_; (try simp only [Lm, La, Lc, Ln, Lt, Ld, Lr, Li, true_or, or_true, true_and, and_true]); omega) | (simp <;> fail) | skip) [runM_nil]
  refine hK _ _ ?_
  clear hK K
  first | refine pwp_sr ?_ | refine pwp_regionM ?_
  intro K hK
  simp (disch := first | (refine Ok.mk ?_; (try simp only [Lm, La, Lc, Ln, Lt, Ld, Lr, Li, true_or, or_true, true_and, and_true]); omega) | (simp <;> fail) | skip) [runM_nil]
  refine useP (c1) ?_
  simp (disch := first | (refine Ok.mk ?_; (try simp only [Lm, La, Lc, Ln, Lt, Ld, Lr, Li, true_or, or_true, true_and, and_true]); omega) | (simp <;> fail) | skip) [runM_nil]
  refine hK _ _ ?_
  clear hK K
  by_cases h3 : e = 0
  · subst h3
    by_cases h0 : n = 0
    · subst h0
      first | refine pwp_rif ?_ | refine pwp_rifE ?_
      intro K hK
      simp (disch := first | (refine Ok.mk ?_; (try simp only [Lm, La, Lc, Ln, Lt, Ld, Lr, Li, true_or, or_true, true_and, and_true]); omega) | (simp <;> fail) | skip) [runM_nil]
      refine hK _ _ ?_
      clear hK K
      refine ifT (by simp (disch := first | (refine Ok.mk ?_; (try simp only [Lm, La, Lc, Ln, Lt, Ld, Lr, Li, true_or, or_true, true_and, and_true]); omega) | (simp <;> fail) | skip) [runM_nil]) ?_
      first | refine pwp_sr ?_ | refine pwp_regionM ?_
      intro K hK
      simp (disch := first | (refine Ok.mk ?_; (try simp only [Lm, La, Lc, Ln, Lt, Ld, Lr, Li, true_or, or_true, true_and, and_true]); omega) | (simp <;> fail) | skip) [runM_nil]
      refine hK _ _ ?_
      clear hK K
      refine pwp_ret (And.intro (.inr rfl) ⟨_, _, _, (by simp (disch := first | (refine Ok.mk ?_; (try simp only [Lm, La, Lc, Ln, Lt, Ld, Lr, Li, true_or, or_true, true_and, and_true]); omega) | (simp <;> fail) | skip) [runM_nil, resL, rowsC]; rfl), .refl _, (by simp (disch := first | (refine Ok.mk ?_; (try simp only [Lm, La, Lc, Ln, Lt, Ld, Lr, Li, true_or, or_true, true_and, and_true]); omega) | (simp <;> fail) | skip) [resV, rowsC]), rfl, rfl⟩)
    by_cases h5 : 100 < n
    · have h5' : (100 : Int) < n := by omega
      have h0' : ¬ (n : Int) = 0 := by omega
      first | refine pwp_rif ?_ | refine pwp_rifE ?_
      intro K hK
      simp (disch := first | (refine Ok.mk ?_; (try simp only [Lm, La, Lc, Ln, Lt, Ld, Lr, Li, true_or, or_true, true_and, and_true]); omega) | (simp <;> fail) | skip) [runM_nil, h5', h0, h0']
      refine hK _ _ ?_
      clear hK K
      refine ifT (by simp (disch := first | (refine Ok.mk ?_; (try simp only [Lm, La, Lc, Ln, Lt, Ld, Lr, Li, true_or, or_true, true_and, and_true]); omega) | (simp <;> fail) | skip) [runM_nil]) ?_
      first | refine pwp_sr ?_ | refine pwp_regionM ?_
      intro K hK
      simp (disch := first | (refine Ok.mk ?_; (try simp only [Lm, La, Lc, Ln, Lt, Ld, Lr, Li, true_or, or_true, true_and, and_true]); omega) | (simp <;> fail) | skip) [runM_nil]
      refine hK _ _ ?_
      clear hK K
      refine pwp_ret (And.intro (.inr rfl) ⟨_, _, _, (by simp (disch := first | (refine Ok.mk ?_; (try simp only [Lm, La, Lc, Ln, Lt, Ld, Lr, Li, true_or, or_true, true_and, and_true]); omega) | (simp <;> fail) | skip) [runM_nil, resL, h5, rowsC]; rfl), .refl _, (by simp (disch := first | (refine Ok.mk ?_; (try simp only [Lm, La, Lc, Ln, Lt, Ld, Lr, Li, true_or, or_true, true_and, and_true]); omega) | (simp <;> fail) | skip) [resV, h5, rowsC]), rfl, rfl⟩)
    · have h5' : ¬ (100 : Int) < n := by omega
      have h0' : ¬ (n : Int) = 0 := by omega
      rw [if_neg (by omega)]
      first | refine pwp_rif ?_ | refine pwp_rifE ?_
      intro K hK
      simp (disch := first | (refine Ok.mk ?_; (try simp only [Lm, La, Lc, Ln, Lt, Ld, Lr, Li, true_or, or_true, true_and, and_true]); omega) | (simp <;> fail) | skip) [runM_nil, h5', h0, h0']
      refine hK _ _ ?_
      clear hK K
      refine ifF (by simp [runM_nil, h5']) (pwp_skip ?_)
      first | refine pwp_sr ?_ | refine pwp_regionM ?_
      intro K hK
      simp (disch := first | (refine Ok.mk ?_; (try simp only [Lm, La, Lc, Ln, Lt, Ld, Lr, Li, true_or, or_true, true_and, and_true]); omega) | (simp <;> fail) | skip) [runM_nil]
      refine hK _ _ ?_
      clear hK K
      refine pwp_seq (pwp_seq ?_)
      first | refine pwp_sr ?_ | refine pwp_regionM ?_
      intro K hK
      simp (disch := first | (refine Ok.mk ?_; (try simp only [Lm, La, Lc, Ln, Lt, Ld, Lr, Li, true_or, or_true, true_and, and_true]); omega) | (simp <;> fail) | skip) [runM_nil]
      refine hK _ _ ?_
      clear hK K
      refine pwp_block ?_
      refine pwp_loopU [0, 6, 26, 27] (fun q st H' => ∃ (i : Nat) (acc : List Rc) (c : List Nat) (o1 : Bool), i ≤ n ∧ (∀ x ∈ c, x < 256) ∧ c.length ≤ b.length ∧ acc.length = i ∧ recL n [] r = recL (n - i) acc c ∧ q = n - i ∧ H' = H ∧
          st = MS 52 [(0, .lst 1 (c.map u8) o1), (6, .lst 1 (rowsC acc) true), (26, .int .u64 n), (27, .int .u64 i)]) (n := n)
        ⟨_, _, keep_up (l' := [(0, .lst 1 (r.map u8) true), (6, .lst 1 [] true), (26, .int .u64 n), (27, .int .u64 0)]) (by simp), List.Sublist.refl _, 0, [], r, true, Nat.zero_le _, hrw, hrl, rfl, rfl, rfl, rfl, by simp [rowsC]⟩ ?_
      rintro q st H' ⟨i, acc, c, o1, hi, hcw, hcl, hac, hent, rfl, hH, rfl⟩
      subst hH
      by_cases hlt : i < n
      · have hlt' : (i : Int) < n := by omega
        have ct := takePair_ok (s := 1) (o := false) (xs := c.map u8) rfl (.inl rfl) hcw (by omega)
        obtain ⟨k, hk⟩ : ∃ k, n - i = k + 1 := ⟨n - i - 1, by omega⟩
        rw [hk, recL] at hent
        obtain ⟨x1, x2, x3, x4, x5, x6⟩ := vpair_wf hcw
        generalize vpair c = B at *
        obtain ⟨⟨kk, vv⟩, r2, e2⟩ := B
        dsimp only at *
        simp only [vpV] at ct
        first | refine pwp_sr ?_ | refine pwp_regionM ?_
        intro K hK
        simp (disch := first | (refine Ok.mk ?_; (try simp only [Lm, La, Lc, Ln, Lt, Ld, Lr, Li, true_or, or_true, true_and, and_true]); omega) | (simp <;> fail) | skip) [runM_nil, hlt']
        refine hK _ _ ?_
        clear hK K
        refine pwp_seq (pwp_cT (by simp) (pwp_skip ?_))
        refine pwp_seq (pwp_block ?_)
        by_cases h2 : e2 = 0
        · subst h2
          rw [if_neg (by simp)] at hent
          have hrl2 : (rowsC acc).length = acc.length := by simp [rowsC]
          first | refine pwp_sr ?_ | refine pwp_regionM ?_
          intro K hK
          simp (disch := first | (refine Ok.mk ?_; (try simp only [Lm, La, Lc, Ln, Lt, Ld, Lr, Li, true_or, or_true, true_and, and_true]); omega) | (simp <;> fail) | skip) [runM_nil]
          refine useP (ct) ?_
          simp (disch := first | (refine Ok.mk ?_; (try simp only [Lm, La, Lc, Ln, Lt, Ld, Lr, Li, true_or, or_true, true_and, and_true]); omega) | (simp <;> fail) | skip) [runM_nil]
          intro b7 h_b7
          try simp (disch := first | (refine Ok.mk ?_; (try simp only [Lm, La, Lc, Ln, Lt, Ld, Lr, Li, true_or, or_true, true_and, and_true]); omega) | (simp <;> fail) | skip) [runM_nil]
          refine hK _ _ ?_
          clear hK K
          first | refine pwp_rif ?_ | refine pwp_rifE ?_
          intro K hK
          simp (disch := first | (refine Ok.mk ?_; (try simp only [Lm, La, Lc, Ln, Lt, Ld, Lr, Li, true_or, or_true, true_and, and_true]); omega) | (simp <;> fail) | skip) [runM_nil]
          refine hK _ _ ?_
          clear hK K
          refine ifF (by simp [runM_nil]) (pwp_skip ?_)
          first | refine pwp_sr ?_ | refine pwp_regionM ?_
          intro K hK
          simp (disch := first | (refine Ok.mk ?_; (try simp only [Lm, La, Lc, Ln, Lt, Ld, Lr, Li, true_or, or_true, true_and, and_true]); omega) | (simp <;> fail) | skip) [runM_nil, hrl2]
          refine hK _ _ ?_
          clear hK K
          first | refine pwp_sr ?_ | refine pwp_regionM ?_
          intro K hK
          simp (disch := first | (refine Ok.mk ?_; (try simp only [Lm, La, Lc, Ln, Lt, Ld, Lr, Li, true_or, or_true, true_and, and_true]); omega) | (simp <;> fail) | skip) [runM_nil]
          refine hK _ _ ?_
          clear hK K
          refine ⟨n - (i + 1), by omega, _, _, keep_up (l' := [(0, .lst 1 (r2.map u8) false), (6, .lst 1 (rowsC (acc ++ [[kk, vv]])) true), (26, .int .u64 n), (27, .int .u64 ((i : Int) + 1))]) (by simp [rowsC, sV]), List.Sublist.cons _ (.refl _), i + 1, acc ++ [[kk, vv]], r2, false, by omega, x3, by omega, by rw [List.length_append, hac]; rfl, ?_, rfl, rfl, by simp⟩
          rw [hent, show n - (i + 1) = k by omega]
        · have h2' : ¬ (e2 : Int) = 0 := by omega
          rw [if_pos h2] at hent
          first | refine pwp_sr ?_ | refine pwp_regionM ?_
          intro K hK
          simp (disch := first | (refine Ok.mk ?_; (try simp only [Lm, La, Lc, Ln, Lt, Ld, Lr, Li, true_or, or_true, true_and, and_true]); omega) | (simp <;> fail) | skip) [runM_nil]
          refine useP (ct) ?_
          simp (disch := first | (refine Ok.mk ?_; (try simp only [Lm, La, Lc, Ln, Lt, Ld, Lr, Li, true_or, or_true, true_and, and_true]); omega) | (simp <;> fail) | skip) [runM_nil]
          intro b7 h_b7
          try simp (disch := first | (refine Ok.mk ?_; (try simp only [Lm, La, Lc, Ln, Lt, Ld, Lr, Li, true_or, or_true, true_and, and_true]); omega) | (simp <;> fail) | skip) [runM_nil]
          refine hK _ _ ?_
          clear hK K
          first | refine pwp_rif ?_ | refine pwp_rifE ?_
          intro K hK
          simp (disch := first | (refine Ok.mk ?_; (try simp only [Lm, La, Lc, Ln, Lt, Ld, Lr, Li, true_or, or_true, true_and, and_true]); omega) | (simp <;> fail) | skip) [runM_nil, h2, h2']
          refine hK _ _ ?_
          clear hK K
          refine ifT (by simp [runM_nil, h2, h2']) ?_
          first | refine pwp_sr ?_ | refine pwp_regionM ?_
          intro K hK
          simp (disch := first | (refine Ok.mk ?_; (try simp only [Lm, La, Lc, Ln, Lt, Ld, Lr, Li, true_or, or_true, true_and, and_true]); omega) | (simp <;> fail) | skip) [runM_nil]
          refine hK _ _ ?_
          clear hK K
          rw [hent]
          refine pwp_ret (And.intro (.inr rfl) ⟨_, _, _, (by simp (disch := first | (refine Ok.mk ?_; (try simp only [Lm, La, Lc, Ln, Lt, Ld, Lr, Li, true_or, or_true, true_and, and_true]); omega) | (simp <;> fail) | skip) [runM_nil, resL, h2, rowsC]; rfl), (.cons _ (.refl _)), (by simp (disch := first | (refine Ok.mk ?_; (try simp only [Lm, La, Lc, Ln, Lt, Ld, Lr, Li, true_or, or_true, true_and, and_true]); omega) | (simp <;> fail) | skip) [resV, h2, rowsC]), rfl, rfl⟩)
      · obtain rfl : i = n := by omega
        rw [Nat.sub_self, recL] at hent
        have hxc : (c.map u8).length = c.length := List.length_map _
        first | refine pwp_sr ?_ | refine pwp_regionM ?_
        intro K hK
        simp (disch := first | (refine Ok.mk ?_; (try simp only [Lm, La, Lc, Ln, Lt, Ld, Lr, Li, true_or, or_true, true_and, and_true]); omega) | (simp <;> fail) | skip) [runM_nil]
        refine hK _ _ ?_
        clear hK K
        refine pwp_seq (pwp_cF (by simp) (pwp_exit ?_))
        rw [hent]
        dsimp only
        rcases Nat.eq_zero_or_pos c.length with hc0 | hc0
        · obtain rfl : c = [] := List.eq_nil_of_length_eq_zero hc0
          first | refine pwp_rif ?_ | refine pwp_rifE ?_
          intro K hK
          simp (disch := first | (refine Ok.mk ?_; (try simp only [Lm, La, Lc, Ln, Lt, Ld, Lr, Li, true_or, or_true, true_and, and_true]); omega) | (simp <;> fail) | skip) [runM_nil]
          refine hK _ _ ?_
          clear hK K
          refine ifF (by simp [runM_nil]) (pwp_skip ?_)
          first | refine pwp_sr ?_ | refine pwp_regionM ?_
          intro K hK
          simp (disch := first | (refine Ok.mk ?_; (try simp only [Lm, La, Lc, Ln, Lt, Ld, Lr, Li, true_or, or_true, true_and, and_true]); omega) | (simp <;> fail) | skip) [runM_nil]
          refine hK _ _ ?_
          clear hK K
          refine pwp_ret (And.intro (.inr rfl) ⟨_, _, _, (by simp (disch := first | (refine Ok.mk ?_; (try simp only [Lm, La, Lc, Ln, Lt, Ld, Lr, Li, true_or, or_true, true_and, and_true]); omega) | (simp <;> fail) | skip) [runM_nil, resL]; rfl), .refl _, (by simp (disch := first | (refine Ok.mk ?_; (try simp only [Lm, La, Lc, Ln, Lt, Ld, Lr, Li, true_or, or_true, true_and, and_true]); omega) | (simp <;> fail) | skip) [resV]), rfl, rfl⟩)
        · have hcn : c ≠ [] := List.length_pos_iff.1 hc0
          have hc1 : (0 : Int) < c.length := by omega
          first | refine pwp_rif ?_ | refine pwp_rifE ?_
          intro K hK
          simp (disch := first | (refine Ok.mk ?_; (try simp only [Lm, La, Lc, Ln, Lt, Ld, Lr, Li, true_or, or_true, true_and, and_true]); omega) | (simp <;> fail) | skip) [runM_nil, hc1]
          refine hK _ _ ?_
          clear hK K
          refine ifT (by simp [runM_nil, hc1]) ?_
          first | refine pwp_sr ?_ | refine pwp_regionM ?_
          intro K hK
          simp (disch := first | (refine Ok.mk ?_; (try simp only [Lm, La, Lc, Ln, Lt, Ld, Lr, Li, true_or, or_true, true_and, and_true]); omega) | (simp <;> fail) | skip) [runM_nil]
          refine hK _ _ ?_
          clear hK K
          refine pwp_ret (And.intro (.inr rfl) ⟨_, _, _, (by simp (disch := first | (refine Ok.mk ?_; (try simp only [Lm, La, Lc, Ln, Lt, Ld, Lr, Li, true_or, or_true, true_and, and_true]); omega) | (simp <;> fail) | skip) [runM_nil, resL, hcn, rowsC]; rfl), .refl _, (by simp (disch := first | (refine Ok.mk ?_; (try simp only [Lm, La, Lc, Ln, Lt, Ld, Lr, Li, true_or, or_true, true_and, and_true]); omega) | (simp <;> fail) | skip) [resV, hcn, rowsC]), rfl, rfl⟩)
  · have h3' : ¬ (e : Int) = 0 := by omega
    first | refine pwp_rif ?_ | refine pwp_rifE ?_
    intro K hK
    simp (disch := first | (refine Ok.mk ?_; (try simp only [Lm, La, Lc, Ln, Lt, Ld, Lr, Li, true_or, or_true, true_and, and_true]); omega) | (simp <;> fail) | skip) [runM_nil, h3, h3']
    refine hK _ _ ?_
    clear hK K
    refine ifT (by simp [runM_nil, h3, h3']) ?_
    first | refine pwp_sr ?_ | refine pwp_regionM ?_
    intro K hK
    simp (disch := first | (refine Ok.mk ?_; (try simp only [Lm, La, Lc, Ln, Lt, Ld, Lr, Li, true_or, or_true, true_and, and_true]); omega) | (simp <;> fail) | skip) [runM_nil]
    refine hK _ _ ?_
    clear hK K
    refine pwp_ret (And.intro (.inr rfl) ⟨_, _, _, (by simp (disch := first | (refine Ok.mk ?_; (try simp only [Lm, La, Lc, Ln, Lt, Ld, Lr, Li, true_or, or_true, true_and, and_true]); omega) | (simp <;> fail) | skip) [runM_nil, resL, h3, rowsC]; rfl), .refl _, (by simp (disch := first | (refine Ok.mk ?_; (try simp only [Lm, La, Lc, Ln, Lt, Ld, Lr, Li, true_or, or_true, true_and, and_true]); omega) | (simp <;> fail) | skip) [resV, h3, rowsC]), rfl, rfl⟩)
end Go.Proofs.YtjcjbpbkakfjdaaDoor.E
/- A block, by the program; the blocks from a place on, ranged over. -/
namespace Go.Proofs.YtjcjbpbkakfjdaaDoor.E
open Go Go.RowKit Go.Proofs
set_option linter.unusedVariables false
set_option linter.unusedSimpArgs false
def rawB (b : List Nat) (k : Nat) : List Nat := (b.take (mkB b (k + 2))).drop (k + 2)
def blkB (b : List Nat) (k : Nat) : Nat × List Rc × Nat × Nat :=
  if [255, 83].isPrefixOf (b.drop k) = false then (0, [], 0, 3) else
  if (unaB (rawB b k)).2 ≠ 0 then (0, [], 0, (unaB (rawB b k)).2) else
  if (opened tbl (unaB (rawB b k)).1).2 ≠ 0 then (0, [], 0, (opened tbl (unaB (rawB b k)).1).2) else
  (k, (recsB (opened tbl (unaB (rawB b k)).1).1).1, mkB b (k + 2), (recsB (opened tbl (unaB (rawB b k)).1).1).2)
def pcW (p : Nat × List Rc) : PV := .agg [.int .i64 p.1, .lst 1 (rowsC p.2) false]
theorem repW_lt {p n : List Nat} (hn : ∀ x ∈ n, x < 256) : ∀ (k : Nat) (l : List Nat), l.length ≤ k → (∀ x ∈ l, x < 256) → ∀ x ∈ repW p n l, x < 256
  | k, l, hk, hl => by
    by_cases h : dist p l < l.length ∧ 1 ≤ p.length
    · have hr := dist_room h.1
      cases k with
      | zero => omega
      | succ k =>
        rw [repW_hit h.2 h.1]
        intro x hx
        rcases List.mem_append.1 hx with hx | hx
        · rcases List.mem_append.1 hx with hx | hx
          · exact hl x (List.mem_of_mem_take hx)
          · exact hn x hx
        · exact repW_lt hn k _ (by rw [List.length_drop]; omega) (fun x hx => hl x (List.mem_of_mem_drop hx)) x hx
    · unfold repW
      rw [dif_neg h]
      exact hl
theorem unaB_wf {b : List Nat} (hw : ∀ x ∈ b, x < 256) : (∀ x ∈ (unaB b).1, x < 256) ∧ (unaB b).1.length ≤ b.length := by
  unfold unaB
  split
  · rename_i h
    exact ⟨repW_lt (one_lt (by omega)) _ b (Nat.le_refl _) hw, by show (repW _ _ _).length ≤ _; omega⟩
  · simp
theorem mkB_le (b : List Nat) (k : Nat) : mkB b k ≤ b.length ∧ min k b.length ≤ mkB b k := by
  have := dist_le [255, 83] (b.drop (min k b.length))
  rw [List.length_drop] at this
  unfold mkB
  omega
theorem prefix2 {b : List Nat} {k : Nat} (h : [255, 83].isPrefixOf (b.drop k) = true) : k + 2 ≤ b.length := by
  have := (List.isPrefixOf_iff_prefix.1 h).length_le
  rw [List.length_drop] at this
  simp at this
  omega
def blkV (x : Nat × List Rc × Nat × Nat) : PV := .tup [pcW (x.1, x.2.1), .int .i64 (x.2.2.1 : Nat), .int .i64 (x.2.2.2 : Nat)]
theorem block_ok {s : Nat} {xs : List PV} {o ot : Bool} {b : List Nat} (hx : xs = b.map u8) (hs : s = 1 ∨ b.length = 0) (hw : ∀ x ∈ b, x < 256) (hl : b.length ≤ 1000000) (k : Nat) (hk : k ≤ b.length) :
    PSpec Tryd.prog 60 [.lst s xs o, .int .i64 k, .lst 1 (tbl.map u32) ot] (blkV (blkB b k)) := by
  intro H
  have hxl : xs.length = b.length := by rw [hx, Lm]
  have c1 := hprefix_ok (s := s) (xs := xs.drop k) (o := false) (q := false) (p := [255, 83]) (by rw [hx, List.map_drop]) (hs.imp id fun h => by rw [List.length_drop]; omega) rfl (fun x hx => hw x (List.mem_of_mem_drop hx)) (two_lt (by omega) (by omega))
  have hp2 := prefix2 (b := b) (k := k)
  unfold blkB
  generalize [255, 83].isPrefixOf (b.drop k) = pf at *
  refine spec_ofU t60 (by simp [p60]) ?_
  simp only [p60]
  first | refine pwp_sr ?_ | refine pwp_regionM ?_
  intro K hK
  simp (disch := first | (refine Ok.mk ?_; (try simp only [Lm, La, Lc, Ln, Lt, Ld, Lr, Li, true_or, or_true, true_and, and_true]); omega) | (simp <;> fail) | skip) [runM_nil]
  intro b6 h_b6
  try simp (disch := first | (refine Ok.mk ?_; (try simp only [Lm, La, Lc, Ln, Lt, Ld, Lr, Li, true_or, or_true, true_and, and_true]); omega) | (simp <;> fail) | skip) [runM_nil]
  refine hK _ _ ?_
  clear hK K
  cases pf with
  | false =>
    first | refine pwp_rif ?_ | refine pwp_rifE ?_
    intro K hK
    simp (disch := first | (refine Ok.mk ?_; (try simp only [Lm, La, Lc, Ln, Lt, Ld, Lr, Li, true_or, or_true, true_and, and_true]); omega) | (simp <;> fail) | skip) [runM_nil, hxl]
    refine useP (c1) ?_
    simp (disch := first | (refine Ok.mk ?_; (try simp only [Lm, La, Lc, Ln, Lt, Ld, Lr, Li, true_or, or_true, true_and, and_true]); omega) | (simp <;> fail) | skip) [runM_nil, hxl]
    refine hK _ _ ?_
    clear hK K
    refine ifT (by simp (disch := first | (refine Ok.mk ?_; (try simp only [Lm, La, Lc, Ln, Lt, Ld, Lr, Li, true_or, or_true, true_and, and_true]); omega) | (simp <;> fail) | skip) [runM_nil]) ?_
    first | refine pwp_sr ?_ | refine pwp_regionM ?_
    intro K hK
    simp (disch := first | (refine Ok.mk ?_; (try simp only [Lm, La, Lc, Ln, Lt, Ld, Lr, Li, true_or, or_true, true_and, and_true]); omega) | (simp <;> fail) | skip) [runM_nil]
    refine hK _ _ ?_
    clear hK K
    refine pwp_ret (And.intro (.inr rfl) ⟨_, _, _, (by simp (disch := first | (refine Ok.mk ?_; (try simp only [Lm, La, Lc, Ln, Lt, Ld, Lr, Li, true_or, or_true, true_and, and_true]); omega) | (simp <;> fail) | skip) [runM_nil, resL, blkV, pcW, rowsC]; rfl), (.cons _ (.refl _)), (by simp (disch := first | (refine Ok.mk ?_; (try simp only [Lm, La, Lc, Ln, Lt, Ld, Lr, Li, true_or, or_true, true_and, and_true]); omega) | (simp <;> fail) | skip) [resV, blkV, pcW, rowsC]), rfl, rfl⟩)
  | true =>
    have hk2 := hp2 rfl
    have htn : ((k : Int) + 2).toNat = k + 2 := by omega
    have c2 := marker_ok (o := false) hx hs hw (by omega) ((k : Int) + 2)
    rw [htn] at c2
    obtain ⟨m1, m2⟩ := mkB_le b (k + 2)
    have hraw : rawB b k = (b.take (mkB b (k + 2))).drop (k + 2) := rfl
    have c3 := unesc_ok (s := s) (xs := (xs.take (mkB b (k + 2))).drop (k + 2)) (o := false) (b := rawB b k) (by rw [hx, hraw, List.map_drop, List.map_take]) (by rw [hraw]; exact hs.imp id fun h => by rw [List.length_drop, List.length_take]; omega) (fun x hx => hw x (List.mem_of_mem_take (List.mem_of_mem_drop (by rw [hraw] at hx; exact hx)))) (by rw [hraw, List.length_drop, List.length_take]; omega)
    have hrw : ∀ x ∈ rawB b k, x < 256 := fun x hx => hw x (List.mem_of_mem_take (List.mem_of_mem_drop (by rw [hraw] at hx; exact hx)))
    have hrl : (rawB b k).length ≤ b.length := by rw [hraw, List.length_drop, List.length_take]; omega
    clear hraw
    obtain ⟨u1, u2⟩ := unaB_wf hrw
    generalize rawB b k = R at *
    generalize unaB R = U at *
    obtain ⟨raw, e1⟩ := U
    dsimp only at *
    have c4 := open_ok (t := tbl) tbl_length tbl_lt (ot := false) (o := false) (s := 1) (xs := raw.map u8) rfl (.inl rfl) u1 (by omega)
    obtain ⟨v1, v2, _⟩ := opened_wf (t := tbl) u1
    generalize opened tbl raw = O at *
    obtain ⟨inn, e2⟩ := O
    dsimp only at *
    have c5 := records_ok (s := 1) (xs := inn.map u8) (o := false) rfl (.inl rfl) v1 (by omega)
    generalize recsB inn = RR at *
    obtain ⟨l, e3⟩ := RR
    dsimp only at *
    generalize mkB b (k + 2) = E at *
    first | refine pwp_rif ?_ | refine pwp_rifE ?_
    intro K hK
    simp (disch := first | (refine Ok.mk ?_; (try simp only [Lm, La, Lc, Ln, Lt, Ld, Lr, Li, true_or, or_true, true_and, and_true]); omega) | (simp <;> fail) | skip) [runM_nil, hxl]
    refine useP (c1) ?_
    simp (disch := first | (refine Ok.mk ?_; (try simp only [Lm, La, Lc, Ln, Lt, Ld, Lr, Li, true_or, or_true, true_and, and_true]); omega) | (simp <;> fail) | skip) [runM_nil, hxl]
    refine hK _ _ ?_
    clear hK K
    refine ifF (by simp (disch := first | (refine Ok.mk ?_; (try simp only [Lm, La, Lc, Ln, Lt, Ld, Lr, Li, true_or, or_true, true_and, and_true]); omega) | (simp <;> fail) | skip) [runM_nil]) (pwp_skip ?_)
    first | refine pwp_sr ?_ | refine pwp_regionM ?_
    intro K hK
    simp (disch := first | (refine Ok.mk ?_; (try simp only [Lm, La, Lc, Ln, Lt, Ld, Lr, Li, true_or, or_true, true_and, and_true]); omega) | (simp <;> fail) | skip) [runM_nil]
    refine hK _ _ ?_
    clear hK K
    first | refine pwp_sr ?_ | refine pwp_regionM ?_
    intro K hK
    simp (disch := first | (refine Ok.mk ?_; (try simp only [Lm, La, Lc, Ln, Lt, Ld, Lr, Li, true_or, or_true, true_and, and_true]); omega) | (simp <;> fail) | skip) [runM_nil]
    refine useP (c2) ?_
    simp (disch := first | (refine Ok.mk ?_; (try simp only [Lm, La, Lc, Ln, Lt, Ld, Lr, Li, true_or, or_true, true_and, and_true]); omega) | (simp <;> fail) | skip) [runM_nil]
    refine hK _ _ ?_
    clear hK K
    first | refine pwp_sr ?_ | refine pwp_regionM ?_
    intro K hK
    simp (disch := first | (refine Ok.mk ?_; (try simp only [Lm, La, Lc, Ln, Lt, Ld, Lr, Li, true_or, or_true, true_and, and_true]); omega) | (simp <;> fail) | skip) [runM_nil, hxl, htn]
    refine useP (c3) ?_
    simp (disch := first | (refine Ok.mk ?_; (try simp only [Lm, La, Lc, Ln, Lt, Ld, Lr, Li, true_or, or_true, true_and, and_true]); omega) | (simp <;> fail) | skip) [runM_nil, hxl, htn]
    refine hK _ _ ?_
    clear hK K
    by_cases h1 : e1 = 0
    · subst h1
      first | refine pwp_rif ?_ | refine pwp_rifE ?_
      intro K hK
      simp (disch := first | (refine Ok.mk ?_; (try simp only [Lm, La, Lc, Ln, Lt, Ld, Lr, Li, true_or, or_true, true_and, and_true]); omega) | (simp <;> fail) | skip) [runM_nil]
      refine hK _ _ ?_
      clear hK K
      refine ifF (by simp (disch := first | (refine Ok.mk ?_; (try simp only [Lm, La, Lc, Ln, Lt, Ld, Lr, Li, true_or, or_true, true_and, and_true]); omega) | (simp <;> fail) | skip) [runM_nil]) (pwp_skip ?_)
      first | refine pwp_sr ?_ | refine pwp_regionM ?_
      intro K hK
      simp (disch := first | (refine Ok.mk ?_; (try simp only [Lm, La, Lc, Ln, Lt, Ld, Lr, Li, true_or, or_true, true_and, and_true]); omega) | (simp <;> fail) | skip) [runM_nil]
      refine useP (c4) ?_
      simp (disch := first | (refine Ok.mk ?_; (try simp only [Lm, La, Lc, Ln, Lt, Ld, Lr, Li, true_or, or_true, true_and, and_true]); omega) | (simp <;> fail) | skip) [runM_nil]
      refine hK _ _ ?_
      clear hK K
      by_cases h2 : e2 = 0
      · subst h2
        first | refine pwp_rif ?_ | refine pwp_rifE ?_
        intro K hK
        simp (disch := first | (refine Ok.mk ?_; (try simp only [Lm, La, Lc, Ln, Lt, Ld, Lr, Li, true_or, or_true, true_and, and_true]); omega) | (simp <;> fail) | skip) [runM_nil]
        refine hK _ _ ?_
        clear hK K
        refine ifF (by simp (disch := first | (refine Ok.mk ?_; (try simp only [Lm, La, Lc, Ln, Lt, Ld, Lr, Li, true_or, or_true, true_and, and_true]); omega) | (simp <;> fail) | skip) [runM_nil]) (pwp_skip ?_)
        first | refine pwp_sr ?_ | refine pwp_regionM ?_
        intro K hK
        simp (disch := first | (refine Ok.mk ?_; (try simp only [Lm, La, Lc, Ln, Lt, Ld, Lr, Li, true_or, or_true, true_and, and_true]); omega) | (simp <;> fail) | skip) [runM_nil]
        refine useP (c5) ?_
        simp (disch := first | (refine Ok.mk ?_; (try simp only [Lm, La, Lc, Ln, Lt, Ld, Lr, Li, true_or, or_true, true_and, and_true]); omega) | (simp <;> fail) | skip) [runM_nil]
        refine hK _ _ ?_
        clear hK K
        first | refine pwp_sr ?_ | refine pwp_regionM ?_
        intro K hK
        simp (disch := first | (refine Ok.mk ?_; (try simp only [Lm, La, Lc, Ln, Lt, Ld, Lr, Li, true_or, or_true, true_and, and_true]); omega) | (simp <;> fail) | skip) [runM_nil]
        refine hK _ _ ?_
        clear hK K
        refine pwp_ret ⟨.inr rfl, _, _, _, (by simp (disch := first | (refine Ok.mk ?_; (try simp only [Lm, La, Lc, Ln, Lt, Ld, Lr, Li, true_or, or_true, true_and, and_true]); omega) | (simp <;> fail) | skip) [runM_nil, resL, blkV, pcW]; rfl), (.cons _ (.refl _)), (by simp (disch := first | (refine Ok.mk ?_; (try simp only [Lm, La, Lc, Ln, Lt, Ld, Lr, Li, true_or, or_true, true_and, and_true]); omega) | (simp <;> fail) | skip) [resV, blkV, pcW]), rfl, rfl⟩
      · have h2' : ¬ (e2 : Int) = 0 := by omega
        first | refine pwp_rif ?_ | refine pwp_rifE ?_
        intro K hK
        simp (disch := first | (refine Ok.mk ?_; (try simp only [Lm, La, Lc, Ln, Lt, Ld, Lr, Li, true_or, or_true, true_and, and_true]); omega) | (simp <;> fail) | skip) [runM_nil, h2, h2']
        refine hK _ _ ?_
        clear hK K
        refine ifT (by simp [runM_nil, h2, h2']) ?_
        first | refine pwp_sr ?_ | refine pwp_regionM ?_
        intro K hK
        simp (disch := first | (refine Ok.mk ?_; (try simp only [Lm, La, Lc, Ln, Lt, Ld, Lr, Li, true_or, or_true, true_and, and_true]); omega) | (simp <;> fail) | skip) [runM_nil]
        refine hK _ _ ?_
        clear hK K
        refine pwp_ret (And.intro (.inr rfl) ⟨_, _, _, (by simp (disch := first | (refine Ok.mk ?_; (try simp only [Lm, La, Lc, Ln, Lt, Ld, Lr, Li, true_or, or_true, true_and, and_true]); omega) | (simp <;> fail) | skip) [runM_nil, resL, blkV, pcW, h2, rowsC]; rfl), (.cons _ (.refl _)), (by simp (disch := first | (refine Ok.mk ?_; (try simp only [Lm, La, Lc, Ln, Lt, Ld, Lr, Li, true_or, or_true, true_and, and_true]); omega) | (simp <;> fail) | skip) [resV, blkV, pcW, h2, rowsC]), rfl, rfl⟩)
    · have h1' : ¬ (e1 : Int) = 0 := by omega
      first | refine pwp_rif ?_ | refine pwp_rifE ?_
      intro K hK
      simp (disch := first | (refine Ok.mk ?_; (try simp only [Lm, La, Lc, Ln, Lt, Ld, Lr, Li, true_or, or_true, true_and, and_true]); omega) | (simp <;> fail) | skip) [runM_nil, h1, h1']
      refine hK _ _ ?_
      clear hK K
      refine ifT (by simp [runM_nil, h1, h1']) ?_
      first | refine pwp_sr ?_ | refine pwp_regionM ?_
      intro K hK
      simp (disch := first | (refine Ok.mk ?_; (try simp only [Lm, La, Lc, Ln, Lt, Ld, Lr, Li, true_or, or_true, true_and, and_true]); omega) | (simp <;> fail) | skip) [runM_nil]
      refine hK _ _ ?_
      clear hK K
      refine pwp_ret (And.intro (.inr rfl) ⟨_, _, _, (by simp (disch := first | (refine Ok.mk ?_; (try simp only [Lm, La, Lc, Ln, Lt, Ld, Lr, Li, true_or, or_true, true_and, and_true]); omega) | (simp <;> fail) | skip) [runM_nil, resL, blkV, pcW, h1, rowsC]; rfl), (.cons _ (.refl _)), (by simp (disch := first | (refine Ok.mk ?_; (try simp only [Lm, La, Lc, Ln, Lt, Ld, Lr, Li, true_or, or_true, true_and, and_true]); omega) | (simp <;> fail) | skip) [resV, blkV, pcW, h1, rowsC]), rfl, rfl⟩)
end Go.Proofs.YtjcjbpbkakfjdaaDoor.E
/- The blocks from a place on, ranged over. -/
namespace Go.Proofs.YtjcjbpbkakfjdaaDoor.E
open Go Go.RowKit Go.Proofs
set_option linter.unusedVariables false
set_option linter.unusedSimpArgs false
abbrev Bk := Nat × Nat × List Rc
def blks : Nat → List Nat → Nat → List Bk
  | 0, _, _ => []
  | f + 1, b, k => if k < b.length ∧ (blkB b k).2.2.2 = 0 then ((blkB b k).2.2.1, k, (blkB b k).2.1) :: blks f b (blkB b k).2.2.1 else []
theorem blkB_ok {b : List Nat} {k : Nat} (h : (blkB b k).2.2.2 = 0) : (blkB b k).1 = k ∧ k + 2 ≤ (blkB b k).2.2.1 ∧ (blkB b k).2.2.1 ≤ b.length := by
  have m := mkB_le b (k + 2)
  unfold blkB at *
  by_cases h0 : [255, 83].isPrefixOf (b.drop k) = false
  · rw [if_pos h0] at h; cases h
  · rw [if_neg h0] at h ⊢
    have p2 := prefix2 (b := b) (k := k) (by simpa using h0)
    by_cases h1 : (unaB (rawB b k)).2 ≠ 0
    · rw [if_pos h1] at h; exact absurd h h1
    · rw [if_neg h1] at h ⊢
      by_cases h2 : (opened tbl (unaB (rawB b k)).1).2 ≠ 0
      · rw [if_pos h2] at h; exact absurd h h2
      · rw [if_neg h2]
        exact ⟨rfl, by show k + 2 ≤ mkB b (k + 2); omega, m.1⟩
theorem blks_fuel (b : List Nat) : ∀ (n n' k : Nat), b.length - k ≤ n → b.length - k ≤ n' → blks n b k = blks n' b k
  | 0, 0, k, _, _ => rfl
  | 0, n' + 1, k, h, _ => by rw [blks, blks, if_neg (by omega)]
  | n + 1, 0, k, _, h => by rw [blks, blks, if_neg (by omega)]
  | n + 1, n' + 1, k, h, h' => by
    rw [blks, blks]
    by_cases hc : k < b.length ∧ (blkB b k).2.2.2 = 0
    · obtain ⟨_, q1, q2⟩ := blkB_ok hc.2
      rw [if_pos hc, if_pos hc, blks_fuel b n n' _ (by omega) (by omega)]
    · rw [if_neg hc, if_neg hc]
def blkAt (b : List Nat) (k : Nat) : List Bk := blks (b.length - k) b k
theorem blkAt_step {b : List Nat} {k : Nat} (hk : k < b.length) (he : (blkB b k).2.2.2 = 0) : blkAt b k = ((blkB b k).2.2.1, k, (blkB b k).2.1) :: blkAt b (blkB b k).2.2.1 := by
  obtain ⟨_, q1, q2⟩ := blkB_ok he
  unfold blkAt
  rw [show b.length - k = (b.length - k - 1) + 1 by omega, blks, if_pos ⟨hk, he⟩, blks_fuel b _ (b.length - (blkB b k).2.2.1) _ (by omega) (Nat.le_refl _)]
theorem blkAt_stop {b : List Nat} {k : Nat} (h : ¬ (k < b.length ∧ (blkB b k).2.2.2 = 0)) : blkAt b k = [] := by
  unfold blkAt
  cases hn : b.length - k with
  | zero => rfl
  | succ n => rw [blks, if_neg h]
def bkV (p : Bk) : List PV := [.int .i64 p.1, pcW p.2]
theorem blocks_iter {s : Nat} {xs : List PV} {b : List Nat} (hx : xs = b.map u8) (hs : s = 1 ∨ b.length = 0) (hw : ∀ x ∈ b, x < 256) (hl : b.length ≤ 1000000) (k0 : Nat) (hk0 : k0 ≤ b.length) (b1 : Nat) :
    IterG Tryd.prog 59 [.ptr (some (b1, 0)), .ip 1 [.lst s xs false] 0 0] [(b1, [.int .i64 k0])] ((blkAt b k0).map bkV) := by
  have hxl : xs.length = b.length := by rw [hx, Lm]
  refine iter_of t59 (by simp [p59]) ?_
  intro B J Jx Ho hY hJ
  simp only [p59]
  refine pwpE_sr ?_
  intro K hK
  simp (disch := first | (refine Ok.mk ?_; (try simp only [Lm, La, Lc, Ln, Lt, Ld, Lr, Li, true_or, or_true, true_and, and_true]); omega) | (simp <;> fail) | skip) [runM_nil]
  refine useP (table_ok) ?_
  simp (disch := first | (refine Ok.mk ?_; (try simp only [Lm, La, Lc, Ln, Lt, Ld, Lr, Li, true_or, or_true, true_and, and_true]); omega) | (simp <;> fail) | skip) [runM_nil]
  refine hK _ _ ?_
  clear hK K
  refine pwpE_block ?_
  refine pwpE_loopK [0, 1, 2, 4] (fun m st H' => ∃ (k : Nat) (done : List Bk) (Ho' : Heap), k ≤ b.length ∧ blkAt b k0 = done ++ blkAt b k ∧ J (done.map bkV) Ho' ∧ m = b.length - k ∧ H' = (b1, [.int .i64 k]) :: Ho' ∧
      st = MS 31 [(0, .fn (.yield B.l) [] []), (1, .ptr (some (b1, 0))), (2, .ip 1 [.lst s xs false] 0 0), (4, .lst 1 (tbl.map u32) false)]) (n := b.length - k0)
    ⟨_, .refl _, k0, [], Ho, hk0, rfl, hJ, rfl, rfl, by simp [keepL_MS, keepA, getS, lendL, lend]⟩ ?_
  rintro m st _ ⟨k, done, Ho', hk, hbl, hJ', rfl, rfl, rfl⟩
  by_cases hlt : k < b.length
  · have cb := block_ok (o := false) (ot := false) hx hs hw hl k hk
    have hst := blkAt_step (b := b) (k := k) hlt
    have hsp := blkAt_stop (b := b) (k := k)
    have hok := blkB_ok (b := b) (k := k)
    generalize blkB b k = X at *
    obtain ⟨at_, l, en, e⟩ := X
    dsimp only at *
    simp only [blkV, pcW] at cb
    refine pwpE_seq ?_
    refine pwpE_sr ?_
    intro K hK
    simp (disch := first | (refine Ok.mk ?_; (try simp only [Lm, La, Lc, Ln, Lt, Ld, Lr, Li, true_or, or_true, true_and, and_true]); omega) | (simp <;> fail) | skip) [runM_nil, hxl]
    refine hK _ _ ?_
    clear hK K
    refine pwpE_cT (by simp [hlt]) (pwpE_skip ?_)
    refine pwpE_block ?_
    refine pwpE_sr ?_
    intro K hK
    simp (disch := first | (refine Ok.mk ?_; (try simp only [Lm, La, Lc, Ln, Lt, Ld, Lr, Li, true_or, or_true, true_and, and_true]); omega) | (simp <;> fail) | skip) [runM_nil]
    refine useP (cb) ?_
    simp (disch := first | (refine Ok.mk ?_; (try simp only [Lm, La, Lc, Ln, Lt, Ld, Lr, Li, true_or, or_true, true_and, and_true]); omega) | (simp <;> fail) | skip) [runM_nil]
    intro b5 h_b5
    have d_b5_b1 : ¬ b1 = b5 := fun e => by subst e; simp [hget] at h_b5
    try simp (disch := first | (refine Ok.mk ?_; (try simp only [Lm, La, Lc, Ln, Lt, Ld, Lr, Li, true_or, or_true, true_and, and_true]); omega) | (simp <;> fail) | skip) [runM_nil, d_b5_b1, Ne.symm d_b5_b1]
    refine hK _ _ ?_
    clear hK K
    by_cases he : e = 0
    · subst he
      obtain ⟨rfl, q1, q2⟩ := hok rfl
      have hst := hst rfl
      refine pwpE_seq (pwpE_seq ?_)
      refine pwpE_yieldM hY 6 rfl rfl ?_
      intro K hK
      simp only [List.take_succ_cons, List.take_zero]
      simp (disch := first | (refine Ok.mk ?_; (try simp only [Lm, La, Lc, Ln, Lt, Ld, Lr, Li, true_or, or_true, true_and, and_true]); omega) | (simp <;> fail) | skip) [runM_nil, d_b5_b1, Ne.symm d_b5_b1]
      refine hK _ _ ?_
      clear hK K
      have hmem : [PV.int .i64 en, pcW (at_, l)] ∈ (blkAt b k0).map bkV := List.mem_map.2 ⟨(en, at_, l), by rw [hbl, hst]; simp, rfl⟩
      have hpre : (done.map bkV).length < ((blkAt b k0).map bkV).length := by rw [hbl, hst]; simp
      refine .inr ⟨(by simp [goes, gval]), [(b5, [.int .i64 at_, .lst 1 (rowsC l) false]), (b1, [.int .i64 at_])], Ho', done.map bkV, [.int .i64 en, pcW (at_, l)], rfl, (by simp), (by simp [pcW]), hmem, hpre, hJ', fun Ho2 hJ2 K hK => ?_, fun pe Ho2 hne hJx K hK => ?_⟩
      · simp (disch := first | (refine Ok.mk ?_; (try simp only [Lm, La, Lc, Ln, Lt, Ld, Lr, Li, true_or, or_true, true_and, and_true]); omega) | (simp <;> fail) | skip) [runM_nil]
        refine hK _ _ ?_
        clear hK K
        refine pwpE_cF (by simp) (pwpE_skip ?_)
        refine pwpE_region ?_
        intro K hK
        simp (disch := first | (refine Ok.mk ?_; (try simp only [Lm, La, Lc, Ln, Lt, Ld, Lr, Li, true_or, or_true, true_and, and_true]); omega) | (simp <;> fail) | skip) [runM_nil, d_b5_b1, Ne.symm d_b5_b1]
        refine hK _ _ ?_
        clear hK K
        refine ⟨rfl, b.length - en, by omega, _, .cons _ (.refl _), en, done ++ [(en, at_, l)], Ho2, q2, ?_, ?_, rfl, rfl, ?_⟩
        · rw [hbl, hst]; simp
        · rw [List.map_append]; exact hJ2
        · simp [keepL_MS, keepA, getS]
      · simp (disch := first | (refine Ok.mk ?_; (try simp only [Lm, La, Lc, Ln, Lt, Ld, Lr, Li, true_or, or_true, true_and, and_true]); omega) | (simp <;> fail) | skip) [runM_nil]
        refine hK _ _ ?_
        clear hK K
        refine pwpE_cT (by simp) (pwpE_ret ⟨.inr rfl, _, _, rfl, (.cons _ (.cons _ (.refl _))), hne, done.map bkV ++ [[.int .i64 en, pcW (at_, l)]], ?_, hJx⟩)
        rw [hbl, hst, List.map_append, List.map_cons]
        exact ⟨(blkAt b en).map bkV, by simp [bkV]⟩
    · have he' : ¬ (e : Int) = 0 := by omega
      refine pwpE_seq (pwpE_seq ?_)
      refine pwpE_yieldM hY 6 rfl rfl ?_
      intro K hK
      simp only [List.take_succ_cons, List.take_zero]
      simp (disch := first | (refine Ok.mk ?_; (try simp only [Lm, La, Lc, Ln, Lt, Ld, Lr, Li, true_or, or_true, true_and, and_true]); omega) | (simp <;> fail) | skip) [runM_nil, he, he', d_b5_b1, Ne.symm d_b5_b1]
      refine hK _ _ ?_
      clear hK K
      rw [hsp (fun h => he h.2), List.append_nil] at hbl
      refine .inl ⟨(by simp [goes, gval]), fun K hK => ?_⟩
      simp (disch := first | (refine Ok.mk ?_; (try simp only [Lm, La, Lc, Ln, Lt, Ld, Lr, Li, true_or, or_true, true_and, and_true]); omega) | (simp <;> fail) | skip) [runM_nil]
      refine hK _ _ ?_
      clear hK K
      refine pwpE_cT (by simp) (pwpE_ret ⟨.inr rfl, _, _, rfl, (.cons _ (.cons _ (.refl _))), ?_⟩)
      show J _ _
      rw [hbl]
      exact hJ'
  · skip
    have hsp := blkAt_stop (b := b) (k := k) fun h => hlt h.1
    rw [hsp, List.append_nil] at hbl
    refine pwpE_seq ?_
    refine pwpE_sr ?_
    intro K hK
    simp (disch := first | (refine Ok.mk ?_; (try simp only [Lm, La, Lc, Ln, Lt, Ld, Lr, Li, true_or, or_true, true_and, and_true]); omega) | (simp <;> fail) | skip) [runM_nil, hxl]
    refine hK _ _ ?_
    clear hK K
    refine pwpE_cF (by simp [hlt]) (pwpE_exit ⟨.inl rfl, _, _, rfl, (.cons _ (.refl _)), ?_⟩)
    show J _ _
    rw [hbl]
    exact hJ'
end Go.Proofs.YtjcjbpbkakfjdaaDoor.E
/- The pieces of a file, and of a split, by the program. -/
namespace Go.Proofs.YtjcjbpbkakfjdaaDoor.E
open Go Go.RowKit Go.Proofs
set_option linter.unusedVariables false
set_option linter.unusedSimpArgs false
theorem recL_len : ∀ (n : Nat) (acc : List Rc) (b : List Nat), (recL n acc b).1.length ≤ acc.length + n
  | 0, acc, b => Nat.le_refl _
  | n + 1, acc, b => by
    rw [recL]
    split
    · simp
    · have := recL_len n (acc ++ [[(vpair b).1.1, (vpair b).1.2]]) (vpair b).2.1
      rw [List.length_append] at this
      simp only [List.length_singleton] at this
      omega
theorem recsB_len (b : List Nat) : (recsB b).1.length ≤ 100 := by
  unfold recsB
  split
  · simp
  · split
    · simp
    · split
      · simp
      · have := recL_len (vtake b).1 [] (vtake b).2.1
        simp only [List.length_nil] at this
        show (recL _ _ _).1.length ≤ _
        omega
theorem blkB_len (b : List Nat) (k : Nat) : (blkB b k).2.1.length ≤ 100 := by
  unfold blkB
  split
  · simp
  · split
    · simp
    · split
      · simp
      · exact recsB_len _
theorem blks_facts (b : List Nat) : ∀ (n k : Nat), (blks n b k).length ≤ b.length - k ∧ (∀ p ∈ blks n b k, p.2.2.length ≤ 100 ∧ k ≤ p.2.1 ∧ p.2.1 < p.1 ∧ p.1 ≤ b.length) ∧ (blks n b k).Pairwise (fun p q => p.2.1 < q.2.1)
  | 0, k => by simp [blks]
  | n + 1, k => by
    rw [blks]
    by_cases hc : k < b.length ∧ (blkB b k).2.2.2 = 0
    · obtain ⟨_, q1, q2⟩ := blkB_ok hc.2
      obtain ⟨i1, i2, i3⟩ := blks_facts b n (blkB b k).2.2.1
      have hl := blkB_len b k
      rw [if_pos hc]
      refine ⟨by rw [List.length_cons]; omega, fun p hp => ?_, List.Pairwise.cons (fun p hp => ?_) i3⟩
      · rcases List.mem_cons.1 hp with rfl | hp
        · exact ⟨hl, Nat.le_refl _, by show k < _; omega, q2⟩
        · obtain ⟨a1, a2, a3, a4⟩ := i2 p hp
          exact ⟨a1, by omega, a3, a4⟩
      · have := (i2 p hp).2.1
        show k < _
        omega
    · rw [if_neg hc]; simp
theorem rowsC_inj : ∀ {a b : List Rc}, rowsC a = rowsC b → a = b := fun {a b} h => by
  have sv : ∀ x y, sV x = sV y → x = y := fun x y e => by
    simp only [sV, PV.str.injEq] at e
    exact ci_inj e
  exact (List.map_inj_right (fun x y e => by
    simp only [PV.lst.injEq, and_true, true_and] at e
    exact (List.map_inj_right sv).1 e)).1 h
theorem bkV_inj (a b : Bk) (h : bkV a = bkV b) : a = b := by
  obtain ⟨a1, a2, a3⟩ := a
  obtain ⟨b1, b2, b3⟩ := b
  simp only [bkV, pcW, List.cons.injEq, PV.int.injEq, PV.agg.injEq, PV.lst.injEq, and_true, true_and] at h
  obtain ⟨h1, h2, h3⟩ := h
  rw [rowsC_inj h3, show a1 = b1 by omega, show a2 = b2 by omega]
theorem blocks_ok {H : Heap} {s : Nat} {xs : List PV} {o : Bool} (k : Int) :
    SpecH Tryd.prog 39 H [.lst s xs o, .int .i64 k] (fun r H' => ∃ b3, hget H b3 = none ∧ r = .fn (.func 59) [] [.ptr (some (b3, 0)), .ip 1 [.lst s xs false] 0 0] ∧ H' = (b3, [.int .i64 k]) :: H) := by
  refine spec_of t39 (by simp [p39]) ?_
  simp only [p39]
  first | refine pwp_sr ?_ | refine pwp_regionM ?_
  intro K hK
  simp (disch := first | (refine Ok.mk ?_; (try simp only [Lm, La, Lc, Ln, Lt, Ld, Lr, Li, true_or, or_true, true_and, and_true]); omega) | (simp <;> fail) | skip) [runM_nil]
  intro b3 h_b3
  try simp (disch := first | (refine Ok.mk ?_; (try simp only [Lm, La, Lc, Ln, Lt, Ld, Lr, Li, true_or, or_true, true_and, and_true]); omega) | (simp <;> fail) | skip) [runM_nil]
  refine hK _ _ ?_
  clear hK K
  first | refine pwp_sr ?_ | refine pwp_regionM ?_
  intro K hK
  simp (disch := first | (refine Ok.mk ?_; (try simp only [Lm, La, Lc, Ln, Lt, Ld, Lr, Li, true_or, or_true, true_and, and_true]); omega) | (simp <;> fail) | skip) [runM_nil]
  refine hK _ _ ?_
  clear hK K
  refine pwp_ret ⟨.inr rfl, _, _, (by simp [runM_nil, resL]; rfl), .refl _, b3, h_b3, (by simp [resV]), rfl⟩
def lastE (k : Nat) : List Bk → Nat
  | [] => k
  | p :: l => lastE p.1 l
theorem lastE_snoc : ∀ (l : List Bk) (k : Nat) (p : Bk), lastE k (l ++ [p]) = p.1
  | [], k, p => rfl
  | q :: l, k, p => lastE_snoc l q.1 p
def scanS (b : List Nat) : List (Nat × List Rc) × Nat × Nat :=
  if [84, 83, 81, 49].isPrefixOf b = true then ((blkAt b 4).map (·.2), lastE 4 (blkAt b 4), if lastE 4 (blkAt b 4) < b.length then 3 else 0) else ([], 0, 3)
def scWo (o : Bool) (x : List (Nat × List Rc) × Nat × Nat) : PV := .tup [.lst 2 (x.1.map pcW) o, .int .i64 (x.2.1 : Nat), .int .i64 (x.2.2 : Nat)]
abbrev scW (x : List (Nat × List Rc) × Nat × Nat) : PV := scWo false x
theorem scan_ok {s : Nat} {xs : List PV} {o : Bool} {b : List Nat} (hx : xs = b.map u8) (hs : s = 1 ∨ b.length = 0) (hw : ∀ x ∈ b, x < 256) (hl : b.length ≤ 1000000) :
    PSpec Tryd.prog 17 [.lst s xs o] (scW (scanS b)) := by
  intro H
  have hxl : xs.length = b.length := by rw [hx, Lm]
  have hdm : Tryd.prog.follows .mixedOrders = true := hmix
  have c1 := hprefix_ok (o := false) (q := false) (p := [84, 83, 81, 49]) hx hs rfl hw (by intro x hx; simp at hx; omega)
  have hp4 : [84, 83, 81, 49].isPrefixOf b = true → 4 ≤ b.length := fun h => by simpa using (List.isPrefixOf_iff_prefix.1 h).length_le
  unfold scanS
  generalize [84, 83, 81, 49].isPrefixOf b = pf at *
  refine SpecH_mono (SpecH_lend (R := fun r H' => ∃ o, r = scWo o (if pf = true then ((blkAt b 4).map (·.2), lastE 4 (blkAt b 4), if lastE 4 (blkAt b 4) < b.length then 3 else 0) else ([], 0, 3)) ∧ H' = H) ?_) (by
    rintro r H' ⟨_, ⟨o, rfl, rfl⟩, rfl⟩
    exact ⟨by simp [scWo, lend, lendL], rfl⟩)
  refine spec_ofU t17l (by simp [p17l]) ?_
  simp only [p17l]
  first | refine pwp_sr ?_ | refine pwp_regionM ?_
  intro K hK
  simp (disch := first | (refine Ok.mk ?_; (try simp only [Lm, La, Lc, Ln, Lt, Ld, Lr, Li, true_or, or_true, true_and, and_true]); omega) | (simp <;> fail) | skip) [runM_nil]
  refine hK _ _ ?_
  clear hK K
  cases pf with
  | false =>
    first | refine pwp_rif ?_ | refine pwp_rifE ?_
    intro K hK
    simp (disch := first | (refine Ok.mk ?_; (try simp only [Lm, La, Lc, Ln, Lt, Ld, Lr, Li, true_or, or_true, true_and, and_true]); omega) | (simp <;> fail) | skip) [runM_nil]
    refine useP (c1) ?_
    simp (disch := first | (refine Ok.mk ?_; (try simp only [Lm, La, Lc, Ln, Lt, Ld, Lr, Li, true_or, or_true, true_and, and_true]); omega) | (simp <;> fail) | skip) [runM_nil]
    refine hK _ _ ?_
    clear hK K
    refine ifT (by simp (disch := first | (refine Ok.mk ?_; (try simp only [Lm, La, Lc, Ln, Lt, Ld, Lr, Li, true_or, or_true, true_and, and_true]); omega) | (simp <;> fail) | skip) [runM_nil]) ?_
    first | refine pwp_sr ?_ | refine pwp_regionM ?_
    intro K hK
    simp (disch := first | (refine Ok.mk ?_; (try simp only [Lm, La, Lc, Ln, Lt, Ld, Lr, Li, true_or, or_true, true_and, and_true]); omega) | (simp <;> fail) | skip) [runM_nil]
    refine hK _ _ ?_
    clear hK K
    refine pwp_ret (And.intro (.inr rfl) ⟨_, _, _, (by simp [runM_nil, resL]; rfl), .refl _, (by simp [resV, scWo]), true, rfl, rfl⟩)
  | true =>
    have h4 := hp4 rfl
    have hit := fun b1 => blocks_iter hx hs hw hl 4 h4 b1
    have hbl := (blks_facts b (b.length - 4) 4).1
    have hbl2 : (blkAt b 4).length ≤ b.length - 4 := hbl
    generalize blkAt b 4 = A at *
    first | refine pwp_rif ?_ | refine pwp_rifE ?_
    intro K hK
    simp (disch := first | (refine Ok.mk ?_; (try simp only [Lm, La, Lc, Ln, Lt, Ld, Lr, Li, true_or, or_true, true_and, and_true]); omega) | (simp <;> fail) | skip) [runM_nil]
    refine useP (c1) ?_
    simp (disch := first | (refine Ok.mk ?_; (try simp only [Lm, La, Lc, Ln, Lt, Ld, Lr, Li, true_or, or_true, true_and, and_true]); omega) | (simp <;> fail) | skip) [runM_nil]
    refine hK _ _ ?_
    clear hK K
    refine ifF (by simp (disch := first | (refine Ok.mk ?_; (try simp only [Lm, La, Lc, Ln, Lt, Ld, Lr, Li, true_or, or_true, true_and, and_true]); omega) | (simp <;> fail) | skip) [runM_nil]) (pwp_skip ?_)
    first | refine pwp_sr ?_ | refine pwp_regionM ?_
    intro K hK
    simp (disch := first | (refine Ok.mk ?_; (try simp only [Lm, La, Lc, Ln, Lt, Ld, Lr, Li, true_or, or_true, true_and, and_true]); omega) | (simp <;> fail) | skip) [runM_nil]
    intro b5 h_b5
    try simp (disch := first | (refine Ok.mk ?_; (try simp only [Lm, La, Lc, Ln, Lt, Ld, Lr, Li, true_or, or_true, true_and, and_true]); omega) | (simp <;> fail) | skip) [runM_nil]
    refine hK _ _ ?_
    clear hK K
    first | refine pwp_sr ?_ | refine pwp_regionM ?_
    intro K hK
    simp (disch := first | (refine Ok.mk ?_; (try simp only [Lm, La, Lc, Ln, Lt, Ld, Lr, Li, true_or, or_true, true_and, and_true]); omega) | (simp <;> fail) | skip) [runM_nil]
    intro b6 h_b6
    have d_b6_b5 : ¬ b5 = b6 := fun e => by subst e; simp [hget] at h_b6
    try simp (disch := first | (refine Ok.mk ?_; (try simp only [Lm, La, Lc, Ln, Lt, Ld, Lr, Li, true_or, or_true, true_and, and_true]); omega) | (simp <;> fail) | skip) [runM_nil, d_b6_b5, Ne.symm d_b6_b5]
    refine hK _ _ ?_
    clear hK K
    refine pwp_seq (pwp_seq ?_)
    first | refine pwp_sr ?_ | refine pwp_regionM ?_
    intro K hK
    simp (disch := first | (refine Ok.mk ?_; (try simp only [Lm, La, Lc, Ln, Lt, Ld, Lr, Li, true_or, or_true, true_and, and_true]); omega) | (simp <;> fail) | skip) [runM_nil, d_b6_b5, Ne.symm d_b6_b5]
    refine useH (blocks_ok 4) ?_; rintro r H' ⟨b3, h_b3, rfl, rfl⟩
    try simp (disch := first | (refine Ok.mk ?_; (try simp only [Lm, La, Lc, Ln, Lt, Ld, Lr, Li, true_or, or_true, true_and, and_true]); omega) | (simp <;> fail) | skip) [runM_nil, d_b6_b5, Ne.symm d_b6_b5]
    refine hK _ _ ?_
    clear hK K
    refine pwp_block ?_
    refine pwp_upH (H2 := (b3, [.int .i64 4]) :: (b6, [.int .i64 4]) :: (b5, [.lst 2 [] true]) :: H) ⟨rfl, UpL_refl _ _, rfl, UpL_refl _ _, rfl, ⟨_, [], rfl, ⟨2, [], true, rfl, .inr ⟨rfl, rfl⟩, fun _ => rfl, rfl⟩, rfl⟩, HUp_refl _⟩ ?_
    refine pwp_kept (keep := [0, 5, 6, 16]) (by simp [keepA, getS]; rfl) ?_
    refine pwp_rangeMG (HI := [(b3, [.int .i64 4])]) (Ho := (b6, [.int .i64 4]) :: (b5, [.lst 2 [] true]) :: H) bkV bkV_inj A (by simp [runM_nil]) (hit b3) (fun a _ => rfl)
      (fun pre H' => ((b6, [.int .i64 (lastE 4 pre)]) :: (b5, [.lst 2 (pre.map fun p => pcW p.2) true]) :: H).Sublist H') (fun _ _ _ => False) (.refl _) ?_ ?_ ?_
    · rintro pre a H' ha hlt hsub
      refine pwp_drop hsub ?_
      have hpl : (pre.map fun p => pcW p.2).length = pre.length := Lm
      have hle := lastE_snoc pre 4 a
      obtain ⟨e1, k1, l1⟩ := a
      simp only [setA, bkV, lendA, lend, pcW]
      first | refine pwp_sr ?_ | refine pwp_regionM ?_
      intro K hK
      simp (disch := first | (refine Ok.mk ?_; (try simp only [Lm, La, Lc, Ln, Lt, Ld, Lr, Li, true_or, or_true, true_and, and_true]); omega) | (simp <;> fail) | skip) [runM_nil, d_b6_b5, Ne.symm d_b6_b5]
      refine hK _ _ ?_
      clear hK K
      first | refine pwp_sr ?_ | refine pwp_regionM ?_
      intro K hK
      simp (disch := first | (refine Ok.mk ?_; (try simp only [Lm, La, Lc, Ln, Lt, Ld, Lr, Li, true_or, or_true, true_and, and_true]); omega) | (simp <;> fail) | skip) [runM_nil, d_b6_b5, Ne.symm d_b6_b5]
      intro b8 h_b8
      have d_b8_b5 : ¬ b5 = b8 := fun e => by subst e; simp [hget, d_b6_b5, Ne.symm d_b6_b5] at h_b8
      have d_b8_b6 : ¬ b6 = b8 := fun e => by subst e; simp [hget, d_b6_b5, Ne.symm d_b6_b5] at h_b8
      try simp (disch := first | (refine Ok.mk ?_; (try simp only [Lm, La, Lc, Ln, Lt, Ld, Lr, Li, true_or, or_true, true_and, and_true]); omega) | (simp <;> fail) | skip) [runM_nil, d_b6_b5, Ne.symm d_b6_b5, d_b8_b5, Ne.symm d_b8_b5, d_b8_b6, Ne.symm d_b8_b6]
      refine hK _ _ ?_
      clear hK K
      refine ⟨rfl, ?_⟩
      refine pwp_block ?_
      refine pwp_regionM ?_
      intro K hK
      simp (disch := first | (refine Ok.mk ?_; (try simp only [Lm, La, Lc, Ln, Lt, Ld, Lr, Li, true_or, or_true, true_and, and_true]); omega) | (simp <;> fail) | skip) [runM_nil, hpl, d_b6_b5, Ne.symm d_b6_b5, d_b8_b5, Ne.symm d_b8_b5, d_b8_b6, Ne.symm d_b8_b6]
      refine hK _ _ ?_
      clear hK K
      refine .inl ⟨rfl, ?_⟩
      rw [hle, List.map_append]
      exact .cons _ (.refl _)
    · skip
      intro H' hsub
      refine pwp_drop hsub ?_
      have hml : (A.map fun p => pcW p.2) = (A.map (·.2)).map pcW := by rw [List.map_map]; rfl
      generalize lastE 4 A = E at *
      generalize A.map (·.2) = M at *
      by_cases hE : E < b.length
      · have hE' : (E : Int) < b.length := by omega
        first | refine pwp_rif ?_ | refine pwp_rifE ?_
        intro K hK
        simp (disch := first | (refine Ok.mk ?_; (try simp only [Lm, La, Lc, Ln, Lt, Ld, Lr, Li, true_or, or_true, true_and, and_true]); omega) | (simp <;> fail) | skip) [runM_nil, hxl, hE', d_b6_b5, Ne.symm d_b6_b5]
        refine hK _ _ ?_
        clear hK K
        refine ifT (by simp [runM_nil, hE']) ?_
        first | refine pwp_sd hmix ?_ | refine pwp_drawM hmix ?_
        intro K hK
        simp (disch := first | (refine Ok.mk ?_; (try simp only [Lm, La, Lc, Ln, Lt, Ld, Lr, Li, true_or, or_true, true_and, and_true]); omega) | (simp <;> fail) | skip) [runM_nil, d_b6_b5, Ne.symm d_b6_b5]
        refine hK _ _ ?_
        clear hK K
        refine pwp_ret (And.intro (.inr rfl) ⟨_, _, _, (by simp [runM_nil, resL]; rfl), (.cons _ (.cons _ (.refl _))), (Up_refl _ _), false, (by simp [resV, scWo, hml, hE]), rfl⟩)
      · have hE' : ¬ (E : Int) < b.length := by omega
        first | refine pwp_rif ?_ | refine pwp_rifE ?_
        intro K hK
        simp (disch := first | (refine Ok.mk ?_; (try simp only [Lm, La, Lc, Ln, Lt, Ld, Lr, Li, true_or, or_true, true_and, and_true]); omega) | (simp <;> fail) | skip) [runM_nil, hxl, hE', d_b6_b5, Ne.symm d_b6_b5]
        refine hK _ _ ?_
        clear hK K
        refine ifF (by simp [runM_nil, hE']) (pwp_skip ?_)
        first | refine pwp_sd hmix ?_ | refine pwp_drawM hmix ?_
        intro K hK
        simp (disch := first | (refine Ok.mk ?_; (try simp only [Lm, La, Lc, Ln, Lt, Ld, Lr, Li, true_or, or_true, true_and, and_true]); omega) | (simp <;> fail) | skip) [runM_nil, d_b6_b5, Ne.symm d_b6_b5]
        refine hK _ _ ?_
        clear hK K
        refine pwp_ret (And.intro (.inr rfl) ⟨_, _, _, (by simp [runM_nil, resL]; rfl), (.cons _ (.cons _ (.refl _))), (Up_refl _ _), false, (by simp [resV, scWo, hml, hE]), rfl⟩)
    · rintro pre e H' _ _ h
      cases h
end Go.Proofs.YtjcjbpbkakfjdaaDoor.E
/- Varints: the document's. -/
namespace Go.Proofs.YtjcjbpbkakfjdaaDoor.E
open Go Go.RowKit Go.Proofs
set_option linter.unusedVariables false
set_option linter.unusedSimpArgs false
end Go.Proofs.YtjcjbpbkakfjdaaDoor.E
/- Sums over bytes: the document's. -/
namespace Go.Proofs.YtjcjbpbkakfjdaaDoor.E
open Go Go.RowKit Go.Proofs
set_option linter.unusedVariables false
set_option linter.unusedSimpArgs false
end Go.Proofs.YtjcjbpbkakfjdaaDoor.E
/- The document's escapes and markers. -/
namespace Go.Proofs.YtjcjbpbkakfjdaaDoor.E
open Go Go.RowKit Go.Proofs
set_option linter.unusedVariables false
set_option linter.unusedSimpArgs false
theorem repW_pre {p n : List Nat} {a : Nat} {l : List Nat} (h1 : 1 ≤ p.length) (h : p.isPrefixOf (a :: l) = true) : repW p n (a :: l) = n ++ repW p n ((a :: l).drop p.length) := by
  have hd : dist p (a :: l) = 0 := by rw [dist, if_pos h]
  rw [repW_hit h1 (by rw [hd]; simp), hd]
  simp
theorem repW_not {p n : List Nat} {a : Nat} {l : List Nat} (h1 : 1 ≤ p.length) (h : ¬ p.isPrefixOf (a :: l) = true) : repW p n (a :: l) = a :: repW p n l := by
  have hd : dist p (a :: l) = dist p l + 1 := by rw [dist, if_neg h]
  by_cases hc : dist p l < l.length
  · rw [repW_hit h1 (by rw [hd, List.length_cons]; omega), repW_hit h1 hc, hd, List.take_succ_cons, show dist p l + 1 + p.length = (dist p l + p.length) + 1 by omega, List.drop_succ_cons]
    rfl
  · rw [repW_miss (by rw [hd, List.length_cons]; omega), repW_miss hc]
def una : List Nat → Option (List Nat)
  | [] => some []
  | [a] => if a = 255 then none else some [a]
  | a :: c :: l => if a = 255 then (if c = 0 then (una l).map (255 :: ·) else none) else (una (c :: l)).map (a :: ·)
abbrev rep2 (b : List Nat) : List Nat := repW [255, 0] [255] b
theorem rep2_esc (l : List Nat) : rep2 (255 :: 0 :: l) = 255 :: rep2 l := repW_pre (by simp) (by simp)
theorem rep2_no {a : Nat} {l : List Nat} (h : ¬ (a = 255 ∧ l.head? = some 0)) : rep2 (a :: l) = a :: rep2 l := repW_not (by simp) (by
  cases l with
  | nil => simp
  | cons c l =>
    simp only [List.isPrefixOf, Bool.and_eq_true, beq_iff_eq]
    rintro ⟨h1, h2, _⟩
    exact h ⟨h1.symm, by rw [← h2]; rfl⟩)
theorem rep2_nil : rep2 [] = [] := by unfold rep2 repW; simp
theorem una_cnt : ∀ (n : Nat) (b : List Nat), b.length ≤ n → b.length ≤ b.count 255 + (rep2 b).length ∧ (∀ r, una b = some r → rep2 b = r ∧ b.count 255 + r.length = b.length) ∧ (una b = none → b.length < b.count 255 + (rep2 b).length)
  | _, [], _ => by
    refine ⟨Nat.zero_le _, fun r h => ?_, fun h => by cases h⟩
    simp only [una, Option.some.injEq] at h
    subst h
    exact ⟨rep2_nil, rfl⟩
  | 0, _ :: _, h => by cases h
  | n + 1, [a], h => by
    have e := rep2_no (a := a) (l := []) (by simp)
    rw [rep2_nil] at e
    by_cases ha : a = 255
    · subst ha
      rw [e]
      exact ⟨by simp, fun r h => by simp [una] at h, fun _ => by simp⟩
    · rw [e]
      refine ⟨by simp, fun r h => ?_, fun h => by simp [una, ha] at h⟩
      simp only [una, if_neg ha, Option.some.injEq] at h
      subst h
      exact ⟨rfl, by simp [ha]⟩
  | n + 1, a :: c :: l, h => by
    by_cases ha : a = 255
    · subst ha
      by_cases hc : c = 0
      · subst hc
        obtain ⟨i1, i2, i3⟩ := una_cnt n l (by simp at h; omega)
        rw [rep2_esc]
        have hcn : (255 :: 0 :: l).count 255 = l.count 255 + 1 := by simp
        simp only [hcn, List.length_cons, una, if_true]
        refine ⟨by omega, fun r hr => ?_, fun hr => ?_⟩
        · obtain ⟨r', hr', rfl⟩ := Option.map_eq_some_iff.1 hr
          obtain ⟨q1, q2⟩ := i2 r' hr'
          exact ⟨by rw [q1], by simp only [List.length_cons]; omega⟩
        · have := i3 (Option.map_eq_none_iff.1 hr)
          omega
      · obtain ⟨i1, _, _⟩ := una_cnt n (c :: l) (by simp at h ⊢; omega)
        rw [rep2_no (by simpa using hc)]
        have hcn : (255 :: c :: l).count 255 = (c :: l).count 255 + 1 := by simp
        simp only [hcn, una, if_true, if_neg hc]
        simp only [List.length_cons] at i1 ⊢
        exact ⟨by omega, fun r hr => by simp at hr, fun _ => by omega⟩
    · obtain ⟨i1, i2, i3⟩ := una_cnt n (c :: l) (by simp at h ⊢; omega)
      rw [rep2_no (by simp [ha])]
      have hcn : (a :: c :: l).count 255 = (c :: l).count 255 := List.count_cons_of_ne ha
      simp only [hcn, una, if_neg ha]
      refine ⟨by simp only [List.length_cons] at i1 ⊢; omega, fun r hr => ?_, fun hr => ?_⟩
      · obtain ⟨r', hr', rfl⟩ := Option.map_eq_some_iff.1 hr
        obtain ⟨q1, q2⟩ := i2 r' hr'
        exact ⟨by rw [q1], by simp only [List.length_cons] at q2 ⊢; omega⟩
      · have := i3 (Option.map_eq_none_iff.1 hr)
        simp only [List.length_cons] at this ⊢
        omega
theorem unaB_some {b r : List Nat} (h : una b = some r) : unaB b = (r, 0) := by
  obtain ⟨q1, q2⟩ := (una_cnt _ b (Nat.le_refl _)).2.1 r h
  unfold unaB
  rw [show repW [255, 0] [255] b = r from q1, if_pos q2]
def esc1 (x : Nat) : List Nat := if x = 255 then [255, 0] else [x]
theorem escB_flat : ∀ b : List Nat, escB b = b.flatMap esc1
  | [] => by unfold escB repW; simp
  | a :: l => by
    rw [List.flatMap_cons, ← escB_flat l]
    unfold escB esc1
    by_cases ha : a = 255
    · subst ha
      rw [repW_pre (by simp) (by simp)]
      simp
    · rw [repW_not (by simp) (by simpa using Ne.symm ha), if_neg ha]
      rfl
end Go.Proofs.YtjcjbpbkakfjdaaDoor.E
/- The document's markers, pairs, records and blocks. -/
namespace Go.Proofs.YtjcjbpbkakfjdaaDoor.E
open Go Go.RowKit Go.Proofs
set_option linter.unusedVariables false
set_option linter.unusedSimpArgs false
theorem pre2_iff {b : List Nat} {k : Nat} : [255, 83].isPrefixOf (b.drop k) = true ↔ ∃ h : k + 1 < b.length, b[k] = 255 ∧ b[k + 1] = 83 := by
  constructor
  · intro h
    have h2 := prefix2 h
    refine ⟨by omega, ?_⟩
    rw [List.drop_eq_getElem_cons (show k < b.length by omega), List.drop_eq_getElem_cons (show k + 1 < b.length by omega)] at h
    simp only [List.isPrefixOf, Bool.and_eq_true, beq_iff_eq] at h
    exact ⟨h.1.symm, h.2.1.symm⟩
  · rintro ⟨h1, h2, h3⟩
    rw [List.drop_eq_getElem_cons (show k < b.length by omega), List.drop_eq_getElem_cons h1, h2, h3]
    simp
theorem mkB_here {b : List Nat} {k : Nat} (h : [255, 83].isPrefixOf (b.drop k) = true) : mkB b k = k := by
  have h2 := prefix2 h
  have e : min k b.length = k := by omega
  unfold mkB
  rw [e]
  have : dist [255, 83] (b.drop k) = 0 := by
    rw [List.drop_eq_getElem_cons (show k < b.length by omega)] at h ⊢
    rw [dist, if_pos h]
  omega
theorem mkB_next {b : List Nat} {k : Nat} (hk : k < b.length) (h : ¬ [255, 83].isPrefixOf (b.drop k) = true) : mkB b k = mkB b (k + 1) := by
  unfold mkB
  rw [show min k b.length = k by omega, show min (k + 1) b.length = k + 1 by omega]
  have : dist [255, 83] (b.drop k) = dist [255, 83] (b.drop (k + 1)) + 1 := by
    rw [List.drop_eq_getElem_cons hk] at h ⊢
    rw [dist, if_neg h]
  omega
end Go.Proofs.YtjcjbpbkakfjdaaDoor.E
/- The document's blocks, pieces and splits. -/
namespace Go.Proofs.YtjcjbpbkakfjdaaDoor.E
open Go Go.RowKit Go.Proofs
set_option linter.unusedVariables false
set_option linter.unusedSimpArgs false
end Go.Proofs.YtjcjbpbkakfjdaaDoor.E
/- slices.Chunk of records, ranged over, walked. -/
namespace Go.Proofs.YtjcjbpbkakfjdaaDoor.E
open Go Go.RowKit Go.Proofs
set_option linter.unusedVariables false
set_option linter.unusedSimpArgs false
theorem pwpE_sd {P : Program} {B : Bs} {s : Option PExit} {Q : Option PExit → PPost} {st : List PV} {H : Heap} (hmix : P.follows .mixedOrders = true) {ops : List POp} {late : List (Nat × Nat)} {y : PCode}
    (h : ∀ K : List PV → Heap → Prop, (∀ st' H', pwpE P B s y Q st' H' → K st' H') → planM P ops K st H) : pwpE P B s (.seq (.draw ops late) y) Q st H := pwpE_seq (pwpE_lift (pwp_drawM hmix h))
def chk {α : Type} (m : Nat) (l : List α) : List (List α) := if h : 1 ≤ m ∧ 0 < l.length then l.take m :: chk m (l.drop m) else []
termination_by l.length
decreasing_by rw [List.length_drop]; omega
theorem chk_step {α : Type} {m : Nat} {l : List α} (h1 : 1 ≤ m) (h : 0 < l.length) : chk m l = l.take m :: chk m (l.drop m) := by
  conv => lhs; unfold chk
  rw [dif_pos ⟨h1, h⟩]
theorem chk_stop {α : Type} {m : Nat} {l : List α} (h : ¬ 0 < l.length) : chk m l = [] := by
  unfold chk
  rw [dif_neg fun k => h k.2]
theorem chk_map {α β : Type} (f : α → β) {m : Nat} (h1 : 1 ≤ m) : ∀ (n : Nat) (l : List α), l.length ≤ n → chk m (l.map f) = (chk m l).map (List.map f)
  | n, l, hn => by
    by_cases h : 0 < l.length
    · cases n with
      | zero => omega
      | succ n => rw [chk_step h1 h, chk_step h1 (by simpa using h), List.map_cons, ← List.map_take, ← List.map_drop, chk_map f h1 n (l.drop m) (by rw [List.length_drop]; omega)]
    · rw [chk_stop h, chk_stop (by simpa using h)]; rfl
theorem chk_flat {α : Type} {m : Nat} (h1 : 1 ≤ m) : ∀ (n : Nat) (l : List α), l.length ≤ n → (chk m l).flatten = l
  | n, l, hn => by
    by_cases h : 0 < l.length
    · cases n with
      | zero => omega
      | succ n => rw [chk_step h1 h, List.flatten_cons, chk_flat h1 n (l.drop m) (by rw [List.length_drop]; omega), List.take_append_drop]
    · rw [chk_stop h]; exact (List.eq_nil_of_length_eq_zero (by omega)).symm
theorem chk_facts {α : Type} {m : Nat} (h1 : 1 ≤ m) : ∀ (n : Nat) (l : List α), l.length ≤ n → (∀ p ∈ chk m l, 1 ≤ p.length ∧ p.length ≤ m) ∧ (chk m l).length = (l.length + m - 1) / m
  | n, l, hn => by
    by_cases h : 0 < l.length
    · cases n with
      | zero => omega
      | succ n =>
        obtain ⟨i1, i2⟩ := chk_facts h1 n (l.drop m) (by rw [List.length_drop]; omega)
        rw [chk_step h1 h]
        refine ⟨fun p hp => ?_, ?_⟩
        · rcases List.mem_cons.1 hp with rfl | hp
          · rw [List.length_take]; omega
          · exact i1 p hp
        · rw [List.length_cons, i2, List.length_drop]
          by_cases hm : l.length ≤ m
          · have e1 : l.length - m + m - 1 = m - 1 := by omega
            have e2 : (m - 1) / m = 0 := Nat.div_eq_of_lt (by omega)
            have e3 : (l.length + m - 1) / m = 1 := by
              rw [show l.length + m - 1 = (l.length - 1) + m by omega, Nat.add_div_right _ (by omega), Nat.div_eq_of_lt (by omega)]
            rw [e1, e2, e3]
          · have e1 : l.length + m - 1 = (l.length - m + m - 1) + m := by omega
            rw [e1, Nat.add_div_right _ (by omega)]
    · rw [chk_stop h]
      have h0 : l.length = 0 := by omega
      rw [h0]
      refine ⟨by simp, ?_⟩
      simp only [List.length_nil, Nat.zero_add]
      exact (Nat.div_eq_of_lt (by omega)).symm
theorem chkR_iter {s : Nat} {l : List PV} (hs : s = 1 ∨ l.length = 0) (hl : l.length ≤ 1000000) (m : Nat) (hm : 1 ≤ m) (hm2 : m ≤ 1000) (o : Bool) :
    Iter Tryd.prog 46 [.ip 1 [.lst s l o] 0 0, .ip 1 [.int .i64 m] 0 0] ((chk m l).map fun p => [.lst 1 p false]) := by
  have hmix := mixS
  refine iter_of t46 (by simp [p46]) ?_
  intro B J Jx Ho hY hJ
  simp only [p46]
  refine pwpE_sr ?_
  intro K hK
  simp (disch := first | (refine Ok.mk ?_; (try simp only [Lm, La, Lc, Ln, Lt, Ld, Lr, Li, true_or, or_true, true_and, and_true]); omega) | (simp <;> fail) | skip) [runM_nil]
  refine hK _ _ ?_
  clear hK K
  refine pwpE_block ?_
  refine pwpE_loopK [0, 1, 2, 4] (fun q st H' => ∃ (k : Nat) (done : List (List PV)), k ≤ l.length + m ∧ chk m l = done ++ chk m (l.drop k) ∧ J (done.map fun p => [.lst 1 p false]) H' ∧ q = l.length - k ∧
      st = MS 31 [(0, .fn (.yield B.l) [] []), (1, .ip 1 [.lst s l o] 0 0), (2, .ip 1 [.int .i64 m] 0 0), (4, .int .i64 k)]) (n := l.length)
    ⟨_, .refl _, 0, [], by omega, rfl, hJ, rfl, by simp [keepL_MS, keepA, getS, lendL, lend]⟩ ?_
  rintro q st Ho' ⟨k, done, hk, hbl, hJ', rfl, rfl⟩
  by_cases hlt : k < l.length
  · obtain rfl : s = 1 := hs.resolve_right (by omega)
    have hdl : (l.drop k).length = l.length - k := List.length_drop ..
    have hst := chk_step (m := m) (l := l.drop k) hm (by omega)
    rw [List.drop_drop] at hst
    have hcut : (l.take (k + min m (l.length - k))).drop k = (l.drop k).take m := by
      rw [List.drop_take, Nat.add_sub_cancel_left]
      rcases Nat.le_total m (l.length - k) with h | h
      · rw [Nat.min_eq_left h]
      · rw [Nat.min_eq_right h, List.take_of_length_le (by omega), List.take_of_length_le (by omega)]
    obtain ⟨n, hn⟩ : ∃ n, n = min m (l.length - k) := ⟨_, rfl⟩
    rw [← hn] at hcut
    have hmn : (if (m : Int) < (l.length : Int) - k then (m : Int) else (l.length : Int) - k) = n := by split <;> omega
    have hmn2 : (if (l.length : Int) - k < m then (l.length : Int) - k else (m : Int)) = n := by split <;> omega
    have hmn3 : (if l.length - k < m then ((l.length - k : Nat) : Int) else (m : Int)) = n := by split <;> omega
    have hmn4 : (if m < l.length - k then (m : Int) else ((l.length - k : Nat) : Int)) = n := by split <;> omega
    have hkn : k + n ≤ l.length := by omega
    have htn : ((k : Int) + n).toNat = k + n := by omega
    refine pwpE_seq ?_
    refine pwpE_sr ?_
    intro K hK
    simp (disch := first | (refine Ok.mk ?_; (try simp only [Lm, La, Lc, Ln, Lt, Ld, Lr, Li, true_or, or_true, true_and, and_true]); omega) | (simp <;> fail) | skip) [runM_nil]
    refine hK _ _ ?_
    clear hK K
    refine pwpE_cT (by simp [hlt]) (pwpE_skip ?_)
    refine pwpE_seq (pwpE_block ?_)
    refine pwpE_sd hmix ?_
    intro K hK
    simp (disch := first | (refine Ok.mk ?_; (try simp only [Lm, La, Lc, Ln, Lt, Ld, Lr, Li, true_or, or_true, true_and, and_true]); omega) | (simp <;> fail) | skip) [runM_nil, hdl, hmn, hmn2, hmn3, hmn4]
    refine hK _ _ ?_
    clear hK K
    refine pwpE_seq ?_
    refine pwpE_yieldM hY 10 rfl rfl ?_
    intro K hK
    simp only [List.take_succ_cons, List.take_zero]
    simp (disch := first | (refine Ok.mk ?_; (try simp only [Lm, La, Lc, Ln, Lt, Ld, Lr, Li, true_or, or_true, true_and, and_true]); omega) | (simp <;> fail) | skip) [runM_nil, htn, hcut]
    refine hK _ _ ?_
    clear hK K
    have hmem : [PV.lst 1 ((l.drop k).take m) false] ∈ (chk m l).map fun p => [PV.lst 1 p false] := List.mem_map.2 ⟨_, by rw [hbl, hst]; simp, rfl⟩
    have hpre : (done.map fun p => [PV.lst 1 p false]).length < ((chk m l).map fun p => [PV.lst 1 p false]).length := by rw [hbl, hst]; simp
    refine .inr ⟨(by simp [goes, gval]), [], Ho', done.map fun p => [.lst 1 p false], [.lst 1 ((l.drop k).take m) false], rfl, (by simp), (by simp), hmem, hpre, hJ', fun Ho2 hJ2 K hK => ?_, fun pe Ho2 hne hJx K hK => ?_⟩
    · simp (disch := first | (refine Ok.mk ?_; (try simp only [Lm, La, Lc, Ln, Lt, Ld, Lr, Li, true_or, or_true, true_and, and_true]); omega) | (simp <;> fail) | skip) [runM_nil]
      refine hK _ _ ?_
      clear hK K
      refine pwpE_cF (by simp) (pwpE_skip ?_)
      refine pwpE_region ?_
      intro K hK
      simp (disch := first | (refine Ok.mk ?_; (try simp only [Lm, La, Lc, Ln, Lt, Ld, Lr, Li, true_or, or_true, true_and, and_true]); omega) | (simp <;> fail) | skip) [runM_nil]
      refine hK _ _ ?_
      clear hK K
      refine ⟨rfl, l.length - (k + m), by omega, _, .refl _, k + m, done ++ [(l.drop k).take m], by omega, ?_, ?_, rfl, ?_⟩
      · rw [hbl, hst]; simp
      · rw [List.map_append]; exact hJ2
      · simp [keepL_MS, keepA, getS]
    · simp (disch := first | (refine Ok.mk ?_; (try simp only [Lm, La, Lc, Ln, Lt, Ld, Lr, Li, true_or, or_true, true_and, and_true]); omega) | (simp <;> fail) | skip) [runM_nil]
      refine hK _ _ ?_
      clear hK K
      refine pwpE_cT (by simp) (pwpE_ret ⟨.inr rfl, _, _, rfl, .refl _, hne, (done.map fun p => [.lst 1 p false]) ++ [[.lst 1 ((l.drop k).take m) false]], ?_, hJx⟩)
      rw [hbl, hst, List.map_append, List.map_cons]
      exact ⟨(chk m (l.drop (k + m))).map fun p => [.lst 1 p false], by simp⟩
  · have hsp := chk_stop (m := m) (l := l.drop k) (by rw [List.length_drop]; omega)
    rw [hsp, List.append_nil] at hbl
    refine pwpE_seq ?_
    refine pwpE_sr ?_
    intro K hK
    simp (disch := first | (refine Ok.mk ?_; (try simp only [Lm, La, Lc, Ln, Lt, Ld, Lr, Li, true_or, or_true, true_and, and_true]); omega) | (simp <;> fail) | skip) [runM_nil]
    refine hK _ _ ?_
    clear hK K
    refine pwpE_cF (by simp [hlt]) (pwpE_exit ⟨.inl rfl, _, _, rfl, .refl _, ?_⟩)
    show J _ _
    rw [hbl]
    exact hJ'
theorem chkR_ok {s : Nat} {xs : List PV} {o : Bool} (m : Nat) (hm : 1 ≤ m) (hm2 : m ≤ 1000) :
    PSpec Tryd.prog 27 [.lst s xs o, .int .i64 m] (.fn (.func 46) [] [.ip 1 [.lst s xs false] 0 0, .ip 1 [.int .i64 m] 0 0]) := by
  intro H
  have h1 : ¬ ((m : Int) < 1) := by omega
  refine spec_of t27 (by simp [p27]) ?_
  simp only [p27]
  first | refine pwp_sr ?_ | refine pwp_regionM ?_
  intro K hK
  simp (disch := first | (refine Ok.mk ?_; (try simp only [Lm, La, Lc, Ln, Lt, Ld, Lr, Li, true_or, or_true, true_and, and_true]); omega) | (simp <;> fail) | skip) [runM_nil]
  refine hK _ _ ?_
  clear hK K
  first | refine pwp_rif ?_ | refine pwp_rifE ?_
  intro K hK
  simp (disch := first | (refine Ok.mk ?_; (try simp only [Lm, La, Lc, Ln, Lt, Ld, Lr, Li, true_or, or_true, true_and, and_true]); omega) | (simp <;> fail) | skip) [runM_nil, h1]
  refine hK _ _ ?_
  clear hK K
  refine ifF (by simp (disch := first | (refine Ok.mk ?_; (try simp only [Lm, La, Lc, Ln, Lt, Ld, Lr, Li, true_or, or_true, true_and, and_true]); omega) | (simp <;> fail) | skip) [runM_nil]) (pwp_skip ?_)
  first | refine pwp_sr ?_ | refine pwp_regionM ?_
  intro K hK
  simp (disch := first | (refine Ok.mk ?_; (try simp only [Lm, La, Lc, Ln, Lt, Ld, Lr, Li, true_or, or_true, true_and, and_true]); omega) | (simp <;> fail) | skip) [runM_nil]
  refine hK _ _ ?_
  clear hK K
  refine pwp_ret ⟨.inr rfl, _, _, (by simp (disch := first | (refine Ok.mk ?_; (try simp only [Lm, La, Lc, Ln, Lt, Ld, Lr, Li, true_or, or_true, true_and, and_true]); omega) | (simp <;> fail) | skip) [runM_nil, resL]; rfl), .refl _, by simp (disch := first | (refine Ok.mk ?_; (try simp only [Lm, La, Lc, Ln, Lt, Ld, Lr, Li, true_or, or_true, true_and, and_true]); omega) | (simp <;> fail) | skip) [resV], rfl⟩
end Go.Proofs.YtjcjbpbkakfjdaaDoor.E
