-- contracts proved by hand
import Derived.Test.YtkbdlgohmafglaaPAx0
import Derived.Test.YtkbdlgohmafglaaGBlockPair
import Derived.Test.YtkbdlgohmafglaaPAx1
namespace Go.Proofs.Ytkbdlgohmafglaa.PA
open Go.RowKit Go.Proofs.YtkbdlgohmafglaaW.PrintWords Go.Proofs.YtkbdlgohmafglaaW.PrintLast Go.Proofs.YtkbdlgohmafglaaW.PrintMore
attribute [local go_sem] max2_int min2_int max_two min_two max_three min_three max_four min_four str_geq str_lss str_gtr str_leq
set_option linter.unusedVariables false
set_option linter.unusedSimpArgs false
/-! block.ReadAt: by hand -/
def block_ReadAt.f (k : Nat) (l0 : List Int) (a1 : Int) (a2 : Int) : Option (List Int × Int) :=
  if l0.length ≤ 1000000 then (block_Size.f l0).bind fun size =>
    if a1 < 0 ∨ a2 < 0 ∨ a1 > size ∨ a2 > size - a1 then some ([], 1) else if a2 = 0 then some ([], 0) else
    if 0 ≤ size ∧ size ≤ 1000000 ∧ a1.toNat / 64 * 68 ≤ min ((a1.toNat + a2.toNat - 1) / 64 * 68 + 68) l0.length then
    (block_load.f k ((l0.take (min ((a1.toNat + a2.toNat - 1) / 64 * 68 + 68) l0.length)).drop (a1.toNat / 64 * 68))).bind fun b =>
      if b.2 = 0 then (if a1.toNat % 64 + a2.toNat ≤ b.1.length then some ((b.1.take (a1.toNat % 64 + a2.toNat)).drop (a1.toNat % 64), 0) else none) else some ([], b.2)
    else none else none
theorem block_ReadAt.mono : ∀ a0 a1 a2 k, LeO (block_ReadAt.f k a0 a1 a2) (block_ReadAt.f (k + 1) a0 a1 a2) := by
  intro a0 a1 a2 k
  unfold block_ReadAt.f
  exact LeO.ite (LeO.bind (LeO.refl _) (fun _ => LeO.ite (LeO.refl _) (LeO.ite (LeO.refl _) (LeO.ite (LeO.bind (block_load.mono _ _) (fun _ => LeO.refl _)) (LeO.refl _))))) (LeO.refl _)
theorem load_at (k : Nat) (A : Option Addr) (X C : Nat) (p b1 : List Int) (b2 : Int) (w : World) (hX : X = p.length) (hC : Kd.C (Kd.int .u8) w A p.length p) (hc : X ≤ C) (h : block_load.f k p = some (b1, b2)) :
    Calls Try.prog 21 #[.slice A X C] w fun e w' => ∃ v0_ : Value, e = .returned (.tuple #[v0_, .int .i64 b2]) ∧ Kd.R (Kd.int .u8) 5 w' w.heap.size (fun _ => True) v0_ b1 ∧ Below w.heap.size w w' := by
  subst hX
  exact block_load.calls k A C p b1 b2 w hC hc h
theorem view_part {w w2 : World} {base : Nat} {A : Option Addr} {c at_ m : Nat} {b r : List Int} (h : Kd.R (Kd.int .u8) 5 w2 base (fun _ => True) (.slice A b.length c) b) (hw : w.heap.size ≤ base) (hle : at_ + m ≤ b.length) (hr : (b.take (at_ + m)).drop at_ = r) :
    (c = at_ → Kd.V (Kd.int .u8) 5 w2 w.heap.size (fun k => w.heap.size ≤ k) (.slice A m (c - at_)) r) ∧ (¬ c = at_ → Kd.V (Kd.int .u8) 5 w2 w.heap.size (fun k => w.heap.size ≤ k) (.slice (A.map (fun x => x.add at_)) m (c - at_)) r) := by
  have hc := (Kd.R_reads' h).2.1
  have hF := Kd.R_F (Kd.R_mono (Kd.R_bound h) (ok' := fun k => w.heap.size ≤ k) (fun k hk => Nat.le_trans hw hk.2.1))
  have hl : r.length = m := by rw [← hr]; simp; omega
  have hF2 : Kd.F (Kd.int .u8) w2 (fun k => w.heap.size ≤ k) (if c = at_ then A else A.map (fun x => x.add at_)) r.length r := fun W' hW => by
    have := Kd.C_mid (k := Kd.int .u8) (c := c) (lo := at_) (hi := at_ + m) (hF W' hW) (by omega) hle hc
    rw [hr] at this
    have e2 : (fun x : Addr => x.add (at_ * (Kd.int .u8).sz)) = (fun x => x.add at_) := by funext x; show x.add (at_ * 1) = _; rw [Nat.mul_one]
    rw [e2] at this
    exact this
  constructor
  · intro e
    rw [if_pos e] at hF2
    have := Kd.V_mk (d := Kd.int .u8) (e := 5) (base := w.heap.size) (c := c - at_) (by omega) hF2
    rw [hl] at this
    exact this
  · intro e
    rw [if_neg e] at hF2
    have := Kd.V_mk (d := Kd.int .u8) (e := 5) (base := w.heap.size) (c := c - at_) (by omega) hF2
    rw [hl] at this
    exact this
set_option maxRecDepth 100000 in
set_option maxHeartbeats 4000000 in
theorem block_ReadAt.calls (k : Nat) (A0 : Option Addr) (c0 : Nat) (l0 : List Int) (a1 : Int) (a2 : Int) (r1 : List Int) (r2 : Int) (w : World) (hr0 : Kd.C (Kd.int .u8) w A0 l0.length l0) (hc0 : l0.length ≤ c0) (h : block_ReadAt.f k l0 a1 a2 = some (r1, r2)) :
    Calls Try.prog 10 #[.slice A0 l0.length c0, .int .i64 a1, .int .i64 a2] w fun e w' => ∃ v0_ : Value, e = .returned (.tuple #[v0_, .int .i64 r2]) ∧ Kd.V (Kd.int .u8) 5 w' w.heap.size (fun k_ => (w.heap.size ≤ k_)) v0_ r1 ∧ Below w.heap.size w w' := by
  unfold block_ReadAt.f at h
  by_cases hlen : l0.length ≤ 1000000
  · rw [if_pos hlen] at h
    obtain ⟨size, hs, h⟩ := Option.bind_eq_some_iff.mp h
    have hs64 : -9223372036854775808 ≤ size ∧ size ≤ 9223372036854775807 := by
      unfold block_Size.f at hs
      obtain rfl := Option.some.inj hs
      generalize (wrap64 ((wrap64 ((l0.length : Int) / 68)) * 64)) + (mx 0 (((l0.length : Int) % 68) - 4)) = q
      unfold wrap64
      omega
    have HS := Aside0.mk hs
    have HR0 := Aside0.mk hr0
    clear hs hr0
    by_cases hc : a1 < 0 ∨ a2 < 0 ∨ a1 > size ∨ a2 > size - a1
    · rw [if_pos hc] at h
      simp only [Option.some.injEq, Prod.mk.injEq] at h
      obtain ⟨rfl, rfl⟩ := h
      by_cases d1 : a1 < 0
      · have c1 : decide (a1 < 0) = true := decide_eq_true d1
        clear hs64 hc
        go_enter Try.func10, Try.ntmps10
        go_wp2_with (go_at_call 9; (with_reducible refine (block_Size.calls _ _ l0 size _ ?side1 hc0 HS.out).mono ?_); (case side1 => exact HR0.out); rintro e w1 ⟨rfl, hb1⟩; have HB1 := Aside0.mk hb1; clear hb1)
        go_ret2
        exact ⟨_, rfl, Kd.V_nil _ _ _ _ _, HB1.out⟩
      · have c1 : decide (a1 < 0) = false := decide_eq_false d1
        by_cases d2 : a2 < 0
        · have c2 : decide (a2 < 0) = true := decide_eq_true d2
          clear hs64 hc
          go_enter Try.func10, Try.ntmps10
          go_wp2_with (go_at_call 9; (with_reducible refine (block_Size.calls _ _ l0 size _ ?side1 hc0 HS.out).mono ?_); (case side1 => exact HR0.out); rintro e w1 ⟨rfl, hb1⟩; have HB1 := Aside0.mk hb1; clear hb1)
          go_ret2
          exact ⟨_, rfl, Kd.V_nil _ _ _ _ _, HB1.out⟩
        · have c2 : decide (a2 < 0) = false := decide_eq_false d2
          by_cases d3 : size < a1
          · have c3 : decide (size < a1) = true := decide_eq_true d3
            clear hs64 hc
            go_enter Try.func10, Try.ntmps10
            go_wp2_with (go_at_call 9; (with_reducible refine (block_Size.calls _ _ l0 size _ ?side1 hc0 HS.out).mono ?_); (case side1 => exact HR0.out); rintro e w1 ⟨rfl, hb1⟩; have HB1 := Aside0.mk hb1; clear hb1)
            go_ret2
            exact ⟨_, rfl, Kd.V_nil _ _ _ _ _, HB1.out⟩
          · have c3 : decide (size < a1) = false := decide_eq_false d3
            have e1 : IntKind.i64.wrap (size - a1) = size - a1 := by rw [IntKind.wrap_i64]; omega
            have c4 : decide (size - a1 < a2) = true := decide_eq_true (by omega)
            clear hs64 hc
            go_enter Try.func10, Try.ntmps10
            go_wp2_with (go_at_call 9; (with_reducible refine (block_Size.calls _ _ l0 size _ ?side1 hc0 HS.out).mono ?_); (case side1 => exact HR0.out); rintro e w1 ⟨rfl, hb1⟩; have HB1 := Aside0.mk hb1; clear hb1)
            go_ret2
            exact ⟨_, rfl, Kd.V_nil _ _ _ _ _, HB1.out⟩
    · rw [if_neg hc] at h
      have c1 : decide (a1 < 0) = false := decide_eq_false (by omega)
      have c2 : decide (a2 < 0) = false := decide_eq_false (by omega)
      have c3 : decide (size < a1) = false := decide_eq_false (by omega)
      have e1 : IntKind.i64.wrap (size - a1) = size - a1 := by rw [IntKind.wrap_i64]; omega
      have c4 : decide (size - a1 < a2) = false := decide_eq_false (by omega)
      by_cases hz : a2 = 0
      · rw [if_pos hz] at h
        simp only [Option.some.injEq, Prod.mk.injEq] at h
        obtain ⟨rfl, rfl⟩ := h
        subst hz
        clear hs64 hc
        go_enter Try.func10, Try.ntmps10
        go_wp2_with (go_at_call 9; (with_reducible refine (block_Size.calls _ _ l0 size _ ?side1 hc0 HS.out).mono ?_); (case side1 => exact HR0.out); rintro e w1 ⟨rfl, hb1⟩; have HB1 := Aside0.mk hb1; clear hb1)
        go_ret2
        exact ⟨_, rfl, Kd.V_nil _ _ _ _ _, HB1.out⟩
      · rw [if_neg hz] at h
        have c5 : (a2 == 0) = false := beq_eq_false_iff_ne.2 hz
        by_cases hg : 0 ≤ size ∧ size ≤ 1000000 ∧ a1.toNat / 64 * 68 ≤ min ((a1.toNat + a2.toNat - 1) / 64 * 68 + 68) l0.length
        · rw [if_pos hg] at h
          obtain ⟨hg1, hg2, hg3⟩ := hg
          obtain ⟨b, hb, h⟩ := Option.bind_eq_some_iff.mp h
          obtain ⟨b1, b2⟩ := b
          dsimp only at h
          obtain ⟨n, hn⟩ : ∃ n : Nat, a1 = (n : Int) := ⟨a1.toNat, by omega⟩
          obtain ⟨m, hm⟩ : ∃ m : Nat, a2 = (m : Int) := ⟨a2.toNat, by omega⟩
          subst hn hm
          simp only [Int.toNat_natCast] at hb hg3 h
          have hnm : 1 ≤ m := by omega
          have hnb : n ≤ 1000000 ∧ m ≤ 1000000 := by omega
          obtain ⟨lo, hlo⟩ : ∃ lo, n / 64 * 68 = lo := ⟨_, rfl⟩
          obtain ⟨hi, hhi⟩ : ∃ hi, min ((n + m - 1) / 64 * 68 + 68) l0.length = hi := ⟨_, rfl⟩
          obtain ⟨p, hp⟩ : ∃ p, ((l0.take hi).drop lo) = p := ⟨_, rfl⟩
          rw [hlo, hhi, hp] at hb
          rw [hlo, hhi] at hg3
          have hhl : hi ≤ l0.length := by omega
          have q1 : Int.tdiv (n : Int) 64 = ((n / 64 : Nat) : Int) := by rw [Int.tdiv_eq_ediv_of_nonneg (by omega)]; omega
          have q2 : IntKind.i64.wrap ((n : Int) + (m : Int)) = (n : Int) + (m : Int) := by rw [IntKind.wrap_i64]; omega
          have q3 : IntKind.i64.wrap ((n : Int) + (m : Int) - 1) = (n : Int) + (m : Int) - 1 := by rw [IntKind.wrap_i64]; omega
          have q4 : Int.tdiv ((n : Int) + (m : Int) - 1) 64 = (((n + m - 1) / 64 : Nat) : Int) := by rw [Int.tdiv_eq_ediv_of_nonneg (by omega)]; omega
          have hpl : p.length = hi - lo := by rw [← hp]; simp; omega
          have hca : c0 = lo → Kd.C (Kd.int .u8) w A0 p.length p := fun e => by
            have := Kd.C_mid (k := Kd.int .u8) (c := c0) (lo := lo) (hi := hi) HR0.out hg3 hhl hc0
            rw [if_pos e, hp] at this
            exact this
          have hcb : ¬ c0 = lo → Kd.C (Kd.int .u8) w (A0.map (fun x => x.add lo)) p.length p := fun e => by
            have := Kd.C_mid (k := Kd.int .u8) (c := c0) (lo := lo) (hi := hi) HR0.out hg3 hhl hc0
            rw [if_neg e, hp] at this
            have e2 : (fun x : Addr => x.add (lo * (Kd.int .u8).sz)) = (fun x => x.add lo) := by funext x; show x.add (lo * 1) = _; rw [Nat.mul_one]
            rw [e2] at this
            exact this
          have HCA := Aside0.mk hca
          have HCB := Aside0.mk hcb
          have HLD := Aside0.mk hb
          clear hs64 hc hca hcb hb hp
          by_cases hb2 : b2 = 0
          · rw [if_pos hb2] at h
            subst hb2
            by_cases hbl : n % 64 + m ≤ b1.length
            · rw [if_pos hbl] at h
              simp only [Option.some.injEq, Prod.mk.injEq] at h
              obtain ⟨hr1, rfl⟩ := h
              rw [show n % 64 = n - n / 64 * 64 by omega] at hr1 hbl
              have HR1 := Aside0.mk hr1
              clear hr1
              go_enter Try.func10, Try.ntmps10
              go_wp2_with (first | (go_at_call 9; (with_reducible refine (block_Size.calls _ _ l0 size _ ?side1 hc0 HS.out).mono ?_); (case side1 => exact HR0.out); rintro e w1 ⟨rfl, hb1⟩; have HB1 := Aside0.mk hb1; clear hb1) | (go_at_call 21; refine (load_at k _ _ _ p b1 _ _ ?hX ?hC ?hc HLD.out).mono ?_; (case hX => first | omega | (simp; omega)); (case hC => first | exact Kd.C_below (HCA.out (by assumption)) HB1.out | exact Kd.C_below (HCB.out (by assumption)) HB1.out); (case hc => first | omega | (simp; omega)); rintro e w2 ⟨v2, rfl, ho2, hb2⟩; obtain ⟨A2, cc2, e2⟩ := Kd.R_slice ho2; subst e2; have HO2 := Aside0.mk ho2; have HB2 := Aside0.mk hb2; have hcc2 := (Kd.R_reads' HO2.out).2.1; clear ho2 hb2))
              all_goals go_ret2
              all_goals refine ⟨_, rfl, ?_, HB1.out.trans (HB2.out.mono HB1.out.size)⟩
              all_goals first | exact (view_part HO2.out HB1.out.size hbl HR1.out).1 (by assumption) | exact (view_part HO2.out HB1.out.size hbl HR1.out).2 (by omega)
            · rw [if_neg hbl] at h; cases h
          · rw [if_neg hb2] at h
            simp only [Option.some.injEq, Prod.mk.injEq] at h
            obtain ⟨rfl, rfl⟩ := h
            have c6 : (b2 == 0) = false := beq_eq_false_iff_ne.2 hb2
            go_enter Try.func10, Try.ntmps10
            go_wp2_with (first | (go_at_call 9; (with_reducible refine (block_Size.calls _ _ l0 size _ ?side1 hc0 HS.out).mono ?_); (case side1 => exact HR0.out); rintro e w1 ⟨rfl, hb1⟩; have HB1 := Aside0.mk hb1; clear hb1) | (go_at_call 21; refine (load_at k _ _ _ p b1 _ _ ?hX ?hC ?hc HLD.out).mono ?_; (case hX => first | omega | (simp; omega)); (case hC => first | exact Kd.C_below (HCA.out (by assumption)) HB1.out | exact Kd.C_below (HCB.out (by assumption)) HB1.out); (case hc => first | omega | (simp; omega)); rintro e w2 ⟨v2, rfl, ho2, hb2⟩; obtain ⟨A2, cc2, e2⟩ := Kd.R_slice ho2; subst e2; have HO2 := Aside0.mk ho2; have HB2 := Aside0.mk hb2; have hcc2 := (Kd.R_reads' HO2.out).2.1; clear ho2 hb2))
            all_goals go_ret2
            all_goals exact ⟨_, rfl, Kd.V_nil _ _ _ _ _, HB1.out.trans (HB2.out.mono HB1.out.size)⟩
        · rw [if_neg hg] at h; cases h
  · rw [if_neg hlen] at h; cases h

end Go.Proofs.Ytkbdlgohmafglaa.PA
