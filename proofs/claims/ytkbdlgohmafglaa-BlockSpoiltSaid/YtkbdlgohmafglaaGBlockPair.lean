-- contracts proved by hand
import Derived.Test.YtkbdlgohmafglaaPAx0
import Derived.RangeFuncNested
import Derived.RangeFuncBound
import Derived.RangeFuncCalls
import Derived.RangeFuncLeaves
import Derived.RangeFuncBox
import Derived.Shelf.Abstract
import Derived.Shelf.RegionOpen
import Derived.WalkKit
import Derived.OwnWalkIn
import Derived.TacticsInMore
import Derived.LoopNIn
import Derived.LoopIn
import Derived.Sort.QuietIn
import Derived.Sort.QuietTacIn
import Derived.Test.YtkbdlgohmafglaaPAx1
import Derived.Test.YtkbdlgohmafglaaPAx2
namespace Go.Proofs.Ytkbdlgohmafglaa.PA
open Go.RowKit Go.Proofs.YtkbdlgohmafglaaW.PrintWords Go.Proofs.YtkbdlgohmafglaaW.PrintLast Go.Proofs.YtkbdlgohmafglaaW.PrintMore
attribute [local go_sem] max2_int min2_int max_two min_two max_three min_three max_four min_four str_geq str_lss str_gtr str_leq
set_option linter.unusedVariables false
set_option linter.unusedSimpArgs false
/-! slices.Chunk, block.Store and block.load: by hand (numbers of seat Ytkbdlgohmafglaa) -/
attribute [local go_sem] Oper.semAt_some
set_option linter.unusedVariables false
set_option linter.unusedSimpArgs false
set_option maxHeartbeats 1000000 in
theorem Chunk_in (F : Fence) (n : Nat) (h24 : F.fn 24) (hro : F.round = none) (a : Option Addr) (len cap : Nat) (m : Int) (hm : 1 ≤ m) (w : World) :
    CallsIn F n Try.prog 24 #[.slice a len cap, .int .i64 m] w fun e w' => e = .returned (.func (.func 32) #[] #[.pointer (some ⟨w.heap.size, 0, none⟩), .pointer (some ⟨w.heap.size + 1, 0, none⟩)]) ∧ w' = (w.alloc (.cells #[.slice a len cap] 23)).alloc (.cells #[.int .i64 m] 3) := by
  refine callsIn_of_wp Try.func24 rfl h24 ?_ hro
  simp only [Try.ntmps24, List.size_toArray, List.length_cons, List.length_nil, Nat.reduceAdd, Nat.reduceSub, Array.replicate_succ, Array.replicate_zero, List.push_toArray, List.append_toArray, List.nil_append, List.cons_append]
  have hm' : ¬ m < 1 := by omega
  gi_wp2
  go_ret
  exact ⟨rfl, rfl⟩
/-- A piece's value. -/
def pv (ad : Addr) (len m k : Nat) : Value := .slice (some (ad.add k)) (min m (len - k)) (min m (len - k))
def fr (N j : Nat) : List (Fin N) := (List.finRange N).take j
theorem fr_zero (N : Nat) : fr N 0 = [] := rfl
theorem fr_length {N j : Nat} (h : j ≤ N) : (fr N j).length = j := by simp [fr]; omega
theorem fr_succ {N j : Nat} (h : j < N) : fr N (j + 1) = fr N j ++ [⟨j, h⟩] := by
  unfold fr
  rw [List.take_succ_eq_append_getElem (by simpa using h)]
  simp
theorem fr_all (N : Nat) : fr N N = List.finRange N := List.take_of_length_le (by simp)
def KpC (n₀ B : Nat) (A A' : World) : Prop := Below n₀ A A' ∧ A'.heap[B]? = A.heap[B]? ∧ A'.heap[B + 1]? = A.heap[B + 1]?
theorem KpC.cell0 {n₀ B : Nat} {A A' : World} (h : KpC n₀ B A A') : A'.cell? ⟨B, 0, none⟩ = A.cell? ⟨B, 0, none⟩ := by simp only [World.cell?, h.2.1]
theorem KpC.cell1 {n₀ B : Nat} {A A' : World} (h : KpC n₀ B A A') : A'.cell? ⟨B + 1, 0, none⟩ = A.cell? ⟨B + 1, 0, none⟩ := by simp only [World.cell?, h.2.2]
theorem KpC.refl (n₀ B : Nat) (A : World) : KpC n₀ B A A := ⟨Below.refl _ _, rfl, rfl⟩
theorem KpC.trans {n₀ B : Nat} {X Y Z : World} (h : KpC n₀ B X Y) (k : KpC n₀ B Y Z) : KpC n₀ B X Z := ⟨h.1.trans k.1, k.2.1.trans h.2.1, k.2.2.trans h.2.2⟩
set_option maxRecDepth 100000 in
set_option maxHeartbeats 4000000 in
theorem Chunk1_in (F : Fence) (n : Nat) (h32 : F.fn 32) (hro : F.round = none) (hn : 1 ≤ n) (l B n₀ : Nat) (ad : Addr) (len cap m N : Nat) (hm : 1 ≤ m) (hm2 : m ≤ 1000) (hlen : len ≤ 140737488351232) (hcap : len ≤ cap) (hN : ∀ j, j * m < len ↔ j < N)
    (J Jx : List (Fin N) → World → Prop) (B0 : Nat) (hJ : AbidesFrom B0 J)
    (hY : ∀ pre x W, J pre W → pre.length < N → YieldAt F (n - 1) Try.prog l #[pv ad len m (x.val * m)] W fun e W' =>
      (e = .returned (.bool true) ∧ J (pre ++ [x]) W' ∧ KpC n₀ B W W') ∨ (e = .returned (.bool false) ∧ Jx (pre ++ [x]) W'))
    (W : World) (hB : W.cell? ⟨B, 0, none⟩ = some (.slice (some ad) len cap)) (hB1 : W.cell? ⟨B + 1, 0, none⟩ = some (.int .i64 m)) (h0 : J [] W) :
    CallsIn F n Try.prog 32 #[.func (.yield l) #[] #[], .pointer (some ⟨B, 0, none⟩), .pointer (some ⟨B + 1, 0, none⟩)] W fun e W' => (∃ v, e = .returned v) ∧
      ((∃ ys, ys = List.finRange N ∧ J ys W') ∨ (∃ pre, pre <+: List.finRange N ∧ Jx pre W')) := by
  refine callsIn_of_wp Try.func32 rfl h32 ?_ hro
  simp only [Try.ntmps32, List.size_toArray, List.length_cons, List.length_nil, Nat.reduceAdd, Nat.reduceSub, Array.replicate_succ, Array.replicate_zero, List.push_toArray, List.append_toArray, List.nil_append, List.cons_append]
  gi_wp2
  gi_loopw [4] (fun i wr => ∃ j : Nat, j ≤ N ∧ i = .int .i64 ((j * m : Nat) : Int) ∧ J (fr N j) wr ∧ KpC n₀ B W wr)
    (fun i _ => len - (intOf i).toNat)
  case atStart => exact ⟨0, Nat.zero_le _, by simp, h0, KpC.refl _ _ _⟩
  case round =>
    obtain ⟨j, hj, rfl, hJs, hk⟩ := hrel
    have hcs := hk.cell0.trans hB
    have hcn := hk.cell1.trans hB1
    obtain ⟨i, hi⟩ : ∃ i, j * m = i := ⟨_, rfl⟩
    rw [hi]
    by_cases hlt : i < len
    · have hjN : j < N := (hN j).1 (by omega)
      have hcap3 : i < cap := by omega
      have HI := Aside0.mk hi
      have HJ2 := Aside0.mk hJs
      have HK := Aside0.mk hk
      clear hi hJs hk
      gi_wp2
      refine wpIn_region_quiet_lit hro (by kernel_rfl) (by kernel_rfl) ?_
      repeat (gi_big_quiet_step (fail))
      refine wpQuietIn_nil ?_
      intro _ hw'
      obtain ⟨nq, hw''⟩ := hw'
      subst hw''
      obtain ⟨e, he⟩ : ∃ e : Nat, e = min m (len - i) := ⟨_, rfl⟩
      rw [show (if len - i < m then ((len - i : Nat) : Int) else (m : Int)) = (e : Int) by split <;> omega]
      have he1 : 1 ≤ e := by omega
      have he2 : i + e ≤ len := by omega
      have hb0 : KpC n₀ B wr (wr.drewN nq) := ⟨pw_below_drewN (Below.refl _ _) nq, rfl, rfl⟩
      have hcs2 := hb0.cell0.trans hcs
      have hcn2 := hb0.cell1.trans hcn
      have HJ3 := Aside0.mk (hJ _ wr (wr.drewN nq) none HJ2.out (grown_of_below (pw_below_drewN (Below.refl _ _) nq) none) (fun r h => by cases h))
      have HK3 := Aside0.mk (HK.out.trans hb0)
      clear hb0 hcs hcn HJ2 HK
      obtain ⟨fn, tmps, assign, body, hy, hR⟩ := hY _ ⟨j, hjN⟩ (wr.drewN nq) HJ3.out (by rw [fr_length (by omega)]; exact hjN)
      unfold pv at hy
      dsimp only at hy
      rw [HI.out] at hy
      rw [← he] at hy
      have HE := Aside0.mk he
      clear he
      have hcap4 : i + e ≤ cap := by omega
      gi_wp2
      refine hR.mono ?_
      rintro e' W3 (⟨rfl, hJ4, hk4⟩ | ⟨rfl, hJx4⟩)
      · have hcs4 := hk4.cell0.trans hcs2
        have hcn4 := hk4.cell1.trans hcn2
        have HJ4 := Aside0.mk hJ4
        have HK4 := Aside0.mk (HK3.out.trans hk4)
        clear hJ4 hk4 hcs2 hcn2 hy hR
        gi_wp2
        go_roundw
        case rel => exact ⟨j + 1, hjN, by have := HI.out; rw [Nat.succ_mul]; simp; omega, by rw [fr_succ hjN]; exact HJ4.out, HK4.out⟩
        case measure => simp [intOf]; omega
      · gi_wp2
        refine bodyPost_ret (results_none rfl _ _ _) rfl ?_
        exact ⟨⟨_, rfl⟩, .inr ⟨_, by rw [← fr_succ hjN]; exact List.take_prefix _ _, hJx4⟩⟩
    · have hjN : j = N := by
        have := hN j
        omega
      have HJ2 := Aside0.mk hJs
      clear hJs hk hi
      gi_wp2
      go_end0
      exact ⟨⟨_, rfl⟩, .inl ⟨_, rfl, by rw [← (show fr N j = List.finRange N from List.take_of_length_le (by simp; omega))]; exact HJ2.out⟩⟩

set_option maxRecDepth 100000 in
set_option maxHeartbeats 1000000 in
/-- .. of no bytes: no round. -/
theorem Chunk1_none_in (F : Fence) (n : Nat) (h32 : F.fn 32) (hro : F.round = none) (l B : Nat) (a : Option Addr) (cap : Nat) (J : World → Prop) (W : World) (hB : W.cell? ⟨B, 0, none⟩ = some (.slice a 0 cap)) (h0 : J W) :
    CallsIn F n Try.prog 32 #[.func (.yield l) #[] #[], .pointer (some ⟨B, 0, none⟩), .pointer (some ⟨B + 1, 0, none⟩)] W fun e W' => (∃ v, e = .returned v) ∧ J W' := by
  refine callsIn_of_wp Try.func32 rfl h32 ?_ hro
  simp only [Try.ntmps32, List.size_toArray, List.length_cons, List.length_nil, Nat.reduceAdd, Nat.reduceSub, Array.replicate_succ, Array.replicate_zero, List.push_toArray, List.append_toArray, List.nil_append, List.cons_append]
  gi_wp2
  gi_loopw [4] (fun i wr => i = .int .i64 0 ∧ J wr ∧ wr.cell? ⟨B, 0, none⟩ = some (.slice a 0 cap)) (fun _ _ => 0)
  case atStart => exact ⟨rfl, h0, hB⟩
  case round =>
    obtain ⟨rfl, hJs, hc⟩ := hrel
    gi_wp2
    go_end0
    exact ⟨⟨_, rfl⟩, hJs⟩
/-- The pieces' values, whatever the slice. -/
def pvA (A : Option Addr) (len m k : Nat) : Value := match A with
  | some ad => pv ad len m k
  | none => .slice none 0 0
theorem chunk_stops (F : Fence) (n : Nat) (h32 : F.fn 32) (hro : F.round = none) (hn : 1 ≤ n) (B n₀ : Nat) (A : Option Addr) (len cap m N : Nat) (hm : 1 ≤ m) (hm2 : m ≤ 1000) (hlen : len ≤ 140737488351232) (hcap : len ≤ cap) (hN : ∀ j, j * m < len ↔ j < N)
    (hA : 0 < len → ∃ ad, A = some ad) (w : World) (hBw : B + 1 < w.heap.size) (hB : w.cell? ⟨B, 0, none⟩ = some (.slice A len cap)) (hB1 : w.cell? ⟨B + 1, 0, none⟩ = some (.int .i64 m)) :
    SeqStopsK F n Try.prog 32 #[.pointer (some ⟨B, 0, none⟩), .pointer (some ⟨B + 1, 0, none⟩)] (fun x : Fin N => #[pvA A len m (x.val * m)]) (KpC n₀ B) (fun ys => ys = List.finRange N) (fun pre => pre <+: List.finRange N) N w := fun l J Jx W hW hJ _ hY h0 => by
  have hB' := (hW.cell (p := ⟨B, 0, none⟩) (by show B < _; omega)).trans hB
  have hB1' := (hW.cell (p := ⟨B + 1, 0, none⟩) hBw).trans hB1
  by_cases h : 0 < len
  · obtain ⟨ad, rfl⟩ := hA h
    exact Chunk1_in F n h32 hro hn l B n₀ ad len cap m N hm hm2 hlen hcap hN J Jx _ hJ hY W hB' hB1' h0
  · obtain rfl : len = 0 := by omega
    have hN0 : N = 0 := by
      have := hN 0
      omega
    subst hN0
    exact (Chunk1_none_in F n h32 hro l B A cap (fun W' => J [] W') W hB' h0).mono fun e W' ⟨he, hj⟩ => ⟨he, .inl ⟨[], rfl, hj⟩⟩

/-! rows of numbers, kept by steps that turn no cells -/
theorem R_noncells {α : Type} {enc : α → Value} {h1 : ∀ x, (enc x).oneCell' = true} {e base : Nat} {A B : World} {row : Option Nat} {v : Value} {xs : List α} (h : (Kd.scalar enc h1).R e A base (fun _ => True) v xs) (hg : A.grownBy B row) (hr : ∀ r, row = some r → ∃ o : Obj, A.heap[r]? = some o ∧ o.isCells = false) : (Kd.scalar enc h1).R e B base (fun _ => True) v xs := by
  have ho := Kd.own_of_R h
  refine Kd.R_of_own (own_other ho hg ?_) (fun _ _ => trivial)
  cases hv : v.ownBlock with
  | none => exact .inl rfl
  | some k =>
    refine .inr (fun he => ?_)
    obtain ⟨o, ho1, ho2⟩ := hr k he.symm
    obtain ⟨cells, hc⟩ := own_typed ho k hv
    rw [hc] at ho1
    cases ho1
    simp [Obj.isCells] at ho2
theorem Boxed_noncells {A B : World} {row : Option Nat} {b : Nat} {t : TypeId} {v : Value} (h : Boxed A b t v) (hg : A.grownBy B row) (hr : ∀ r, row = some r → ∃ o : Obj, A.heap[r]? = some o ∧ o.isCells = false) : Boxed B b t v :=
  h.kept hg (fun he => by
    obtain ⟨o, ho1, ho2⟩ := hr b he.symm
    have h' : A.heap[b]? = some (Obj.cells #[v] t (0, 0)) := h
    rw [h'] at ho1
    cases ho1
    simp [Obj.isCells] at ho2)
/-! the pure answer -/
def chunks (m : Nat) (l : List Int) : List (List Int) := (List.range ((l.length + m - 1) / m)).map fun j => (l.drop (j * m)).take m
def stoL (k : Nat) (t : List Int) : List (List Int) → List Int → Option (List Int)
  | [], acc => some acc
  | p :: ps, acc => (crc_Seal.f k t p).bind fun s => if 1 ≤ s.1.length ∧ s.1.length ≤ 1000 then stoL k t ps (acc ++ s.1) else none
theorem stoL_mono (k : Nat) (t : List Int) : ∀ (ps : List (List Int)) (acc : List Int), LeO (stoL k t ps acc) (stoL (k + 1) t ps acc)
  | [], acc => LeO.refl _
  | p :: ps, acc => LeO.bind (crc_Seal.mono _ _ _) (fun s => LeO.ite (stoL_mono k t ps _) (LeO.refl _))
def block_Store.f (k : Nat) (l0 : List Int) : Option (List Int) := if l0.length ≤ 1000000 then (crc_Table.f k).bind fun t => stoL k t (chunks 64 l0) [] else none
theorem block_Store.mono : ∀ a0 k, LeO (block_Store.f k a0) (block_Store.f (k + 1) a0) := by
  intro a0 k
  unfold block_Store.f
  exact LeO.ite (LeO.bind (crc_Table.mono _) (fun t => stoL_mono k t _ _)) (LeO.refl _)
def sealOf (k : Nat) (t p : List Int) : List Int := ((crc_Seal.f k t p).getD ([], 0)).1
theorem stoL_all {k : Nat} {t : List Int} : ∀ (ps : List (List Int)) (acc r : List Int), stoL k t ps acc = some r → (∀ p ∈ ps, ∃ e, crc_Seal.f k t p = some (sealOf k t p, e) ∧ 1 ≤ (sealOf k t p).length ∧ (sealOf k t p).length ≤ 1000) ∧ r = acc ++ ps.flatMap (sealOf k t)
  | [], acc, r, h => by
    simp only [stoL, Option.some.injEq] at h
    exact ⟨by simp, by simp [h]⟩
  | p :: ps, acc, r, h => by
    unfold stoL at h
    obtain ⟨s, hs, h⟩ := Option.bind_eq_some_iff.mp h
    split at h
    · rename_i hl
      have e : sealOf k t p = s.1 := by unfold sealOf; rw [hs]; rfl
      obtain ⟨g1, g2⟩ := stoL_all ps _ r h
      refine ⟨fun q hq => ?_, by rw [g2, List.flatMap_cons, e, List.append_assoc]⟩
      rcases List.mem_cons.1 hq with rfl | hq
      · exact ⟨s.2, by rw [e, hs], by rw [e]; exact hl⟩
      · exact g1 q hq
    · cases h
theorem chunk_at (m : Nat) (l : List Int) (N : Nat) (hN : N = (l.length + m - 1) / m) (x : Fin N) : (l.drop (x.val * m)).take m ∈ chunks m l := by
  unfold chunks
  exact List.mem_map.2 ⟨x.val, List.mem_range.2 (by rw [← hN]; exact x.isLt), rfl⟩
theorem chunks_fin (m : Nat) (l : List Int) (N : Nat) (hN : N = (l.length + m - 1) / m) : chunks m l = (List.finRange N).map (fun x => (l.drop (x.val * m)).take m) := by
  subst hN
  unfold chunks
  refine List.ext_getElem (by simp) (fun i h1 h2 => ?_)
  simp

theorem piece_C {w : World} {ad : Addr} {l0 : List Int} {i m : Nat} (h : Kd.C (Kd.int .u8) w (some ad) l0.length l0) (hi : i < l0.length) : Kd.C (Kd.int .u8) w (some (ad.add i)) ((l0.drop i).take m).length ((l0.drop i).take m) := by
  have hmid := Kd.C_mid (k := Kd.int .u8) (c := l0.length + 1) (lo := i) (hi := min (i + m) l0.length) h (by omega) (by omega) (by omega)
  rw [if_neg (by omega)] at hmid
  have e : (l0.take (min (i + m) l0.length)).drop i = (l0.drop i).take m := by
    rw [List.drop_take]
    rcases Nat.le_total (i + m) l0.length with h1 | h1
    · rw [Nat.min_eq_left h1, show i + m - i = m by omega]
    · rw [Nat.min_eq_right h1, List.take_of_length_le (by simp), List.take_of_length_le (by simp; omega)]
  rw [e] at hmid
  have e2 : (Option.some ad).map (·.add (i * (Kd.int .u8).sz)) = some (ad.add i) := by
    show some (ad.add (i * 1)) = _
    rw [Nat.mul_one]
  rw [e2] at hmid
  exact hmid
theorem src_cells {w : World} {ad : Addr} {xs : List Int} (h : Kd.C (Kd.int .u8) w (some ad) xs.length xs) : ∀ j u, (encs (Value.int .u8) xs)[j]? = some u → w.cell? (ad.add j) = some u := by
  intro j u hu
  have hj : j < xs.length := by
    have := (List.getElem?_eq_some_iff.1 hu).1
    rwa [encs_length] at this
  obtain ⟨ad', e, hc⟩ := Kd.at_int h (j : Int) (by omega) (by omega)
  cases e
  rw [Int.toNat_natCast] at hc
  rw [hc]
  have : (encs (Value.int .u8) xs)[j]? = some (Value.int .u8 (rd xs (j : Int))) := by
    simp [encs, rd, List.getD_eq_getElem?_getD, List.getElem?_eq_getElem hj]
  exact this.symm.trans hu
theorem own_apart {W : World} {b1 e1 s1 n1 b2 e2 s2 n2 : Nat} {v1 v2 : Value} {x1 x2 : List Value} (h1 : W.ownsRow b1 e1 s1 v1 n1 x1) (h2 : W.ownsRow b2 e2 s2 v2 n2 x2) (hne : e1 ≠ e2) : v1.ownBlock = none ∨ v1.ownBlock ≠ v2.ownBlock := by
  cases hv : v1.ownBlock with
  | none => exact .inl rfl
  | some k =>
    refine .inr (fun he => ?_)
    obtain ⟨c1, g1⟩ := own_typed h1 k hv
    obtain ⟨c2, g2⟩ := own_typed h2 k he.symm
    rw [g1] at g2
    simp only [Option.some.injEq, Obj.cells.injEq] at g2
    exact hne g2.2.1
theorem keepsOthers_below {W W' : World} (hb : Below W.heap.size W W') : KeepsOthers W W' := ⟨hb.size, fun k o hk _ => (hb.block k (Array.getElem?_eq_some_iff.1 hk).1).trans hk⟩
theorem keepsOthers_row {W W' : World} {b e s n : Nat} {v : Value} {xs : List Value} (h : W.ownsRow b e s v n xs) (hg : W.grownBy W' v.ownBlock) : KeepsOthers W W' :=
  KeepsOthers.of_grownBy hg (fun j o ej hj => by
    obtain ⟨cells, hc⟩ := own_typed h j ej
    rw [hc] at hj
    cases hj
    rfl)
theorem flat_bound {α β : Type} (f : α → List β) (m : Nat) : ∀ (l : List α), (∀ y ∈ l, (f y).length ≤ m) → (l.flatMap f).length ≤ l.length * m
  | [], _ => by simp
  | y :: l, h => by
    have h1 := flat_bound f m l (fun z hz => h z (List.mem_cons_of_mem _ hz))
    have h2 := h y (List.mem_cons_self ..)
    rw [List.flatMap_cons, List.length_append, List.length_cons, Nat.succ_mul]
    omega
/-- What the loop's rounds know. -/
def StI (w : World) (B3 B4 Bx : Nat) (tv sv nv : Value) (t : List Int) (S : List Int) (W : World) : Prop :=
  ∃ v, Boxed W B3 23 v ∧ Boxed W B4 41 tv ∧ Boxed W Bx 23 sv ∧ Boxed W (Bx + 1) 3 nv ∧ Kd.R (Kd.int .u8) 5 W w.heap.size (fun _ => True) v S ∧ Kd.R (Kd.int .u32) 52 W w.heap.size (fun _ => True) tv t
theorem StI_own {β : Type} (w : World) (B3 B4 Bx : Nat) (tv sv nv : Value) (t : List Int) (S : β → List Int) : Own (fun (s : β) W => StI w B3 B4 Bx tv sv nv t (S s) W) := by
  rintro s X Y row ⟨v, h1, h2, h3, h4, h5, h6⟩ hg hr
  exact ⟨v, Boxed_noncells h1 hg hr, Boxed_noncells h2 hg hr, Boxed_noncells h3 hg hr, Boxed_noncells h4 hg hr, R_noncells h5 hg hr, R_noncells h6 hg hr⟩
/-- Behind an append and the store. -/
theorem StI_step {w W W1 w2 : World} {B3 B4 Bx : Nat} {tv sv nv : Value} {t S news : List Int} {v v' : Value} (hn : w.heap.size ≤ B3) (h34 : B3 ≠ B4) (h3x : B3 ≠ Bx) (h3y : B3 ≠ Bx + 1)
    (h1 : Boxed W B3 23 v) (h2 : Boxed W B4 41 tv) (h3 : Boxed W Bx 23 sv) (h4 : Boxed W (Bx + 1) 3 nv) (h5 : Kd.R (Kd.int .u8) 5 W w.heap.size (fun _ => True) v S) (h6 : Kd.R (Kd.int .u32) 52 W w.heap.size (fun _ => True) tv t)
    (hb : Below W.heap.size W W1) (hw : w.heap.size ≤ W.heap.size) (hown : w2.ownsRow w.heap.size 5 1 v' (S.length + news.length) (encs (Value.int .u8) S ++ encs (Value.int .u8) news)) (hg : W1.grownBy w2 v.ownBlock) :
    Boxed w2 B3 23 v ∧ KeepsOthers W (w2.setCell ⟨B3, 0, none⟩ v') ∧ KpC w.heap.size Bx W (w2.setCell ⟨B3, 0, none⟩ v') ∧ StI w B3 B4 Bx tv sv nv t (S ++ news) (w2.setCell ⟨B3, 0, none⟩ v') := by
  have g5 := Kd.own_of_R (Kd.R_below h5 hb)
  have g6 := Kd.own_of_R (Kd.R_below h6 hb)
  have k1 : Boxed W1 B3 23 v := (hb.block _ h1.lt).trans h1
  have k2 : Boxed W1 B4 41 tv := (hb.block _ h2.lt).trans h2
  have k3 : Boxed W1 Bx 23 sv := (hb.block _ h3.lt).trans h3
  have k4 : Boxed W1 (Bx + 1) 3 nv := (hb.block _ h4.lt).trans h4
  have m1 := k1.kept hg (k1.not_row (by decide) g5)
  have m2 := k2.kept hg (k2.not_row (by decide) g5)
  have m3 := k3.kept hg (k3.not_row (by decide) g5)
  have m4 := k4.kept hg (k4.not_row (by decide) g5)
  have o6 := own_other g6 hg (own_apart g6 g5 (by decide))
  have hs := grownBy_setCell' w2 B3 v'
  have n2 := m2.kept hs (by simpa using h34.symm)
  have n3 := m3.kept hs (by simpa using h3x.symm)
  have n4 := m4.kept hs (by simpa using h3y.symm)
  have o5' := own_other hown hs (.inr (m1.not_row (by decide) hown).symm)
  have o6' := own_other o6 hs (.inr (m1.not_row (by decide) o6).symm)
  refine ⟨m1, ((keepsOthers_below hb).trans (keepsOthers_row g5 hg)).trans (KeepsOthers.setCell _ _ _), ⟨?_, n3.trans (show W.heap[Bx]? = _ from h3).symm, n4.trans (show W.heap[Bx + 1]? = _ from h4).symm⟩, ⟨v', m1.set v', n2, n3, n4, ?_, Kd.R_of_own o6' (fun _ _ => trivial)⟩⟩
  · exact ((hb.mono hw).grown hg (Nat.le_trans hw hb.size) (fun j ej => own_base g5 j ej)).setCell (p := ⟨B3, 0, none⟩) hn _
  · refine Kd.R_of_own ?_ (fun _ _ => trivial)
    have : encs (Value.int .u8) (S ++ news) = encs (Value.int .u8) S ++ encs (Value.int .u8) news := by simp [encs]
    rw [this, List.length_append]
    exact o5'
set_option maxRecDepth 100000 in
set_option maxHeartbeats 4000000 in
theorem block_Store.calls (k : Nat) (A0 : Option Addr) (c0 : Nat) (l0 : List Int) (r : List Int) (w : World) (hr0 : Kd.C (Kd.int .u8) w A0 l0.length l0) (hc0 : l0.length ≤ c0) (h : block_Store.f k l0 = some r) :
    Calls Try.prog 11 #[.slice A0 l0.length c0] w fun e w' => ∃ v0_ : Value, e = .returned (v0_) ∧ Kd.R (Kd.int .u8) 5 w' w.heap.size (fun _ => True) v0_ r ∧ Below w.heap.size w w' := by
  unfold block_Store.f at h
  by_cases hlen : l0.length ≤ 1000000
  · rw [if_pos hlen] at h
    obtain ⟨t, ht, h⟩ := Option.bind_eq_some_iff.mp h
    obtain ⟨hall, hr⟩ := stoL_all _ _ _ h
    obtain ⟨N, hN⟩ : ∃ N, N = (l0.length + 64 - 1) / 64 := ⟨_, rfl⟩
    have hNj : ∀ j, j * 64 < l0.length ↔ j < N := by intro j; omega
    have HALL := Aside0.mk hall
    have HRR := Aside0.mk hr
    have HT0 := Aside0.mk ht
    have HR0 := Aside0.mk hr0
    have HNJ := Aside0.mk hNj
    have HNN := Aside0.mk hN
    clear hall hr h ht hr0 hNj hN
    refine (callsIn_wide (n := 5)).1 ?_
    refine callsIn_of_wp_marks Try.func11 rfl trivial ?_ rfl
    simp only [Try.ntmps11, List.size_toArray, List.length_cons, List.length_nil, Nat.reduceAdd, Nat.reduceSub, Array.replicate_succ, Array.replicate_zero, List.push_toArray, List.append_toArray, List.nil_append, List.cons_append]
    gi_wp2_with (first
      | (refine ⟨trivial, ?_⟩; gi_at_call 23; refine (callsIn_wide.2 (crc_Table.calls k t _ HT0.out)).mono ?_; rintro e w1 ⟨vt, rfl, hot, hbt⟩; obtain ⟨At, ct, et⟩ := Kd.R_slice hot; subst et; have HOT := Aside0.mk hot; have HBT := Aside0.mk hbt; clear hot hbt)
      | (refine ⟨trivial, ?_⟩; gi_at_call 24; refine (Chunk_in Fence.wide _ trivial rfl _ _ _ 64 (by omega) _).mono ?_; rintro e w2 ⟨rfl, rfl⟩))
    have hsz : (w.alloc (Obj.cells #[Value.slice none 0 0] 23)).heap.size = w.heap.size + 1 := by simp
    have hB01 : Below w.heap.size w w1 := ((Below.refl _ w).alloc (Nat.le_refl _) _).trans (HBT.out.mono (by simp))
    obtain ⟨W0, hW0⟩ : ∃ W0, (((w1.alloc (Obj.cells #[Value.slice At t.length ct] 41)).alloc (Obj.cells #[Value.slice A0 l0.length c0] 23)).alloc (Obj.cells #[Value.int IntKind.i64 64] 3)) = W0 := ⟨_, rfl⟩
    rw [hW0]
    have hw1 : w.heap.size + 1 ≤ w1.heap.size := by have := HBT.out.size; rw [hsz] at this; exact this
    have hsz0 : W0.heap.size = w1.heap.size + 1 + 1 + 1 := by rw [← hW0]; simp
    have hB0 : Below w.heap.size w W0 := by
      rw [← hW0]
      exact ((hB01.alloc (by omega) _).alloc (by simp; omega) _).alloc (by simp; omega) _
    have b3 : Boxed W0 w.heap.size 23 (.slice none 0 0) := by
      rw [← hW0]
      have q : Boxed w1 w.heap.size 23 (.slice none 0 0) := (HBT.out.block _ (by rw [hsz]; omega)).trans (Boxed.new w 23 (.slice none 0 0))
      exact ((q.alloc _).alloc _).alloc _
    have b4 : Boxed W0 w1.heap.size 41 (.slice At t.length ct) := by
      rw [← hW0]
      exact ((Boxed.new w1 41 _).alloc _).alloc _
    have bx : Boxed W0 (w1.heap.size + 1) 23 (.slice A0 l0.length c0) := by
      rw [← hW0]
      have q := Boxed.new (w1.alloc (Obj.cells #[Value.slice At t.length ct] 41)) 23 (.slice A0 l0.length c0)
      rw [World.size_alloc] at q
      exact q.alloc _
    have by' : Boxed W0 (w1.heap.size + 1 + 1) 3 (.int .i64 64) := by
      rw [← hW0]
      have q := Boxed.new ((w1.alloc (Obj.cells #[Value.slice At t.length ct] 41)).alloc (Obj.cells #[Value.slice A0 l0.length c0] 23)) 3 (.int .i64 64)
      simp only [World.size_alloc] at q
      exact q
    have hT : Kd.R (Kd.int .u32) 52 W0 w.heap.size (fun _ => True) (.slice At t.length ct) t := by
      rw [← hW0]
      exact Kd.R_alloc (Kd.R_alloc (Kd.R_alloc (Kd.R_lower HOT.out (by omega)) _) _) _
    have hA : 0 < l0.length → ∃ ad, A0 = some ad := fun hp => by
      obtain ⟨ad, e, _⟩ := HR0.out.2.2 hp
      exact ⟨ad, e⟩
    obtain ⟨S, hS⟩ : ∃ S : List (Fin N) → List Int, S = fun pre => pre.flatMap (fun x => sealOf k t ((l0.drop (x.val * 64)).take 64)) := ⟨_, rfl⟩
    have HSS := Aside0.mk hS
    have HA := Aside0.mk hA
    have HB0 := Aside0.mk hB0
    have HT1 := Aside0.mk hT
    have HSZ0 := Aside0.mk hsz0
    have HW1 := Aside0.mk hw1
    clear hS hA hB0 hT hsz0 hw1 hW0 hB01 hsz
    refine wpIn_rangeFunc_ownG rfl (by omega) (gf := 32) (lb := #[.pointer (some ⟨w1.heap.size + 1, 0, none⟩), .pointer (some ⟨w1.heap.size + 1 + 1, 0, none⟩)]) rfl trivial (enters_of Try.func32 (by kernel_rfl) rfl)
      (chunk_stops Fence.wide _ trivial rfl (by omega) (w1.heap.size + 1) w.heap.size A0 l0.length c0 64 N (by omega) (by omega) (by omega) hc0 HNJ.out HA.out W0 (by have := HSZ0.out; omega) bx.cell by'.cell)
      (fun h k => h.trans k)
      (fun W l o o' hl hW ho hw => ⟨belowK_b (w := W0) HB0.out.size W l o o' hl hW ho hw, World.putObj_heap_other (by have := HSZ0.out; omega), World.putObj_heap_other (by have := HSZ0.out; omega)⟩)
      (Below.refl _ _) (fun _ => rfl)
      (fun pre W => StI w w.heap.size w1.heap.size (w1.heap.size + 1) (.slice At t.length ct) (.slice A0 l0.length c0) (.int .i64 64) t (S pre) W ∧ Below w.heap.size w W)
      (fun _ _ _ => False)
      (OwnFrom.and (Own.from (StI_own w w.heap.size w1.heap.size (w1.heap.size + 1) (.slice At t.length ct) (.slice A0 l0.length c0) (.int .i64 64) t S) _) (ownFrom_below (Nat.le_refl _) HB0.out.size))
      (fun _ _ _ _ _ hs _ _ => hs)
      ⟨⟨_, b3, b4, bx, by', by rw [HSS.out]; exact Kd.R_nil _ _ _ _ _, HT1.out⟩, HB0.out⟩
      (fun x => { tmps := #[Value.slice A0 l0.length c0, undef, Value.slice none 0 0, Value.pointer (some { block := w.heap.size, off := 0 }), Value.pointer (some { block := w1.heap.size, off := 0 }), pvA A0 l0.length 64 (x.val * 64), undef, undef, Value.slice At t.length ct, Value.slice A0 l0.length c0,
          Value.func (Fn.func 32) #[] #[Value.pointer (some { block := w1.heap.size + 1, off := 0 }), Value.pointer (some { block := w1.heap.size + 1 + 1, off := 0 })],
          pvA A0 l0.length 64 (x.val * 64), undef, undef, undef, undef, undef, undef, undef, undef, undef, undef], defers := [] }) ?assign ?body ?done ?stop
    case assign =>
      intro l x W K hK
      gi_wp2
      exact hK
    case body =>
      rintro l pre x W ⟨⟨v, h1, h2, h3, h4, h5, h6⟩, hB⟩ hpre
      have hx : x.val * 64 < l0.length := (HNJ.out _).2 x.isLt
      obtain ⟨ad, rfl⟩ := HA.out (by omega)
      obtain ⟨p, hp⟩ : ∃ p, p = (l0.drop (x.val * 64)).take 64 := ⟨_, rfl⟩
      have hpl : min 64 (l0.length - x.val * 64) = p.length := by rw [hp]; simp
      simp only [pvA, pv]
      rw [hpl]
      have hpc : Kd.C (Kd.int .u8) W (some (ad.add (x.val * 64))) p.length p := by
        rw [hp]
        exact Kd.C_below (piece_C HR0.out hx) hB
      obtain ⟨e, hse, hs1, hs2⟩ := HALL.out p (by rw [hp]; exact chunk_at 64 l0 N HNN.out x)
      have hSb : (S pre).length ≤ pre.length * 1000 := by
        rw [HSS.out]
        refine flat_bound _ 1000 _ (fun y _ => ?_)
        obtain ⟨_, _, _, g⟩ := HALL.out _ (chunk_at 64 l0 N HNN.out y)
        exact g
      have hN' : N ≤ 15626 := by have := HNN.out; omega
      have hWs : w.heap.size ≤ W.heap.size := hB.size
      have hSx : S (pre ++ [x]) = S pre ++ sealOf k t p := by
        rw [HSS.out, hp]
        simp
      have hSb2 : (S pre).length ≤ 15626000 := Nat.le_trans hSb (by omega)
      have HSX := Aside0.mk hSx
      have HHB := Aside0.mk hB
      have HH5 := Aside0.mk h5
      have HH6 := Aside0.mk h6
      have HSE := Aside0.mk hse
      have HPC := Aside0.mk hpc
      have hc1 := h1.cell
      have hc2 := h2.cell
      clear hSx hB h5 h6 hse hpc hp hpl hSb hx
      gi_wp2_with (first
        | (refine ⟨trivial, ?_⟩; gi_at_call 25; refine (CallsIn.inRound l (callsIn_wide.2 (crc_Seal.calls k _ _ t _ _ _ p (sealOf k t p) e _ (Kd.R_reads' HH6.out).2.2 (Kd.R_reads' HH6.out).2.1 (Kd.V_mk (Nat.le_refl _) (Kd.C_F (Kd.heap_int .u8) HPC.out)) HSE.out))).mono ?_; rintro e W1 ⟨vs, rfl, hos, hbs⟩; obtain ⟨As, cs, es⟩ := Kd.R_slice hos; subst es; have HOS := Aside0.mk hos; have HBS := Aside0.mk hbs; have hc3 := Boxed.cell (show Boxed W1 w.heap.size 23 v from (hbs.block _ h1.lt).trans h1); clear hos hbs)
        | (gi_at_builtin; obtain ⟨As2, rfl⟩ : ∃ As2, As = some As2 := (by
            obtain ⟨a', ea, _⟩ := (Kd.R_reads' HOS.out).2.2.2.2 (by omega)
            exact ⟨a', ea⟩)
           refine wpListIn_append_own _ rfl (.tmp 18) (.tmp 19) 23 rfl w.heap.size 5 _ (.int .u8 0) 1 1 Try.underlying23 rfl rfl rfl rfl (by decide) (by decide) v (S pre).length (encs (Value.int .u8) (S pre)) rfl (Kd.own_of_R (Kd.R_below HH5.out HBS.out)) As2 (sealOf k t p).length cs (encs (Value.int .u8) (sealOf k t p)) rfl (by rw [encs_length, Nat.mul_one]) (src_cells (Kd.R_reads' HOS.out).2.2) (fun u hu => by
              obtain ⟨q, _, rfl⟩ := List.mem_map.1 hu
              rfl) (by unfold maxLen; omega) (by omega) (by have := HBS.out.size; omega) ?_
           intro v' w4 hown hgrow _
           obtain ⟨A4, c4, rfl⟩ := own_slice hown
           have HOWN := Aside0.mk hown
           have HGROW := Aside0.mk hgrow
           obtain ⟨s1, s2, s3, s4⟩ := StI_step (by omega) (by have := HW1.out; omega) (by have := HW1.out; omega) (by have := HW1.out; omega) h1 h2 h3 h4 HH5.out HH6.out HBS.out hWs hown hgrow
           have hc4 := s1.cell
           have hf4 := s1.frozen
           have HS2 := Aside0.mk s2
           have HS3 := Aside0.mk s3
           have HS4 := Aside0.mk s4
           clear s2 s3 s4 hown hgrow)
        | fail)
      refine ⟨HS2.out.from _, HS3.out, ?_, ?_⟩
      · rw [HSX.out]
        exact HS4.out
      · exact HHB.out.trans HS3.out.1
    case done =>
      rintro D ys W hD rfl ⟨⟨v, h1, h2, h3, h4, h5, h6⟩, hB⟩ hK
      have hc1 := h1.cell
      have hDn : w.heap.size ≤ D := by have := HB0.out.size; omega
      have hr : r = S (List.finRange N) := by
        rw [HRR.out, HSS.out, chunks_fin 64 l0 N HNN.out, List.nil_append, List.flatMap_map]
      have HH5 := Aside0.mk h5
      have HHB := Aside0.mk hB
      have HR := Aside0.mk hr
      clear h5 hB hr
      gi_wp2
      refine ⟨by simp, .inl ⟨_, _, rfl, run_takeDeferred hK, ?_⟩⟩
      refine ⟨_, results_tmp rfl _ _ _, v, rfl, ?_, ?_⟩
      · rw [HR.out]
        exact R_noncells HH5.out (grownBy_putObj' W D _) (fun r e => by cases e; exact ⟨_, hK, rfl⟩)
      · exact HHB.out.grown (grownBy_putObj' W D _) HHB.out.size (fun k e => by cases e; exact hDn)
    case stop =>
      rintro D c pre W _ _ h _
      exact h.elim
  · rw [if_neg hlen] at h; cases h

/-! ### load -/
def mapO {α β : Type} (f : α → Option β) : List α → Option (List β)
  | [] => some []
  | p :: ps => (f p).bind fun o => (mapO f ps).bind fun os => some (o :: os)
theorem mapO_le {α β : Type} {f g : α → Option β} (h : ∀ x, LeO (f x) (g x)) : ∀ (ps : List α), LeO (mapO f ps) (mapO g ps)
  | [] => LeO.refl _
  | p :: ps => LeO.bind (h p) (fun _ => LeO.bind (mapO_le h ps) (fun _ => LeO.refl _))
def okP (o : List Int × Bool) : Bool := !o.2 || (decide (1 ≤ o.1.length) && decide (o.1.length ≤ 1000))
def loaA (os : List (List Int × Bool)) : List Int × Int := if os.all (·.2) then (os.flatMap (·.1), 0) else ([], 16)
def block_load.f (k : Nat) (l0 : List Int) : Option (List Int × Int) := if l0.length ≤ 1000000 then (crc_Table.f k).bind fun t => (mapO (fun p => block_open.f k p t) (chunks 68 l0)).bind fun os => if os.all okP then some (loaA os) else none else none
theorem block_load.mono : ∀ a0 k, LeO (block_load.f k a0) (block_load.f (k + 1) a0) := by
  intro a0 k
  unfold block_load.f
  exact LeO.ite (LeO.bind (crc_Table.mono _) (fun t => LeO.bind (mapO_le (fun p => block_open.mono _ _ _) _) (fun _ => LeO.refl _))) (LeO.refl _)
def opOf (k : Nat) (t p : List Int) : List Int × Bool := (block_open.f k p t).getD ([], false)
theorem mapO_all {k : Nat} {t : List Int} : ∀ (ps : List (List Int)) (os : List (List Int × Bool)), mapO (fun p => block_open.f k p t) ps = some os → (∀ p ∈ ps, block_open.f k p t = some (opOf k t p)) ∧ os = ps.map (opOf k t)
  | [], os, h => by
    simp only [mapO, Option.some.injEq] at h
    exact ⟨by simp, by simp [← h]⟩
  | p :: ps, os, h => by
    unfold mapO at h
    obtain ⟨o, ho, h⟩ := Option.bind_eq_some_iff.mp h
    obtain ⟨os', hos, h⟩ := Option.bind_eq_some_iff.mp h
    obtain ⟨g1, g2⟩ := mapO_all ps os' hos
    have e : opOf k t p = o := by unfold opOf; rw [ho]; rfl
    simp only [Option.some.injEq] at h
    refine ⟨fun q hq => ?_, by rw [← h, g2, List.map_cons, e]⟩
    rcases List.mem_cons.1 hq with rfl | hq
    · rw [e, ho]
    · exact g1 q hq
theorem keep_step {w W W1 w2 : World} {B b : Nat} {t : TypeId} {u v v' : Value} {S : List Int} (hb : Below W.heap.size W W1) (g5 : W1.ownsRow w.heap.size 5 1 v S.length (encs (Value.int .u8) S)) (hg : W1.grownBy w2 v.ownBlock) (hne : b ≠ B) (ht : t ≠ 5) (h : Boxed W b t u) :
    Boxed (w2.setCell ⟨B, 0, none⟩ v') b t u := by
  have k1 : Boxed W1 b t u := (hb.block _ h.lt).trans h
  have m1 := k1.kept hg (k1.not_row ht g5)
  exact m1.kept (grownBy_setCell' w2 B v') (by simpa using hne)
/-- What the loop's rounds know. -/
def LoI (w : World) (B2 B3 B4 B5 Bx : Nat) (tv sv nv : Value) (t S : List Int) (W : World) : Prop :=
  StI w B4 B5 Bx tv sv nv t S W ∧ Boxed W B2 23 (.slice none 0 0) ∧ Boxed W B3 25 (.int .i64 0)
theorem LoI_own {β : Type} (w : World) (B2 B3 B4 B5 Bx : Nat) (tv sv nv : Value) (t : List Int) (S : β → List Int) : Own (fun (s : β) W => LoI w B2 B3 B4 B5 Bx tv sv nv t (S s) W) := by
  rintro s X Y row ⟨h, h1, h2⟩ hg hr
  exact ⟨StI_own w B4 B5 Bx tv sv nv t S s X Y row h hg hr, Boxed_noncells h1 hg hr, Boxed_noncells h2 hg hr⟩
theorem load_results (w : World) (tmps : Array Value) (B2 B3 : Nat) (A : Option Addr) (n c : Nat) (z : Int) (h2 : tmps.getD 2 undef = .pointer (some ⟨B2, 0, none⟩)) (h3 : tmps.getD 3 undef = .pointer (some ⟨B3, 0, none⟩)) (c2 : w.cell? ⟨B2, 0, none⟩ = some (.slice A n c)) (c3 : w.cell? ⟨B3, 0, none⟩ = some (.int .i64 z)) :
    (results Try.f21 tmps).run Try.prog w = .ok (.tuple #[.slice A n c, .int .i64 z]) w := by
  have hres : Try.f21.results = #[.cell 2 23, .cell 3 25] := by kernel_rfl
  simp only [results, hres]
  have h2' : tmps[2]?.getD undef = .pointer (some ⟨B2, 0, none⟩) := by simpa using h2
  have h3' : tmps[3]?.getD undef = .pointer (some ⟨B3, 0, none⟩) := by simpa using h3
  simp [go_sem, h2', h3', c2, c3, Result.andThen]
set_option maxRecDepth 100000 in
set_option maxHeartbeats 4000000 in
theorem block_load.calls (k : Nat) (A0 : Option Addr) (c0 : Nat) (l0 : List Int) (r1 : List Int) (r2 : Int) (w : World) (hr0 : Kd.C (Kd.int .u8) w A0 l0.length l0) (hc0 : l0.length ≤ c0) (h : block_load.f k l0 = some (r1, r2)) :
    Calls Try.prog 21 #[.slice A0 l0.length c0] w fun e w' => ∃ v0_ : Value, e = .returned (.tuple #[v0_, .int .i64 r2]) ∧ Kd.R (Kd.int .u8) 5 w' w.heap.size (fun _ => True) v0_ r1 ∧ Below w.heap.size w w' := by
  unfold block_load.f at h
  by_cases hlen : l0.length ≤ 1000000
  · rw [if_pos hlen] at h
    obtain ⟨t, ht, h⟩ := Option.bind_eq_some_iff.mp h
    obtain ⟨os, hos, h⟩ := Option.bind_eq_some_iff.mp h
    obtain ⟨hall, hr⟩ := mapO_all _ _ hos
    by_cases hokp : os.all okP = true
    · rw [if_pos hokp] at h
      obtain ⟨N, hN⟩ : ∃ N, N = (l0.length + 68 - 1) / 68 := ⟨_, rfl⟩
      have hNj : ∀ j, j * 68 < l0.length ↔ j < N := by intro j; omega
      have HALL := Aside0.mk hall
      have HRR := Aside0.mk hr
      have HOKP := Aside0.mk hokp
      have HANS := Aside0.mk h
      have HT0 := Aside0.mk ht
      have HR0 := Aside0.mk hr0
      have HNJ := Aside0.mk hNj
      have HNN := Aside0.mk hN
      clear hall hr h ht hr0 hNj hN hokp hos
      refine (callsIn_wide (n := 5)).1 ?_
      refine callsIn_of_wp_marks Try.func21 rfl trivial ?_ rfl
      simp only [Try.ntmps21, List.size_toArray, List.length_cons, List.length_nil, Nat.reduceAdd, Nat.reduceSub, Array.replicate_succ, Array.replicate_zero, List.push_toArray, List.append_toArray, List.nil_append, List.cons_append]
      gi_wp2_with (first
        | (refine ⟨trivial, ?_⟩; gi_at_call 23; refine (callsIn_wide.2 (crc_Table.calls k t _ HT0.out)).mono ?_; rintro e w1 ⟨vt, rfl, hot, hbt⟩; obtain ⟨At, ct, et⟩ := Kd.R_slice hot; subst et; have HOT := Aside0.mk hot; have HBT := Aside0.mk hbt; clear hot hbt)
        | (refine ⟨trivial, ?_⟩; gi_at_call 24; refine (Chunk_in Fence.wide _ trivial rfl _ _ _ 68 (by omega) _).mono ?_; rintro e w2 ⟨rfl, rfl⟩))
      obtain ⟨w3, hw3⟩ : ∃ w3, ((w.alloc (Obj.cells #[Value.slice none 0 0] 23)).alloc (Obj.cells #[Value.int IntKind.i64 0] 25)).alloc (Obj.cells #[Value.slice none 0 0] 23) = w3 := ⟨_, rfl⟩
      rw [hw3] at HOT HBT
      have hsz : w3.heap.size = w.heap.size + 3 := by rw [← hw3]; simp
      have hB03 : Below w.heap.size w w3 := by
        rw [← hw3]
        exact (((Below.refl _ w).alloc (Nat.le_refl _) _).alloc (by simp) _).alloc (by simp; omega) _
      have b2' : Boxed w3 w.heap.size 23 (.slice none 0 0) := by
        rw [← hw3]
        exact ((Boxed.new w 23 _).alloc _).alloc _
      have b3' : Boxed w3 (w.heap.size + 1) 25 (.int .i64 0) := by
        rw [← hw3]
        have q := Boxed.new (w.alloc (Obj.cells #[Value.slice none 0 0] 23)) 25 (.int .i64 0)
        rw [World.size_alloc] at q
        exact q.alloc _
      have b4' : Boxed w3 (w.heap.size + 1 + 1) 23 (.slice none 0 0) := by
        rw [← hw3]
        have q := Boxed.new ((w.alloc (Obj.cells #[Value.slice none 0 0] 23)).alloc (Obj.cells #[Value.int IntKind.i64 0] 25)) 23 (.slice none 0 0)
        simp only [World.size_alloc] at q
        exact q
      have hB01 : Below w.heap.size w w1 := hB03.trans (HBT.out.mono (by omega))
      have up : ∀ {b : Nat} {ty : TypeId} {u : Value}, Boxed w3 b ty u → Boxed w1 b ty u := fun hb => (HBT.out.block _ hb.lt).trans hb
      obtain ⟨W0, hW0⟩ : ∃ W0, (((w1.alloc (Obj.cells #[Value.slice At t.length ct] 41)).alloc (Obj.cells #[Value.slice A0 l0.length c0] 23)).alloc (Obj.cells #[Value.int IntKind.i64 68] 3)) = W0 := ⟨_, rfl⟩
      rw [hW0]
      have hw1 : w.heap.size + 3 ≤ w1.heap.size := by have := HBT.out.size; rw [hsz] at this; exact this
      have hsz0 : W0.heap.size = w1.heap.size + 1 + 1 + 1 := by rw [← hW0]; simp
      have hB0 : Below w.heap.size w W0 := by
        rw [← hW0]
        exact ((hB01.alloc (by omega) _).alloc (by simp; omega) _).alloc (by simp; omega) _
      have b2 : Boxed W0 w.heap.size 23 (.slice none 0 0) := by
        rw [← hW0]
        exact (((up b2').alloc _).alloc _).alloc _
      have b3 : Boxed W0 (w.heap.size + 1) 25 (.int .i64 0) := by
        rw [← hW0]
        exact (((up b3').alloc _).alloc _).alloc _
      have b4 : Boxed W0 (w.heap.size + 1 + 1) 23 (.slice none 0 0) := by
        rw [← hW0]
        exact (((up b4').alloc _).alloc _).alloc _
      have b5 : Boxed W0 w1.heap.size 41 (.slice At t.length ct) := by
        rw [← hW0]
        exact ((Boxed.new w1 41 _).alloc _).alloc _
      have bx : Boxed W0 (w1.heap.size + 1) 23 (.slice A0 l0.length c0) := by
        rw [← hW0]
        have q := Boxed.new (w1.alloc (Obj.cells #[Value.slice At t.length ct] 41)) 23 (.slice A0 l0.length c0)
        rw [World.size_alloc] at q
        exact q.alloc _
      have by' : Boxed W0 (w1.heap.size + 1 + 1) 3 (.int .i64 68) := by
        rw [← hW0]
        have q := Boxed.new ((w1.alloc (Obj.cells #[Value.slice At t.length ct] 41)).alloc (Obj.cells #[Value.slice A0 l0.length c0] 23)) 3 (.int .i64 68)
        simp only [World.size_alloc] at q
        exact q
      have hT : Kd.R (Kd.int .u32) 52 W0 w.heap.size (fun _ => True) (.slice At t.length ct) t := by
        rw [← hW0]
        exact Kd.R_alloc (Kd.R_alloc (Kd.R_alloc (Kd.R_lower HOT.out (by omega)) _) _) _
      have hA : 0 < l0.length → ∃ ad, A0 = some ad := fun hp => by
        obtain ⟨ad, e, _⟩ := HR0.out.2.2 hp
        exact ⟨ad, e⟩
      obtain ⟨op, hop⟩ : ∃ op : Fin N → List Int × Bool, op = fun x => opOf k t ((l0.drop (x.val * 68)).take 68) := ⟨_, rfl⟩
      obtain ⟨S, hS⟩ : ∃ S : List (Fin N) → List Int, S = fun pre => pre.flatMap (fun x => (op x).1) := ⟨_, rfl⟩
      have hos : os = (List.finRange N).map op := by
        rw [HRR.out, chunks_fin 68 l0 N HNN.out, List.map_map, hop]
        rfl
      have hopx : ∀ x : Fin N, block_open.f k ((l0.drop (x.val * 68)).take 68) t = some (op x) ∧ okP (op x) = true := fun x => by
        have h1 := HALL.out _ (chunk_at 68 l0 N HNN.out x)
        rw [hop]
        refine ⟨h1, ?_⟩
        refine List.all_eq_true.1 HOKP.out _ ?_
        rw [hos, hop]
        exact List.mem_map.2 ⟨x, List.mem_finRange x, rfl⟩
      have HOPX := Aside0.mk hopx
      have HOS := Aside0.mk hos
      have HSS := Aside0.mk hS
      have HA := Aside0.mk hA
      have HB0 := Aside0.mk hB0
      have HT1 := Aside0.mk hT
      have HSZ0 := Aside0.mk hsz0
      have HW1 := Aside0.mk hw1
      clear hS hA hB0 hT hsz0 hw1 hW0 hB01 hsz hw3 hB03 b2' b3' b4' up hop hos hopx HBT HOT HALL HRR HOKP
      refine wpIn_rangeFunc_ownG rfl (by omega) (gf := 32) (lb := #[.pointer (some ⟨w1.heap.size + 1, 0, none⟩), .pointer (some ⟨w1.heap.size + 1 + 1, 0, none⟩)]) rfl trivial (enters_of Try.func32 (by kernel_rfl) rfl)
        (chunk_stops Fence.wide _ trivial rfl (by omega) (w1.heap.size + 1) w.heap.size A0 l0.length c0 68 N (by omega) (by omega) (by omega) hc0 HNJ.out HA.out W0 (by have := HSZ0.out; omega) bx.cell by'.cell)
        (fun h k => h.trans k)
        (fun W l o o' hl hW ho hw => ⟨belowK_b (w := W0) HB0.out.size W l o o' hl hW ho hw, World.putObj_heap_other (by have := HSZ0.out; omega), World.putObj_heap_other (by have := HSZ0.out; omega)⟩)
        (Below.refl _ _) (fun _ => rfl)
        (fun pre W => (LoI w w.heap.size (w.heap.size + 1) (w.heap.size + 1 + 1) w1.heap.size (w1.heap.size + 1) (.slice At t.length ct) (.slice A0 l0.length c0) (.int .i64 68) t (S pre) W ∧ Below w.heap.size w W) ∧ ∀ y ∈ pre, (op y).2 = true)
        (fun c pre W => (Boxed W w.heap.size 23 (.slice none 0 0) ∧ Boxed W (w.heap.size + 1) 25 (.int .i64 16) ∧ Below w.heap.size w W) ∧ c = .ret ∧ ∃ y : Fin N, (op y).2 = false)
        (fun s X Y row h hg hr => ⟨OwnFrom.and (Own.from (LoI_own w w.heap.size (w.heap.size + 1) (w.heap.size + 1 + 1) w1.heap.size (w1.heap.size + 1) (.slice At t.length ct) (.slice A0 l0.length c0) (.int .i64 68) t S) _) (ownFrom_below (Nat.le_refl _) HB0.out.size) s X Y row h.1 hg hr, h.2⟩)
        (fun c s X Y row h hg hr => ⟨⟨Boxed_noncells h.1.1 hg (fun r e => (hr r e).2), Boxed_noncells h.1.2.1 hg (fun r e => (hr r e).2), ownFrom_below (Nat.le_refl _) HB0.out.size s X Y row h.1.2.2 hg hr⟩, h.2⟩)
        ⟨⟨⟨⟨_, b4, b5, bx, by', by rw [HSS.out]; exact Kd.R_nil _ _ _ _ _, HT1.out⟩, b2, b3⟩, HB0.out⟩, by simp⟩
        (fun x => { tmps := #[Value.slice A0 l0.length c0, undef, Value.pointer (some { block := w.heap.size, off := 0 }), Value.pointer (some { block := w.heap.size + 1, off := 0 }), Value.pointer (some { block := w.heap.size + 1 + 1, off := 0 }), Value.pointer (some { block := w1.heap.size, off := 0 }), pvA A0 l0.length 68 (x.val * 68), undef, undef, Value.slice At t.length ct, Value.slice A0 l0.length c0,
            Value.func (Fn.func 32) #[] #[Value.pointer (some { block := w1.heap.size + 1, off := 0 }), Value.pointer (some { block := w1.heap.size + 1 + 1, off := 0 })],
            pvA A0 l0.length 68 (x.val * 68), undef, undef, undef, undef, undef, undef, undef, undef, undef, undef, undef, undef], defers := [] }) ?assign ?body ?done ?stop
      case assign =>
        intro l x W K hK
        gi_wp2
        exact hK
      case body =>
        rintro l pre x W ⟨⟨⟨⟨v, h1, h2, h3, h4, h5, h6⟩, h7, h8⟩, hB⟩, hpok⟩ hpre
        have hx : x.val * 68 < l0.length := (HNJ.out _).2 x.isLt
        obtain ⟨ad, rfl⟩ := HA.out (by omega)
        obtain ⟨p, hp⟩ : ∃ p, p = (l0.drop (x.val * 68)).take 68 := ⟨_, rfl⟩
        have hpl : min 68 (l0.length - x.val * 68) = p.length := by rw [hp]; simp
        simp only [pvA, pv]
        rw [hpl]
        have hpc : Kd.C (Kd.int .u8) W (some (ad.add (x.val * 68))) p.length p := by
          rw [hp]
          exact Kd.C_below (piece_C HR0.out hx) hB
        obtain ⟨hse, hok⟩ := HOPX.out x
        rw [← hp] at hse
        have hSb : (S pre).length ≤ pre.length * 1000 := by
          rw [HSS.out]
          refine flat_bound _ 1000 _ (fun y hy => ?_)
          have g := (HOPX.out y).2
          rw [okP, hpok y hy] at g
          simp at g
          exact g.2
        have hN' : N ≤ 14706 := by have := HNN.out; omega
        have hWs : w.heap.size ≤ W.heap.size := hB.size
        have hSx : S (pre ++ [x]) = S pre ++ (op x).1 := by
          rw [HSS.out]
          simp
        have hSb2 : (S pre).length ≤ 14706000 := Nat.le_trans hSb (by omega)
        obtain ⟨q, hq⟩ : ∃ q, q = (op x).1 := ⟨_, rfl⟩
        obtain ⟨b, hb⟩ : ∃ b, b = (op x).2 := ⟨_, rfl⟩
        have hse2 : block_open.f k p t = some (q, b) := by rw [hse, hq, hb]
        have hokq : b = true → 1 ≤ q.length ∧ q.length ≤ 1000 := fun e => by
          rw [okP, ← hq, ← hb, e] at hok
          simpa using hok
        have HOKQ := Aside0.mk hokq
        have HPOK := Aside0.mk hpok
        have HBB := Aside0.mk hb
        rw [← hq] at hSx
        have HSX := Aside0.mk hSx
        have HHB := Aside0.mk hB
        have HH5 := Aside0.mk h5
        have HH6 := Aside0.mk h6
        have HSE := Aside0.mk hse2
        have HPC := Aside0.mk hpc
        have hc1 := h1.cell
        have hc2 := h2.cell
        have h23 : w.heap.size < w.heap.size + 1 := Nat.lt_succ_self _
        clear hSx hB h5 h6 hse hse2 hpc hp hpl hSb hx hq hb hokq hpok hok
        cases b with
        | true =>
          obtain ⟨hs1, hs2⟩ := HOKQ.out rfl
          gi_wp2_with (first
            | (refine ⟨trivial, ?_⟩; gi_at_call 26; refine (CallsIn.inRound l (callsIn_wide.2 (block_open.calls k _ _ p _ _ t q true _ HPC.out (Nat.le_refl _) (Kd.R_reads' HH6.out).2.2 (Kd.R_reads' HH6.out).2.1 HSE.out))).mono ?_; rintro e W1 ⟨vs, rfl, hos, hbs⟩; obtain ⟨As, cs, es⟩ := Kd.R_slice hos; subst es; have HQS := Aside0.mk hos; have HBS := Aside0.mk hbs; have hc3 := Boxed.cell (show Boxed W1 (w.heap.size + 1 + 1) 23 v from (hbs.block _ h1.lt).trans h1); clear hos hbs)
            | (gi_at_builtin; obtain ⟨As2, rfl⟩ : ∃ As2, As = some As2 := (by
                obtain ⟨a', ea, _⟩ := (Kd.R_reads' HQS.out).2.2.2.2 (by omega)
                exact ⟨a', ea⟩)
               refine wpListIn_append_own _ rfl (.tmp 21) (.tmp 22) 23 rfl w.heap.size 5 _ (.int .u8 0) 1 1 Try.underlying23 rfl rfl rfl rfl (by decide) (by decide) v (S pre).length (encs (Value.int .u8) (S pre)) rfl (Kd.own_of_R (Kd.R_below HH5.out HBS.out)) As2 q.length cs (encs (Value.int .u8) q) rfl (by rw [encs_length, Nat.mul_one]) (src_cells (Kd.R_reads' HQS.out).2.2) (fun u hu => by
                  obtain ⟨q, _, rfl⟩ := List.mem_map.1 hu
                  rfl) (by unfold maxLen; omega) (by omega) (by have := HBS.out.size; omega) ?_
               intro v' w4 hown hgrow _
               obtain ⟨A4, c4, rfl⟩ := own_slice hown
               have HG5 := Aside0.mk (Kd.own_of_R (Kd.R_below HH5.out HBS.out))
               obtain ⟨s1, s2, s3, s4⟩ := StI_step (by omega) (by have := HW1.out; omega) (by have := HW1.out; omega) (by have := HW1.out; omega) h1 h2 h3 h4 HH5.out HH6.out HBS.out hWs hown hgrow
               have HT2 := Aside0.mk (keep_step (B := w.heap.size + 1 + 1) (v' := Value.slice A4 ((S pre).length + q.length) c4) HBS.out HG5.out hgrow (by omega) (by decide) h7)
               have HT3 := Aside0.mk (keep_step (B := w.heap.size + 1 + 1) (v' := Value.slice A4 ((S pre).length + q.length) c4) HBS.out HG5.out hgrow (by omega) (by decide) h8)
               have hc4 := s1.cell
               have hf4 := s1.frozen
               have HS2 := Aside0.mk s2
               have HS3 := Aside0.mk s3
               have HS4 := Aside0.mk s4
               clear s2 s3 s4 hown hgrow)
            | fail)
          refine ⟨HS2.out.from _, HS3.out, ⟨⟨?_, HT2.out, HT3.out⟩, ?_⟩, ?_⟩
          · rw [HSX.out]
            exact HS4.out
          · exact HHB.out.trans HS3.out.1
          · intro y hy
            rcases List.mem_append.1 hy with hy | hy
            · exact HPOK.out y hy
            · obtain rfl := List.mem_singleton.1 hy
              exact HBB.out.symm
        | false =>
          gi_wp2_with (first
            | (refine ⟨trivial, ?_⟩; gi_at_call 26; refine (CallsIn.inRound l (callsIn_wide.2 (block_open.calls k _ _ p _ _ t q false _ HPC.out (Nat.le_refl _) (Kd.R_reads' HH6.out).2.2 (Kd.R_reads' HH6.out).2.1 HSE.out))).mono ?_; rintro e W1 ⟨vs, rfl, hos, hbs⟩; have HBS := Aside0.mk hbs
               have k2 : Boxed W1 w.heap.size 23 _ := (hbs.block _ h7.lt).trans h7
               have k3 : Boxed W1 (w.heap.size + 1) 25 _ := (hbs.block _ h8.lt).trans h8
               have hc3 := k2.cell
               have hf3 := k2.frozen
               have k3' := k3.kept (grownBy_setCell' W1 w.heap.size (Value.slice none 0 0)) (by simp)
               have hc4 := k3'.cell
               have hf4 := k3'.frozen
               clear hos hbs)
            | fail)
          refine ⟨(((keepsOthers_below HBS.out).trans (KeepsOthers.setCell _ _ _)).trans (KeepsOthers.setCell _ _ _)).from _, ⟨?_, ?_, ?_⟩, rfl, x, HBB.out.symm⟩
          · exact (k2.set _).kept (grownBy_setCell' _ _ _) (by simp)
          · exact k3'.set _
          · exact HHB.out.trans (((HBS.out.mono hWs).setCell (p := ⟨w.heap.size, 0, none⟩) (Nat.le_refl _) _).setCell (p := ⟨w.heap.size + 1, 0, none⟩) (by show _ ≤ w.heap.size + 1; omega) _)
      case done =>
        rintro D ys W hD rfl ⟨⟨⟨⟨v, h1, h2, h3, h4, h5, h6⟩, h7, h8⟩, hB⟩, hpok⟩ hK
        have hall : os.all (·.2) = true := by
          rw [HOS.out]
          simp only [List.all_map, List.all_eq_true]
          intro y _
          exact hpok y (List.mem_finRange y)
        have hans : r1 = S (List.finRange N) ∧ r2 = 0 := by
          have := HANS.out
          unfold loaA at this
          rw [if_pos hall] at this
          simp only [Option.some.injEq, Prod.mk.injEq] at this
          refine ⟨?_, this.2.symm⟩
          rw [← this.1, HOS.out, HSS.out, List.flatMap_map]
        obtain ⟨hr1, rfl⟩ := hans
        obtain ⟨Av, cv, rfl⟩ := Kd.R_slice h5
        have hc1 := h1.cell
        have hc7 := h7.cell
        have hf7 := h7.frozen
        have h8' := h8.kept (grownBy_setCell' W w.heap.size (Value.slice Av (S (List.finRange N)).length cv)) (by simp)
        have hc8 := h8'.cell
        have hf8 := h8'.frozen
        have hDn : w.heap.size + 1 < D := by have := HW1.out; have := HSZ0.out; omega
        have HH5 := Aside0.mk h5
        have HHB := Aside0.mk hB
        have HR := Aside0.mk hr1
        clear h5 hB hr1 hall hpok h8' 
        gi_wp2
        have q8 := h8.kept (grownBy_setCell' W w.heap.size (Value.slice Av (S (List.finRange N)).length cv)) (by simp)
        have q7 := (h7.set (.slice Av (S (List.finRange N)).length cv)).kept (grownBy_setCell' _ (w.heap.size + 1) (Value.int .i64 0)) (by simp)
        have q8' := q8.set (.int .i64 0)
        obtain ⟨W5, hW5⟩ : ∃ W5, (W.setCell { block := w.heap.size, off := 0 } (Value.slice Av (S (List.finRange N)).length cv)).setCell { block := w.heap.size + 1, off := 0 } (Value.int IntKind.i64 0) = W5 := ⟨_, rfl⟩
        have g1 := grownBy_setCell' W w.heap.size (Value.slice Av (S (List.finRange N)).length cv)
        have g2 := grownBy_setCell' (W.setCell { block := w.heap.size, off := 0 } (Value.slice Av (S (List.finRange N)).length cv)) (w.heap.size + 1) (Value.int IntKind.i64 0)
        have hDW : D < W.heap.size := (Array.getElem?_eq_some_iff.1 hK).1
        have hK5 : W5.heap[D]? = some (Obj.deferred (some [])) := by
          rw [← hW5]
          exact ((g2.block D (by simpa using hDW) (by simp; omega)).trans (g1.block D hDW (by simp; omega))).trans hK
        have hR5 : Kd.R (Kd.int .u8) 5 W5 w.heap.size (fun _ => True) (.slice Av (S (List.finRange N)).length cv) (S (List.finRange N)) := by
          rw [← hW5]
          have o1 := Kd.own_of_R HH5.out
          have o2 := own_other o1 g1 (.inr (h7.not_row (by decide) o1).symm)
          exact Kd.R_of_own (own_other o2 g2 (.inr (q8.not_row (by decide) o2).symm)) (fun _ _ => trivial)
        have hB5 : Below w.heap.size w W5 := by
          rw [← hW5]
          exact (HHB.out.setCell (p := ⟨w.heap.size, 0, none⟩) (Nat.le_refl _) _).setCell (p := ⟨w.heap.size + 1, 0, none⟩) (by show _ ≤ w.heap.size + 1; omega) _
        rw [hW5] at q7 q8' ⊢
        refine ⟨by simp, .inl ⟨_, _, rfl, run_takeDeferred hK5, ?_⟩⟩
        have gD := grownBy_putObj' W5 D (.deferred none)
        have hn : ∀ r, some D = some r → ∃ o : Obj, W5.heap[r]? = some o ∧ o.isCells = false := fun r e => by cases e; exact ⟨_, hK5, rfl⟩
        refine ⟨_, load_results _ _ w.heap.size (w.heap.size + 1) Av (S (List.finRange N)).length cv 0 rfl rfl (Boxed_noncells q7 gD hn).cell (Boxed_noncells q8' gD hn).cell, _, rfl, ?_, ?_⟩
        · rw [HR.out]
          exact R_noncells hR5 gD hn
        · exact hB5.grown gD hB5.size (fun k e => by cases e; omega)
      case stop =>
        rintro D c pre W hD _ ⟨⟨h7, h8, hB⟩, rfl, y, hy⟩ hK
        have hans : r1 = [] ∧ r2 = 16 := by
          have := HANS.out
          unfold loaA at this
          rw [if_neg (by
            rw [HOS.out]
            simp only [List.all_map, List.all_eq_true]
            intro hh
            have := hh y (List.mem_finRange y)
            simp [hy] at this)] at this
          simp only [Option.some.injEq, Prod.mk.injEq] at this
          exact ⟨this.1.symm, this.2.symm⟩
        obtain ⟨rfl, rfl⟩ := hans
        have hDn : w.heap.size + 1 < D := by have := HW1.out; have := HSZ0.out; omega
        gi_wp2
        refine ⟨by simp, .inl ⟨_, _, rfl, run_takeDeferred hK, ?_⟩⟩
        have gD := grownBy_putObj' W D (.deferred none)
        have hn : ∀ r, some D = some r → ∃ o : Obj, W.heap[r]? = some o ∧ o.isCells = false := fun r e => by cases e; exact ⟨_, hK, rfl⟩
        refine ⟨_, load_results _ _ w.heap.size (w.heap.size + 1) none 0 0 16 rfl rfl (Boxed_noncells h7 gD hn).cell (Boxed_noncells h8 gD hn).cell, _, rfl, Kd.R_nil _ _ _ _ _, ?_⟩
        exact hB.grown gD hB.size (fun k e => by cases e; omega)
    · rw [if_neg hokp] at h; cases h
  · rw [if_neg hlen] at h; cases h

end Go.Proofs.Ytkbdlgohmafglaa.PA
