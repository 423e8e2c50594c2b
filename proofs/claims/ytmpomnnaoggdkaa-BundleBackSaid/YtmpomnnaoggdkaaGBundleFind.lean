-- contracts proved by hand
import Derived.Test.YtmpomnnaoggdkaaPAx0
import Derived.Test.YtmpomnnaoggdkaaPAx7
namespace Go.Proofs.Ytmpomnnaoggdkaa.PA
open Go.RowKit Go.Proofs.YtmpomnnaoggdkaaW.PrintWords Go.Proofs.YtmpomnnaoggdkaaW.PrintLast Go.Proofs.YtmpomnnaoggdkaaW.PrintMore
attribute [local go_sem] max2_int min2_int max_two min_two max_three min_three max_four min_four str_geq str_lss str_gtr str_leq
set_option linter.unusedVariables false
set_option linter.unusedSimpArgs false
/-! bundle.Find, with the search that it hands a closure: by hand -/
set_option maxHeartbeats 1000000 in
theorem Find_1.calls (x : S61) (b : Nat) (name : ByteArray) (w : World) (hb : b < w.heap.size) (hc : w.cell? ⟨b, 0, none⟩ = some (.string name)) :
    Calls Try.prog 27 #[.agg #[.int .i64 x.f0, .string x.f1, .int .i64 x.f2], .pointer (some ⟨b, 0, none⟩)] w fun e w' => e = .returned (.bool (x.f1.toList == name.toList)) ∧ Below w.heap.size w w' := by
  have huE := Try.underlying61
  go_enter Try.func27, Try.ntmps27
  go_wp2
  go_ret
  exact ⟨rfl, (Below.refl _ _).alloc (Nat.le_refl _) _⟩
def isName (name : ByteArray) (x : S61) : Bool := x.f1.toList == name.toList
def idxE (l : List S61) (name : ByteArray) : Int := if l.findIdx (isName name) < l.length then (l.findIdx (isName name) : Int) else -1
theorem findIdx_next {l : List S61} {p : S61 → Bool} {i : Nat} (h : i < l.length) (hi : i ≤ l.findIdx p) (hp : p (rd_T61 l i) = false) : i + 1 ≤ l.findIdx p := by
  rcases Nat.lt_or_ge i (l.findIdx p) with h1 | h1
  · omega
  · have e : l.findIdx p = i := by omega
    have h2 := List.findIdx_getElem (xs := l) (p := p) (w := by omega)
    have h3 : rd_T61 l i = l[i] := by unfold rd_T61; rw [Int.toNat_natCast, List.getD_eq_getElem?_getD, List.getElem?_eq_getElem h]; rfl
    simp only [e] at h2
    rw [h3, h2] at hp
    exact absurd hp (by decide)
theorem findIdx_here {l : List S61} {p : S61 → Bool} {i : Nat} (h : i < l.length) (hi : i ≤ l.findIdx p) (hp : p (rd_T61 l i) = true) : l.findIdx p = i := by
  have h3 : rd_T61 l i = l[i] := by unfold rd_T61; rw [Int.toNat_natCast, List.getD_eq_getElem?_getD, List.getElem?_eq_getElem h]; rfl
  rw [h3] at hp
  have := List.not_of_lt_findIdx (p := p) (xs := l) (i := i)
  rcases Nat.lt_or_ge i (l.findIdx p) with h1 | h1
  · have := this h1
    rw [hp] at this
    exact absurd this (by decide)
  · omega
set_option maxHeartbeats 1000000 in
theorem Index.calls (A : Option Addr) (c : Nat) (l : List S61) (b : Nat) (name : ByteArray) (w : World) (hr : Kd.C k61 w A l.length l) (hb : b < w.heap.size) (hc : w.cell? ⟨b, 0, none⟩ = some (.string name)) :
    Calls Try.prog 26 #[.slice A l.length c, .func (.func 27) #[] #[.pointer (some ⟨b, 0, none⟩)]] w fun e w' => e = .returned (.int .i64 (idxE l name)) ∧ Below w.heap.size w w' := by
  have huE := Try.underlying61
  have hlc : l.length ≤ 9223372036854775807 := hr.2.1
  have HR := Aside0.mk hr
  have HC := Aside0.mk hc
  clear hr hc
  go_enter Try.func26, Try.ntmps26
  go_wp2
  go_loopw [8] (fun v8 w' => ∃ i : Nat, v8 = .int .i64 i ∧ Aside0 (i ≤ l.findIdx (isName name)) ∧ i ≤ l.length ∧ Aside0 (Below w.heap.size w w')) (fun v8 _ => l.length - (intOf v8).toNat)
  case atStart => exact ⟨0, rfl, ⟨Nat.zero_le _⟩, Nat.zero_le _, ⟨Below.refl _ _⟩⟩
  case round =>
    obtain ⟨i, rfl, HI, hil, HB⟩ := hrel
    by_cases hlt : i < l.length
    · have hcw := (HB.out.cell (p := ⟨b, 0, none⟩) hb).trans HC.out
      have p1 : 0 ≤ (i : Int) := by omega
      have q1 : (i : Int) < (l.length : Int) := by omega
      obtain ⟨ad, e1, hx0, hx1, hx2⟩ := at_T61 (Kd.C_below HR.out HB.out) i p1 q1
      cases e1
      rw [Int.toNat_natCast] at hx0 hx1 hx2
      have HCW := Aside0.mk hcw
      have hbw := Nat.lt_of_lt_of_le hb HB.out.size
      clear hcw
      cases hn : isName name (rd_T61 l i) with
      | true =>
        have HN := Aside0.mk hn
        clear hn
        go_wp2_with (first | ((with_reducible refine gate_callv (N := 16) rfl rfl ?_); refine goesV_ (some 16) rfl rfl Try.func27 (by kernel_rfl) rfl #[] #[.pointer (some ⟨b, 0, none⟩)] #[.agg #[.int .i64 (rd_T61 l i).f0, .string (rd_T61 l i).f1, .int .i64 (rd_T61 l i).f2], .pointer (some ⟨b, 0, none⟩)] rfl rfl (by (try simp only [List.map_toArray, List.map_cons, List.map_nil]); first | done | rfl) ?_; (with_reducible refine (Find_1.calls (rd_T61 l i) b name _ hbw HCW.out).mono ?_); rintro e w2 ⟨rfl, hb2⟩; have HB2 := Aside0.mk hb2; clear hb2; rw [show ((rd_T61 l i).f1.toList == name.toList) = true from HN.out]; refine ⟨_, rfl, ?_⟩))
        go_ret
        exact ⟨by rw [idxE, findIdx_here hlt HI.out HN.out, if_pos hlt]; rfl, HB.out.trans (HB2.out.mono HB.out.size)⟩
      | false =>
        have HN := Aside0.mk hn
        clear hn
        go_wp2_with (first | ((with_reducible refine gate_callv (N := 16) rfl rfl ?_); refine goesV_ (some 16) rfl rfl Try.func27 (by kernel_rfl) rfl #[] #[.pointer (some ⟨b, 0, none⟩)] #[.agg #[.int .i64 (rd_T61 l i).f0, .string (rd_T61 l i).f1, .int .i64 (rd_T61 l i).f2], .pointer (some ⟨b, 0, none⟩)] rfl rfl (by (try simp only [List.map_toArray, List.map_cons, List.map_nil]); first | done | rfl) ?_; (with_reducible refine (Find_1.calls (rd_T61 l i) b name _ hbw HCW.out).mono ?_); rintro e w2 ⟨rfl, hb2⟩; have HB2 := Aside0.mk hb2; clear hb2; rw [show ((rd_T61 l i).f1.toList == name.toList) = false from HN.out]; refine ⟨_, rfl, ?_⟩))
        go_roundw
        case rel => exact ⟨i + 1, by go_num, ⟨findIdx_next hlt HI.out HN.out⟩, by omega, ⟨HB.out.trans (HB2.out.mono HB.out.size)⟩⟩
        case measure => simp [intOf]; omega
    · obtain rfl : i = l.length := by omega
      go_wp2
      go_ret
      exact ⟨by rw [idxE, if_neg (by have := HI.out; omega)]; rfl, HB.out⟩

def bundle_Find.f (k : Nat) (l0 : List Int) (a1 : ByteArray) : Option (ByteArray × Int) :=
  (bundle_list.f k l0).bind fun t => if t.2.2 = 0 then (bundle_Scan.f k l0).bind fun s =>
    if idxE t.1 a1 < 0 then some ((⟨#[]⟩ : ByteArray), 6) else if idxE t.1 a1 ≥ (s.1.length : Int) then some ((⟨#[]⟩ : ByteArray), 16)
    else if 0 < (rd_T45 s.1 (idxE t.1 a1)).f1.length then if 1 < (rd_L1 (rd_T45 s.1 (idxE t.1 a1)).f1 0).length then some (rdOf ByteArray.empty (rd_L1 (rd_T45 s.1 (idxE t.1 a1)).f1 0) 1, 0) else none else none
  else some ((⟨#[]⟩ : ByteArray), t.2.2)
theorem bundle_Find.mono : ∀ a0 a1 k, LeO (bundle_Find.f k a0 a1) (bundle_Find.f (k + 1) a0 a1) := by
  intro a0 a1 k
  unfold bundle_Find.f
  refine LeO.bind (bundle_list.mono _ _) (fun _ => LeO.ite (LeO.bind (bundle_Scan.mono _ _) (fun _ => LeO.refl _)) (LeO.refl _))
set_option maxHeartbeats 2000000 in
theorem bundle_Find.calls (k : Nat) (A0 : Option Addr) (c0 : Nat) (l0 : List Int) (a1 : ByteArray) (r1 : ByteArray) (r2 : Int) (w : World) (hr0 : Kd.C (Kd.int .u8) w A0 l0.length l0) (hc0 : l0.length ≤ c0) (h : bundle_Find.f k l0 a1 = some (r1, r2)) :
    Calls Try.prog 10 #[.slice A0 l0.length c0, .string a1] w fun e w' => e = .returned (.tuple #[.string r1, .int .i64 r2]) ∧ Below w.heap.size w w' := by
  have huE := Try.underlying61
  have huP := Try.underlying45
  have HR0 := Aside0.mk hr0
  have HC0 := Aside0.mk hc0
  clear hr0 hc0
  have hB0 : Below w.heap.size w (w.alloc (.cells #[.string a1] 9)) := (Below.refl _ _).alloc (Nat.le_refl _) _
  have hbox0 : (w.alloc (.cells #[.string a1] 9)).cell? ⟨w.heap.size, 0, none⟩ = some (.string a1) := by
    have e := heap_alloc_new w (Obj.cells #[.string a1] 9)
    simp only [World.cell?, e]; rfl
  unfold bundle_Find.f at h
  obtain ⟨t, ht, h⟩ := Option.bind_eq_some_iff.mp h
  obtain ⟨t1, t2, t3⟩ := t
  have HT := Aside0.mk ht
  have HB0 := Aside0.mk hB0
  have HX0 := Aside0.mk hbox0
  clear ht hB0 hbox0
  dsimp only at h
  by_cases h3 : t3 = 0
  · rw [if_pos h3] at h
    subst h3
    obtain ⟨s, hs, h⟩ := Option.bind_eq_some_iff.mp h
    obtain ⟨s1, s2, s3⟩ := s
    have HS := Aside0.mk hs
    clear hs
    dsimp only at h
    obtain ⟨j, hj⟩ : ∃ j, idxE t1 a1 = j := ⟨_, rfl⟩
    rw [hj] at h
    have HJ := Aside0.mk hj
    clear hj
    by_cases d1 : j < 0
    · rw [if_pos d1] at h
      obtain ⟨rfl, rfl⟩ : (⟨#[]⟩ : ByteArray) = r1 ∧ (6 : Int) = r2 := by simpa using h
      clear h
      go_enter Try.func10, Try.ntmps10
      go_wp2_with (first | (go_at_call 25; (with_reducible refine (bundle_list.calls k _ _ l0 t1 t2 _ _ ?side1 ?side2 HT.out).mono ?_); (case side1 => exact Kd.C_below HR0.out HB0.out); (case side2 => exact HC0.out); rintro e w1 ⟨v1, rfl, ho1, hb1⟩; obtain ⟨A1, c1, e1⟩ := Kd.R_slice ho1; subst e1; have HO1 := Aside0.mk ho1; have HB1 := Aside0.mk (HB0.out.trans (hb1.mono HB0.out.size)); have HX1 := Aside0.mk ((hb1.cell (p := ⟨w.heap.size, 0, none⟩) (by simp)).trans HX0.out); clear ho1 hb1) | (go_at_call 11; (with_reducible refine (bundle_Scan.calls k _ _ l0 s1 s2 s3 _ ?side1 ?side2 HS.out).mono ?_); (case side1 => exact Kd.C_below HR0.out HB1.out); (case side2 => exact HC0.out); rintro e w2 ⟨v2, rfl, ho2, hb2⟩; obtain ⟨A2, c2, e2⟩ := Kd.N_slice ho2; subst e2; have HO2 := Aside0.mk ho2; have HB2 := Aside0.mk (HB1.out.trans (hb2.mono HB1.out.size)); have HX2 := Aside0.mk ((hb2.cell (p := ⟨w.heap.size, 0, none⟩) (World.block_lt_of_cell? _ _ HX1.out)).trans HX1.out); have HO1' := Aside0.mk (Kd.R_below HO1.out hb2); clear ho2 hb2) | (go_at_call 26; (with_reducible refine (Index.calls _ _ t1 w.heap.size a1 _ (Kd.R_reads' HO1'.out).2.2 (World.block_lt_of_cell? _ _ HX2.out) HX2.out).mono ?_); rintro e w3 ⟨rfl, hb3⟩; rw [HJ.out]; have HB3 := Aside0.mk (HB2.out.trans (hb3.mono HB2.out.size)); have HO3 := Aside0.mk (Kd.N_below HO2.out hb3); clear hb3))
      first | go_ret2 | exact bodyPost_ret (results_tmp2 rfl _ _ _) rfl ⟨rfl, HB3.out⟩
      exact ⟨rfl, HB3.out⟩
    · rw [if_neg d1] at h
      by_cases d2 : j ≥ (s1.length : Int)
      · rw [if_pos d2] at h
        obtain ⟨rfl, rfl⟩ : (⟨#[]⟩ : ByteArray) = r1 ∧ (16 : Int) = r2 := by simpa using h
        clear h
        go_enter Try.func10, Try.ntmps10
        go_wp2_with (first | (go_at_call 25; (with_reducible refine (bundle_list.calls k _ _ l0 t1 t2 _ _ ?side1 ?side2 HT.out).mono ?_); (case side1 => exact Kd.C_below HR0.out HB0.out); (case side2 => exact HC0.out); rintro e w1 ⟨v1, rfl, ho1, hb1⟩; obtain ⟨A1, c1, e1⟩ := Kd.R_slice ho1; subst e1; have HO1 := Aside0.mk ho1; have HB1 := Aside0.mk (HB0.out.trans (hb1.mono HB0.out.size)); have HX1 := Aside0.mk ((hb1.cell (p := ⟨w.heap.size, 0, none⟩) (by simp)).trans HX0.out); clear ho1 hb1) | (go_at_call 11; (with_reducible refine (bundle_Scan.calls k _ _ l0 s1 s2 s3 _ ?side1 ?side2 HS.out).mono ?_); (case side1 => exact Kd.C_below HR0.out HB1.out); (case side2 => exact HC0.out); rintro e w2 ⟨v2, rfl, ho2, hb2⟩; obtain ⟨A2, c2, e2⟩ := Kd.N_slice ho2; subst e2; have HO2 := Aside0.mk ho2; have HB2 := Aside0.mk (HB1.out.trans (hb2.mono HB1.out.size)); have HX2 := Aside0.mk ((hb2.cell (p := ⟨w.heap.size, 0, none⟩) (World.block_lt_of_cell? _ _ HX1.out)).trans HX1.out); have HO1' := Aside0.mk (Kd.R_below HO1.out hb2); clear ho2 hb2) | (go_at_call 26; (with_reducible refine (Index.calls _ _ t1 w.heap.size a1 _ (Kd.R_reads' HO1'.out).2.2 (World.block_lt_of_cell? _ _ HX2.out) HX2.out).mono ?_); rintro e w3 ⟨rfl, hb3⟩; rw [HJ.out]; have HB3 := Aside0.mk (HB2.out.trans (hb3.mono HB2.out.size)); have HO3 := Aside0.mk (Kd.N_below HO2.out hb3); clear hb3))
        first | go_ret2 | exact bodyPost_ret (results_tmp2 rfl _ _ _) rfl ⟨rfl, HB3.out⟩
        exact ⟨rfl, HB3.out⟩
      · rw [if_neg d2] at h
        by_cases d3 : 0 < (rd_T45 s1 j).f1.length
        · rw [if_pos d3] at h
          by_cases d4 : 1 < (rd_L1 (rd_T45 s1 j).f1 0).length
          · rw [if_pos d4] at h
            obtain ⟨rfl, rfl⟩ : rdOf ByteArray.empty (rd_L1 (rd_T45 s1 j).f1 0) 1 = r1 ∧ (0 : Int) = r2 := by simpa using h
            clear h
            go_enter Try.func10, Try.ntmps10
            go_wp2_with (first | (go_at_call 25; (with_reducible refine (bundle_list.calls k _ _ l0 t1 t2 _ _ ?side1 ?side2 HT.out).mono ?_); (case side1 => exact Kd.C_below HR0.out HB0.out); (case side2 => exact HC0.out); rintro e w1 ⟨v1, rfl, ho1, hb1⟩; obtain ⟨A1, c1, e1⟩ := Kd.R_slice ho1; subst e1; have HO1 := Aside0.mk ho1; have HB1 := Aside0.mk (HB0.out.trans (hb1.mono HB0.out.size)); have HX1 := Aside0.mk ((hb1.cell (p := ⟨w.heap.size, 0, none⟩) (by simp)).trans HX0.out); clear ho1 hb1) | (go_at_call 11; (with_reducible refine (bundle_Scan.calls k _ _ l0 s1 s2 s3 _ ?side1 ?side2 HS.out).mono ?_); (case side1 => exact Kd.C_below HR0.out HB1.out); (case side2 => exact HC0.out); rintro e w2 ⟨v2, rfl, ho2, hb2⟩; obtain ⟨A2, c2, e2⟩ := Kd.N_slice ho2; subst e2; have HO2 := Aside0.mk ho2; have HB2 := Aside0.mk (HB1.out.trans (hb2.mono HB1.out.size)); have HX2 := Aside0.mk ((hb2.cell (p := ⟨w.heap.size, 0, none⟩) (World.block_lt_of_cell? _ _ HX1.out)).trans HX1.out); have HO1' := Aside0.mk (Kd.R_below HO1.out hb2); clear ho2 hb2) | ((go_at_call 26; (with_reducible refine (Index.calls _ _ t1 w.heap.size a1 _ (Kd.R_reads' HO1'.out).2.2 (World.block_lt_of_cell? _ _ HX2.out) HX2.out).mono ?_); rintro e w3 ⟨rfl, hb3⟩; rw [HJ.out]; have HB3 := Aside0.mk (HB2.out.trans (hb3.mono HB2.out.size)); have HO3 := Aside0.mk (Kd.N_below HO2.out hb3); clear hb3); have p1 : 0 ≤ j := (by omega); have q1 : j < (s1.length : Int) := (by omega); obtain ⟨ad, A5, c5, e5, hx5_0, hx5_1, hl5, hi5⟩ := at_T45 (Kd.N_reads' HO3.out).2.2 j p1 q1; cases e5; obtain ⟨ad6, A6, c6, e6, hx6, hl6, hi6⟩ := at_L1 hi5 0 (by omega) (by omega); cases e6; obtain ⟨ad7, e7, hx7⟩ := Kd.at_string hi6 1 (by omega) (by omega); cases e7; (try rw [show ((0 : Int)).toNat = 0 from rfl] at hx6); (try rw [Addr.add_zero'] at hx6); (try simp only [show (1 : Int).toNat = 1 from rfl, Nat.reduceMul, Nat.reduceEqDiff, Go.Addr.add, ↓reduceIte] at hx7); replace p1 := eq_true p1; replace q1 := eq_true q1; have q2 := eq_true d3; have q3 := eq_true d4; clear hi5 hi6 hl5 hl6))
            first | go_ret2 | exact bodyPost_ret (results_tmp2 rfl _ _ _) rfl ⟨rfl, HB3.out⟩
            exact ⟨rfl, HB3.out⟩
          · rw [if_neg d4] at h; cases h
        · rw [if_neg d3] at h; cases h
  · rw [if_neg h3] at h
    obtain ⟨rfl, rfl⟩ : (⟨#[]⟩ : ByteArray) = r1 ∧ t3 = r2 := by simpa using h
    clear h
    go_enter Try.func10, Try.ntmps10
    go_wp2_with (first | (go_at_call 25; (with_reducible refine (bundle_list.calls k _ _ l0 t1 t2 _ _ ?side1 ?side2 HT.out).mono ?_); (case side1 => exact Kd.C_below HR0.out HB0.out); (case side2 => exact HC0.out); rintro e w1 ⟨v1, rfl, ho1, hb1⟩; obtain ⟨A1, c1, e1⟩ := Kd.R_slice ho1; subst e1; have HO1 := Aside0.mk ho1; have HB1 := Aside0.mk (HB0.out.trans (hb1.mono HB0.out.size)); have HX1 := Aside0.mk ((hb1.cell (p := ⟨w.heap.size, 0, none⟩) (by simp)).trans HX0.out); clear ho1 hb1))
    first | go_ret2 | exact bodyPost_ret (results_tmp2 rfl _ _ _) rfl ⟨rfl, HB1.out⟩
    exact ⟨rfl, HB1.out⟩

end Go.Proofs.Ytmpomnnaoggdkaa.PA
