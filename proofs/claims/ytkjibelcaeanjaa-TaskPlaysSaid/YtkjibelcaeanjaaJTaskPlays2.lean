/- Part 2 of the proof of TaskPlays: what the program's functions come to. -/
import Derived.Test.YtkjibelcaeanjaaJTaskPlays1
import Derived.Test.YtkjibelcaeanjaaL3
/- A table in which a task is changed, on plain values. -/
namespace Go.Proofs.Ytkjibelcaeanjaa.E
open Go Go.RowKit Go.Proofs
set_option linter.unusedVariables false
set_option linter.unusedSimpArgs false
theorem flat_tk (l : List Tk) : Flat 3 (l.map tkV) := Flat.map (f := tkV) (fun k => ⟨by simp [tkV, lend, lendL], _, rfl, rfl⟩) l
theorem flat_tr (l : List Tr) : Flat 3 (l.map trV) := Flat.map (f := trV) (fun k => ⟨by simp [trV, lend, lendL], _, rfl, rfl⟩) l
/-- slices.Clone, for a row that is written. -/
theorem cloneTk (l : List Tk) (hl : l.length ≤ 400000) (hne : l ≠ []) (H : Heap) : SpecH Try.prog 62 H [.lst 3 (l.map tkV) false]
    (fun r H' => ∃ b cap rest, hget H b = none ∧ l.length ≤ cap ∧ cap ≤ maxLen ∧ r = .row b 0 l.length cap ∧ H' = (b, (l.map tkV).flatMap cellsOf ++ rest) :: H) := by
  have hne2 : l.map tkV ≠ [] := by simpa using hne
  have hpos : 0 < l.length := List.length_pos_iff.2 hne
  refine spec_of t62r (by simp [p62r]) ?_
  simp only [p62r]
  refine pwp_sr fun K hK => ?_
  simp [runM_nil]
  refine hK _ _ (pwp_rif fun K hK => ?_)
  simp [runM_nil, hne]
  refine hK _ _ (ifF (by simp [runM_nil]) (pwp_skip (pwp_sr fun K hK => ?_)))
  simp [runM_nil, planS_nil, cellsY_flat (flat_tk l)]
  intro b hb
  refine ⟨by omega, fun h => absurd h hne, fun _ b' cap' hb' h1 h2 => ?_⟩
  rw [(flat_tk l).lend]
  have hbn : hget H b' = none := by
    split at hb'
    · cases hb'
    · exact hb'
  exact hK _ _ (pwp_ret ⟨.inr rfl, _, _, (by simp [runM_nil, resL]; rfl), .cons_cons _ (.cons _ (.refl _)), b', cap', _, hbn, h1, h2, rfl, rfl⟩)
theorem cloneTr (l : List Tr) (hl : l.length ≤ 400000) (hne : l ≠ []) (H : Heap) : SpecH Try.prog 63 H [.lst 3 (l.map trV) false]
    (fun r H' => ∃ b cap rest, hget H b = none ∧ l.length ≤ cap ∧ cap ≤ maxLen ∧ r = .row b 0 l.length cap ∧ H' = (b, (l.map trV).flatMap cellsOf ++ rest) :: H) := by
  have hne2 : l.map trV ≠ [] := by simpa using hne
  have hpos : 0 < l.length := List.length_pos_iff.2 hne
  refine spec_of t63r (by simp [p63r]) ?_
  simp only [p63r]
  refine pwp_sr fun K hK => ?_
  simp [runM_nil]
  refine hK _ _ (pwp_rif fun K hK => ?_)
  simp [runM_nil, hne]
  refine hK _ _ (ifF (by simp [runM_nil]) (pwp_skip (pwp_sr fun K hK => ?_)))
  simp [runM_nil, planS_nil, cellsY_flat (flat_tr l)]
  intro b hb
  refine ⟨by omega, fun h => absurd h hne, fun _ b' cap' hb' h1 h2 => ?_⟩
  rw [(flat_tr l).lend]
  have hbn : hget H b' = none := by
    split at hb'
    · cases hb'
    · exact hb'
  exact hK _ _ (pwp_ret ⟨.inr rfl, _, _, (by simp [runM_nil, resL]; rfl), .cons_cons _ (.cons _ (.refl _)), b', cap', _, hbn, h1, h2, rfl, rfl⟩)
/-- .. for one that is appended to, or read. -/
theorem cloneTr0 (l : List Tr) (hl : l.length ≤ 400000) : PSpec Try.prog 63 [.lst 3 (l.map trV) false] (.lst 3 (l.map trV) true) := by
  intro H
  refine spec_ofU t63 (by simp [p63]) ?_
  simp only [p63]
  refine pwp_sr fun K hK => ?_
  simp [runM_nil]
  refine hK _ _ (pwp_rif fun K hK => ?_)
  have key : ∀ st' H', H' = H → argT st' (.t 4) = .bool false → keepL [0] 0 st' = MS 8 [(0, .lst 3 (l.map trV) false)] → K st' H' := by
    rintro st' _ rfl e1 e2
    refine hK _ _ (ifF e1 (pwp_skip (pwp_keep [0] ?_)))
    rw [e2]
    refine pwp_sr fun K hK => ?_
    have hb : l.length * 24 ≤ 140737488355328 := by omega
    simp [runM_nil, hb]
    exact hK _ _ (pwp_ret ⟨.inr rfl, _, _, _, (by simp [runM_nil, resL]; rfl), .refl _, Up_refl _ _, rfl, rfl⟩)
  simp [runM_nil]
  refine ⟨fun h => key _ _ rfl (by simp [runM_nil]) (by simp [keepL_MS, keepA, getS]), fun h => ⟨?_, ?_⟩⟩
  · exact key _ _ rfl (by simp [runM_nil]) (by simp [keepL_MS, keepA, getS])
  · refine hK _ _ (ifT (by simp [runM_nil]) (pwp_sr fun K hK => ?_))
    simp [runM_nil]
    refine hK _ _ (pwp_ret ⟨.inr rfl, _, _, _, (by simp [runM_nil, resL]; rfl), .refl _, ?_, rfl, rfl⟩)
    simp [keepA, resV, h]
theorem flat_mid (l1 l2 : List Tk) (k : Tk) (rest : List PV) : ((l1 ++ k :: l2).map tkV).flatMap cellsOf ++ rest =
    (l1.map tkV).flatMap cellsOf ++ .lst 3 (k.tr.map trV) false :: .int .i64 k.dn :: .int .i64 k.fl :: ((l2.map tkV).flatMap cellsOf ++ rest) := by
  simp [tkV, cellsOf]
theorem flat_mid2 (l1 l2 : List Tk) (k : Tk) (rest : List PV) : (l1.map tkV ++ tkV k :: l2.map tkV).flatMap cellsOf ++ rest =
    (l1.map tkV).flatMap cellsOf ++ .lst 3 (k.tr.map trV) false :: .int .i64 k.dn :: .int .i64 k.fl :: ((l2.map tkV).flatMap cellsOf ++ rest) := by
  rw [← flat_mid]
  simp
theorem frz_flat (b : Nat) (f : Nat → Nat → Option PV) (q : Nat → Option PV) : ∀ l : List Tk, frzL b f q ((l.map tkV).flatMap cellsOf) = (l.map tkV).flatMap cellsOf
  | [] => rfl
  | k :: l => by
    have := frz_flat b f q l
    simp only [List.map_cons, List.flatMap_cons, frzL_append, this]
    simp [tkV, cellsOf, frzL, frz]
theorem flat_len (l : List Tk) : ((l.map tkV).flatMap cellsOf).length = l.length * 3 := by rw [(flat_tk l).len, List.length_map]
/-- What a change of a task, whose attempts are a row, does. -/
def ChgA (F : Nat) (cp : List PV) (k k' : Tk) : Prop := k'.tr.length = k.tr.length ∧ ∀ (bL bT : Nat) (H : Heap) (A B rT : List PV) (c : Nat), bT ≠ bL →
  SpecH Try.prog F ((bT, (k.tr.map trV).flatMap cellsOf ++ rT) :: (bL, A ++ .row bT 0 k.tr.length c :: .int .i64 k.dn :: .int .i64 k.fl :: B) :: H) (.ptr (some (bL, A.length)) :: cp)
    (fun _ H' => H' = (bT, (k'.tr.map trV).flatMap cellsOf ++ rT) :: (bL, A ++ .row bT 0 k.tr.length c :: .int .i64 k'.dn :: .int .i64 k'.fl :: B) :: H)
set_option maxRecDepth 4000 in
theorem withA (cap tm : Int) (l1 l2 : List Tk) (k k' : Tk) (F : Nat) (cp : List PV) (hl : (l1 ++ k :: l2).length ≤ 400000) (hk : k.tr.length ≤ 400000) (hne : k.tr ≠ []) (hcp : lendL cp = cp) (hC : ChgA F cp k k') :
    PSpec Try.prog 36 [tbV ⟨cap, tm, l1 ++ k :: l2⟩, .int .i64 l1.length, .fn (.func F) [] cp] (tbV ⟨cap, tm, l1 ++ k' :: l2⟩) := by
  intro H
  refine spec_of t36 (by simp [p36]) ?_
  simp only [p36]
  refine pwp_sr fun K hK => ?_
  simp [runM_nil, tbV]
  intro b3 h3 b6 h6
  obtain ⟨n36, h6⟩ := hget_cons_none.1 h6
  refine hK _ _ (pwp_sr fun K hK => ?_)
  have hcl := cloneTk (l1 ++ k :: l2) hl (by simp)
  simp only [List.map_append, List.map_cons] at hcl
  simp [runM_nil, Ne.symm n36]
  refine useH (hcl _) ?_
  rintro r H' ⟨bL, cL, rest, hL, hc1, hc2, rfl, rfl⟩
  obtain ⟨n6L, hL⟩ := hget_cons_none.1 hL
  obtain ⟨n3L, hL⟩ := hget_cons_none.1 hL
  have hfm := fun k => flat_mid2 l1 l2 k rest
  have hA := flat_len l1
  simp only [hfm]
  generalize hAA : (l1.map tkV).flatMap cellsOf = A at *
  generalize hBB : (l2.map tkV).flatMap cellsOf ++ rest = B at *
  have hn : l1.length < (l1 ++ k :: l2).length := by simp
  generalize hN : (l1 ++ k :: l2).length = n at *
  have hlen : ∀ x y z : PV, l1.length * 3 + 1 ≤ (A ++ x :: y :: z :: B).length := fun x y z => by simp [hA]
  simp [runM_nil, n36, Ne.symm n36, n6L, Ne.symm n6L, n3L, Ne.symm n3L]
  refine hK _ _ (pwp_sr fun K hK => ?_)
  simp [runM_nil, n36, Ne.symm n36, n6L, Ne.symm n6L, n3L, Ne.symm n3L, hn]
  refine hK _ _ (pwp_sr fun K hK => ?_)
  simp [runM_nil, n36, Ne.symm n36, n6L, Ne.symm n6L, n3L, Ne.symm n3L, mid_get hA, hA]
  refine useH (cloneTr k.tr hk hne _) ?_
  rintro r H' ⟨bT, cT, rT, hT, hc3, hc4, rfl, rfl⟩
  obtain ⟨nLT, hT1⟩ := hget_cons_none.1 hT
  obtain ⟨n6T, hT2⟩ := hget_cons_none.1 hT1
  obtain ⟨n3T, hT3⟩ := hget_cons_none.1 hT2
  clear hT hT1 hT2
  simp [runM_nil, n36, Ne.symm n36, n6L, Ne.symm n6L, n3L, Ne.symm n3L, nLT, Ne.symm nLT, mid_set hA, mid_drop hA, hA]
  refine hK _ _ (pwp_sr fun K hK => ?_)
  simp [runM_nil]
  have hCC := hC.2 bL bT ((b6, [PV.int .i64 0, .int .i64 0, .lst 0 [] true]) :: (b3, [.int .i64 cap, .int .i64 tm, .row bL 0 n cL]) :: H) A B rT cT (Ne.symm nLT)
  rw [hA] at hCC
  rw [hcp]
  refine useH hCC ?_
  rintro r H' rfl
  simp [runM_nil]
  refine hK _ _ (pwp_sr fun K hK => ?_)
  simp [runM_nil, n36, Ne.symm n36, n6L, Ne.symm n6L, n3L, Ne.symm n3L, nLT, Ne.symm nLT, n6T, Ne.symm n6T, n3T, Ne.symm n3T]
  refine hK _ _ (pwp_keep [6] ?_)
  simp only [keepL_MS, keepA, List.map_cons, List.map_nil, getS, if_neg, if_pos]
  refine pwp_freeze (b := bT) 3 true [bL] (by simp [hget]; rfl) ?_
  have hrow := rowL_flat (flat_tr k'.tr) rT (cap := cT) (by rw [List.length_map, hC.1]; exact hc3) hc4
  rw [List.length_map, hC.1] at hrow
  subst hAA hBB
  simp [planS_nil, nLT, Ne.symm nLT, n6T, Ne.symm n6T, n3T, Ne.symm n3T, hrow, frz_flat, frzH_id hT3 (L := [bL]) (by simpa using hL)]
  rw [← flat_mid]
  have hrow2 := rowL_flat (flat_tk (l1 ++ k' :: l2)) (frzL bT (rowL 3 true (List.flatMap cellsOf (List.map trV k'.tr) ++ rT)) (ptrL (List.flatMap cellsOf (List.map trV k'.tr) ++ rT)) rest) (cap := cL) (by simp at hN ⊢; omega) hc2
  have hN2 : ((l1 ++ k' :: l2).map tkV).length = n := by rw [← hN]; simp
  rw [hN2] at hrow2
  generalize ((l1 ++ k' :: l2).map tkV).flatMap cellsOf ++ _ = cs at hrow2 ⊢
  refine pwp_freeze (b := bL) 3 true [b6] (by simp [hget]; rfl) ?_
  simp [planS_nil, n6L, Ne.symm n6L, n3L, Ne.symm n3L, n36, Ne.symm n36, hrow2, frzH_id hL (L := [b6]) (by simpa using h6)]
  exact pwp_ret ⟨.inr rfl, _, (by simp [runM_nil, resL]; rfl), .cons _ (.cons _ (.refl _)), by simp [resV, tbV]⟩
/-- .. whose attempts are a list. -/
def ChgB (F : Nat) (cp : List PV) (k k' : Tk) : Prop := ∀ (bL : Nat) (H : Heap) (A B : List PV),
  SpecH Try.prog F ((bL, A ++ .lst 3 (k.tr.map trV) true :: .int .i64 k.dn :: .int .i64 k.fl :: B) :: H) (.ptr (some (bL, A.length)) :: cp)
    (fun _ H' => H' = (bL, A ++ .lst 3 (k'.tr.map trV) true :: .int .i64 k'.dn :: .int .i64 k'.fl :: B) :: H)
set_option maxRecDepth 4000 in
theorem withB (cap tm : Int) (l1 l2 : List Tk) (k k' : Tk) (F : Nat) (cp : List PV) (hl : (l1 ++ k :: l2).length ≤ 400000) (hk : k.tr.length ≤ 400000) (hcp : lendL cp = cp) (hC : ChgB F cp k k') :
    PSpec Try.prog 36 [tbV ⟨cap, tm, l1 ++ k :: l2⟩, .int .i64 l1.length, .fn (.func F) [] cp] (tbV ⟨cap, tm, l1 ++ k' :: l2⟩) := by
  intro H
  refine spec_of t36 (by simp [p36]) ?_
  simp only [p36]
  refine pwp_sr fun K hK => ?_
  simp [runM_nil, tbV]
  intro b3 h3 b6 h6
  obtain ⟨n36, h6⟩ := hget_cons_none.1 h6
  refine hK _ _ (pwp_sr fun K hK => ?_)
  have hcl := cloneTk (l1 ++ k :: l2) hl (by simp)
  simp only [List.map_append, List.map_cons] at hcl
  simp [runM_nil, Ne.symm n36]
  refine useH (hcl _) ?_
  rintro r H' ⟨bL, cL, rest, hL, hc1, hc2, rfl, rfl⟩
  obtain ⟨n6L, hL⟩ := hget_cons_none.1 hL
  obtain ⟨n3L, hL⟩ := hget_cons_none.1 hL
  have hfm := fun k => flat_mid2 l1 l2 k rest
  have hA := flat_len l1
  simp only [hfm]
  generalize hAA : (l1.map tkV).flatMap cellsOf = A at *
  generalize hBB : (l2.map tkV).flatMap cellsOf ++ rest = B at *
  have hn : l1.length < (l1 ++ k :: l2).length := by simp
  generalize hN : (l1 ++ k :: l2).length = n at *
  have hlen : ∀ x y z : PV, l1.length * 3 + 1 ≤ (A ++ x :: y :: z :: B).length := fun x y z => by simp [hA]
  simp [runM_nil, n36, Ne.symm n36, n6L, Ne.symm n6L, n3L, Ne.symm n3L]
  refine hK _ _ (pwp_sr fun K hK => ?_)
  simp [runM_nil, n36, Ne.symm n36, n6L, Ne.symm n6L, n3L, Ne.symm n3L, hn]
  refine hK _ _ (pwp_sr fun K hK => ?_)
  simp [runM_nil, n36, Ne.symm n36, n6L, Ne.symm n6L, n3L, Ne.symm n3L, mid_get hA, hA]
  refine useP (cloneTr0 k.tr hk) ?_
  simp [runM_nil, n36, Ne.symm n36, n6L, Ne.symm n6L, n3L, Ne.symm n3L, mid_set hA, mid_drop hA, hA]
  refine hK _ _ (pwp_sr fun K hK => ?_)
  simp [runM_nil]
  have hCC := hC bL ((b6, [PV.int .i64 0, .int .i64 0, .lst 0 [] true]) :: (b3, [.int .i64 cap, .int .i64 tm, .row bL 0 n cL]) :: H) A B
  rw [hA] at hCC
  rw [hcp]
  refine useH hCC ?_
  rintro r H' rfl
  simp [runM_nil]
  refine hK _ _ (pwp_sr fun K hK => ?_)
  simp [runM_nil, n36, Ne.symm n36, n6L, Ne.symm n6L, n3L, Ne.symm n3L]
  refine hK _ _ (pwp_keep [6] ?_)
  simp only [keepL_MS, keepA, List.map_cons, List.map_nil, getS, if_neg, if_pos]
  have hN2 : (l1 ++ k' :: l2).length = n := by rw [← hN]; simp
  have hrow2 : rowL 3 true (A ++ PV.lst 3 (k'.tr.map trV) true :: .int .i64 k'.dn :: .int .i64 k'.fl :: B) n cL = some (.lst 3 ((l1 ++ k' :: l2).map tkV) false) := by
    have e1 : A ++ PV.lst 3 (k'.tr.map trV) true :: .int .i64 k'.dn :: .int .i64 k'.fl :: B = (A ++ PV.lst 3 (k'.tr.map trV) true :: .int .i64 k'.dn :: .int .i64 k'.fl :: (l2.map tkV).flatMap cellsOf) ++ rest := by rw [← hBB]; simp
    have e2 : (A ++ PV.lst 3 (k'.tr.map trV) true :: .int .i64 k'.dn :: .int .i64 k'.fl :: (l2.map tkV).flatMap cellsOf).length = n * 3 := by
      rw [← hN2]
      simp only [List.length_append, List.length_cons, hA, flat_len]
      omega
    refine rowL_of (flat_tk _) (by rw [List.length_map]; exact hN2) (by omega) hc2 (by rw [e1, List.length_append, e2]; omega) ?_
    rw [e1, List.take_left' e2, ← hAA, lendL_append, (flat_tk l1).lend]
    simp only [lendL, lend, (flat_tk l2).lend]
    simp [tkV, cellsOf]
  generalize A ++ _ = cs at hrow2 ⊢
  refine pwp_freeze (b := bL) 3 true [b6] (by simp [hget]; rfl) ?_
  simp [planS_nil, n6L, Ne.symm n6L, n3L, Ne.symm n3L, n36, Ne.symm n36, hrow2, frzH_id hL (L := [b6]) (by simpa using h6)]
  exact pwp_ret ⟨.inr rfl, _, (by simp [runM_nil, resL]; rfl), .cons _ (.cons _ (.refl _)), by simp [resV, tbV]⟩
end Go.Proofs.Ytkjibelcaeanjaa.E
/- What is done to a task, on plain values. -/
namespace Go.Proofs.Ytkjibelcaeanjaa.E
open Go Go.RowKit Go.Proofs
set_option linter.unusedVariables false
set_option linter.unusedSimpArgs false
theorem flat_midT (l1 l2 : List Tr) (x : Tr) (rest : List PV) : ((l1 ++ x :: l2).map trV).flatMap cellsOf ++ rest =
    (l1.map trV).flatMap cellsOf ++ .int .i64 x.w :: .int .i64 x.b :: .bool x.o :: ((l2.map trV).flatMap cellsOf ++ rest) := by
  simp [trV, cellsOf]
theorem flat_lenT (l : List Tr) : ((l.map trV).flatMap cellsOf).length = l.length * 3 := by rw [(flat_tr l).len, List.length_map]
theorem lose_chg (k : Tk) : ChgB 60 [] k ⟨k.tr, -1, k.fl⟩ := by
  intro bL H A B
  refine spec_of t60 (by simp [p60]) ?_
  simp only [p60]
  have hA : A.length = A.length := rfl
  refine pwp_regionM fun K hK => ?_
  have hla : A.length + 1 + 1 ≤ A.length + (B.length + 1 + 1 + 1) := by omega
  have hlb : A.length + 2 + 1 ≤ A.length + (B.length + 1 + 1 + 1) := by omega
  simp [runM_nil, mid_set1 hA, hla]
  refine hK _ _ ⟨.inl rfl, _, _, (by simp [runM_nil, resL]; rfl), .refl _, rfl⟩
theorem start_chg (k : Tk) (worker now : Int) (hk : k.tr.length ≤ 400000) : ChgB 37 [capI worker, capI now] k ⟨k.tr ++ [⟨worker, now, true⟩], k.dn, k.fl⟩ := by
  intro bL H A B
  refine spec_of t37t (by simp [p37t]) ?_
  simp only [p37t]
  have hA : A.length = A.length := rfl
  have hb : (k.tr.length + 1) * 24 ≤ 140737488355328 := by omega
  refine pwp_drawS hmix fun K hK => ?_
  simp [runM_nil, planS_nil, capI, mid_set hA, mid_get hA, hb]
  refine hK _ _ ⟨.inl rfl, _, _, (by simp [runM_nil, resL]; rfl), .refl _, by simp [trV]⟩
theorem beat_chg (l1 l2 : List Tr) (x : Tr) (dn fl now : Int) (hl : (l1 ++ x :: l2).length ≤ 400000) : ChgA 59 [capI now, capI l1.length] ⟨l1 ++ x :: l2, dn, fl⟩ ⟨l1 ++ ⟨x.w, now, x.o⟩ :: l2, dn, fl⟩ := by
  refine ⟨by simp, fun bL bT H A B rT c hne => ?_⟩
  have hA : A.length = A.length := rfl
  have hT := flat_lenT l1
  have hlt : (l1.length : Int) < l1.length + (l2.length + 1) := by omega
  refine spec_of t59 (by simp [p59]) ?_
  simp only [p59, flat_midT]
  generalize (l1.map trV).flatMap cellsOf = A1 at *
  generalize (l2.map trV).flatMap cellsOf ++ rT = B1 at *
  refine pwp_drawS hmix fun K hK => ?_
  have hle : ∀ x y z : PV, l1.length * 3 + 1 + 1 ≤ A1.length + (B1.length + 1 + 1 + 1) := fun x y z => by omega
  have hle := hle .unit .unit .unit
  simp [runM_nil, planS_nil, capI, hne, Ne.symm hne, hlt, mid_set1 hT, mid_get hA, hle]
  refine hK _ _ ⟨.inl rfl, _, _, (by simp [runM_nil, resL]; rfl), .refl _, ?_⟩
  have := mid_set1 (A := A1) (B := .bool x.o :: B1) (c0 := .int .i64 x.w) (c := .int .i64 x.b) (v := .int .i64 now) hT
  simp at this
  simp [this]
/-- An attempt is closed. -/
theorem close_chg (l1 l2 : List Tr) (x : Tr) (dn fl : Int) (hl : (l1 ++ x :: l2).length ≤ 400000) : ChgA 69 [capI l1.length] ⟨l1 ++ x :: l2, dn, fl⟩ ⟨l1 ++ ⟨x.w, x.b, false⟩ :: l2, dn, fl⟩ := by
  refine ⟨by simp, fun bL bT H A B rT c hne => ?_⟩
  have hA : A.length = A.length := rfl
  have hT := flat_lenT l1
  have hlt : (l1.length : Int) < l1.length + (l2.length + 1) := by omega
  refine spec_of t69 (by simp [p69]) ?_
  simp only [p69, flat_midT]
  generalize (l1.map trV).flatMap cellsOf = A1 at *
  generalize (l2.map trV).flatMap cellsOf ++ rT = B1 at *
  refine pwp_drawS hmix fun K hK => ?_
  have hle : l1.length * 3 + 2 + 1 ≤ A1.length + (B1.length + 1 + 1 + 1) := by omega
  simp [runM_nil, planS_nil, capI, hne, Ne.symm hne, hlt, mid_get hA, hle]
  refine hK _ _ ⟨.inl rfl, _, _, (by simp [runM_nil, resL]; rfl), .refl _, ?_⟩
  have := mid_set2 (A := A1) (B := B1) (c0 := .int .i64 x.w) (c1 := .int .i64 x.b) (c := .bool x.o) (v := .bool false) hT
  simp at this
  simp [this]
theorem fail_chg (l1 l2 : List Tr) (x : Tr) (dn fl : Int) (hl : (l1 ++ x :: l2).length ≤ 400000) : ChgA 58 [capI l1.length] ⟨l1 ++ x :: l2, dn, fl⟩ ⟨l1 ++ ⟨x.w, x.b, false⟩ :: l2, dn, IntKind.i64.wrap (fl + 1)⟩ := by
  refine ⟨by simp, fun bL bT H A B rT c hne => ?_⟩
  have hA : A.length = A.length := rfl
  have hT := flat_lenT l1
  have hlt : (l1.length : Int) < l1.length + (l2.length + 1) := by omega
  refine spec_of t58 (by simp [p58]) ?_
  simp only [p58, flat_midT]
  generalize (l1.map trV).flatMap cellsOf = A1 at *
  generalize (l2.map trV).flatMap cellsOf ++ rT = B1 at *
  have hla : A.length + 1 + 1 ≤ A.length + (B.length + 1 + 1 + 1) := by omega
  have hlb : A.length + 2 + 1 ≤ A.length + (B.length + 1 + 1 + 1) := by omega
  refine pwp_ss hmix fun K hK => ?_
  have hle : l1.length * 3 + 2 + 1 ≤ A1.length + (B1.length + 1 + 1 + 1) := by omega
  have hm := mid_set2 (A := A1) (B := B1) (c0 := .int .i64 x.w) (c1 := .int .i64 x.b) (c := .bool x.o) (v := .bool false) hT
  simp at hm
  simp [runM_nil, planS_nil, capI, hne, Ne.symm hne, hlt, mid_get hA, hle, hm]
  refine hK _ _ (pwp_regionM fun K hK => ?_)
  simp [runM_nil, hne, Ne.symm hne, hlb, mid_get2 hA]
  refine hK _ _ ⟨.inl rfl, _, _, (by simp [runM_nil, resL]; rfl), .refl _, ?_⟩
  have := mid_set2 (A := A) (B := B) (c0 := .row bT 0 (l1 ++ x :: l2).length c) (c1 := .int .i64 dn) (c := .int .i64 fl) (v := .int .i64 (IntKind.i64.wrap (fl + 1))) hA
  simp at this
  simp [this]
theorem map_take_succ {α β : Type} (f : α → β) (l : List α) (i : Nat) (h : i < l.length) : (l.take (i + 1)).map f = (l.take i).map f ++ [f l[i]] := by
  rw [List.take_succ_eq_append_getElem h, List.map_append]
  rfl
def shut (x : Tr) : Tr := ⟨x.w, x.b, false⟩
theorem finish_chg (k : Tk) (n : Int) (hl : k.tr.length ≤ 400000) : ChgA 54 [capI n] k ⟨k.tr.map shut, n, k.fl⟩ := by
  refine ⟨by simp, fun bL bT H A B rT c hne => ?_⟩
  have hA : A.length = A.length := rfl
  refine spec_of t54 (by simp [p54]) ?_
  simp only [p54]
  refine pwp_sr fun K hK => ?_
  have hm := mid_set1 (A := A) (B := .int .i64 k.fl :: B) (c0 := .row bT 0 k.tr.length c) (c := .int .i64 k.dn) (v := .int .i64 n) hA
  simp at hm
  have hla : A.length + 1 + 1 ≤ A.length + (B.length + 1 + 1 + 1) := by omega
  have hlb : A.length + 2 + 1 ≤ A.length + (B.length + 1 + 1 + 1) := by omega
  simp [runM_nil, capI, hne, Ne.symm hne, hm, hla]
  refine hK _ _ (pwp_sr fun K hK => ?_)
  simp [runM_nil, hne, Ne.symm hne, mid_get hA]
  refine hK _ _ (pwp_block ?_)
  refine pwp_loopU [0, 12, 13] (fun m st H' => ∃ i, i ≤ k.tr.length ∧ m = k.tr.length - i ∧ H' = (bT, (((k.tr.take i).map shut ++ k.tr.drop i).map trV).flatMap cellsOf ++ rT) :: (bL, A ++ PV.row bT 0 k.tr.length c :: .int .i64 n :: .int .i64 k.fl :: B) :: H ∧
      st = MS 24 [(0, .ptr (some (bL, A.length))), (12, .int .i64 k.tr.length), (13, .int .i64 i)]) (n := k.tr.length)
    ⟨_, _, keep_up (l' := [(0, .ptr (some (bL, A.length))), (12, .int .i64 k.tr.length), (13, .int .i64 0)]) (by simp [keepA]), List.Sublist.refl _, 0, Nat.zero_le _, rfl, by simp, rfl⟩ ?_
  rintro m st _ ⟨i, hi, rfl, rfl, rfl⟩
  generalize hG : (((k.tr.take i).map shut ++ k.tr.drop i).map trV).flatMap cellsOf ++ rT = G
  refine pwp_sr fun K hK => ?_
  by_cases hik : i < k.tr.length
  · have hw : IntKind.i64.wrap ((i : Int) + 1) = ((i + 1 : Nat) : Int) := by rw [w64 (by omega) (by omega)]; rfl
    simp [runM_nil, hik]
    refine hK _ _ (pwp_sT (by simp [runM_nil]) (pwp_seq (pwp_block (pwp_sr fun K hK => ?_))))
    simp [runM_nil]
    have hdec : (k.tr.take i).map shut ++ k.tr.drop i = (k.tr.take i).map shut ++ k.tr[i] :: k.tr.drop (i + 1) := by rw [List.drop_eq_getElem_cons hik]
    have hnext : (k.tr.take (i + 1)).map shut ++ k.tr.drop (i + 1) = (k.tr.take i).map shut ++ shut k.tr[i] :: k.tr.drop (i + 1) := by rw [map_take_succ _ _ _ hik]; simp
    have hlen1 : ((k.tr.take i).map shut).length = i := by simp; omega
    rw [hdec, flat_midT] at hG
    rw [← hG]
    have hT := flat_lenT ((k.tr.take i).map shut)
    rw [hlen1] at hT
    generalize hx : k.tr[i] = x at *
    have hfin : (((k.tr.take (i + 1)).map shut ++ k.tr.drop (i + 1)).map trV).flatMap cellsOf ++ rT = (((k.tr.take i).map shut).map trV).flatMap cellsOf ++ .int .i64 x.w :: .int .i64 x.b :: .bool false :: (((k.tr.drop (i + 1)).map trV).flatMap cellsOf ++ rT) := by
      rw [hnext, flat_midT]
      rfl
    clear hG
    generalize (((k.tr.take i).map shut).map trV).flatMap cellsOf = A1 at *
    generalize ((k.tr.drop (i + 1)).map trV).flatMap cellsOf ++ rT = B1 at *
    have hm2 := mid_set2 (A := A1) (B := B1) (c0 := .int .i64 x.w) (c1 := .int .i64 x.b) (c := .bool x.o) (v := .bool false) hT
    simp at hm2
    have hle : i * 3 + 2 + 1 ≤ A1.length + (B1.length + 1 + 1 + 1) := by omega
    refine hK _ _ (pwp_regionM fun K hK => ?_)
    simp [runM_nil, hne, Ne.symm hne, mid_get hA, hik, hm2, hle]
    refine hK _ _ (pwp_regionM fun K hK => ?_)
    simp [runM_nil, hw]
    exact hK _ _ ⟨k.tr.length - (i + 1), by omega, _, _, keep_up (l' := [(0, .ptr (some (bL, A.length))), (12, .int .i64 k.tr.length), (13, .int .i64 (i + 1 : Nat))]) (by simp [keepA]), List.Sublist.refl _, i + 1, by omega, rfl, by rw [hfin], rfl⟩
  · simp [runM_nil, hik]
    have hii : i = k.tr.length := by omega
    subst hii
    refine hK _ _ (pwp_seq (pwp_cF (by simp [runM_nil]) (pwp_exit ?_)))
    exact ⟨.inl rfl, _, _, (by simp [runM_nil, resL]; rfl), .refl _, by rw [← hG, List.take_length, List.drop_length, List.append_nil]⟩
end Go.Proofs.Ytkjibelcaeanjaa.E
/- What is asked of a table, on plain values. -/
namespace Go.Proofs.Ytkjibelcaeanjaa.E
open Go Go.RowKit Go.Proofs
set_option linter.unusedVariables false
set_option linter.unusedSimpArgs false
theorem split_at {α : Type} (l : List α) (i : Nat) (h : i < l.length) : l = l.take i ++ l[i] :: l.drop (i + 1) := by
  rw [List.getElem_cons_drop, List.take_append_drop]
theorem set_split {α : Type} (l : List α) (i : Nat) (h : i < l.length) (x : α) : l.set i x = l.take i ++ x :: l.drop (i + 1) := by
  rw [List.set_eq_take_append_cons_drop, if_pos h]
def setT (t : Tb) (i : Nat) (k : Tk) : Tb := ⟨t.cap, t.tm, t.l.set i k⟩
theorem withB_set (t : Tb) (i : Nat) (hi : i < t.l.length) (k' : Tk) (F : Nat) (cp : List PV) (hs : Small t) (hcp : lendL cp = cp) (hC : ChgB F cp t.l[i] k') :
    PSpec Try.prog 36 [tbV t, .int .i64 i, .fn (.func F) [] cp] (tbV (setT t i k')) := by
  have h := withB t.cap t.tm (t.l.take i) (t.l.drop (i + 1)) t.l[i] k' F cp (by rw [← split_at]; exact hs.l) (hs.tr _ (List.getElem_mem hi)) hcp hC
  rw [← split_at, ← set_split t.l i hi k', List.length_take, Nat.min_eq_left (by omega)] at h
  exact h
theorem withA_set (t : Tb) (i : Nat) (hi : i < t.l.length) (k' : Tk) (F : Nat) (cp : List PV) (hs : Small t) (hne : t.l[i].tr ≠ []) (hcp : lendL cp = cp) (hC : ChgA F cp t.l[i] k') :
    PSpec Try.prog 36 [tbV t, .int .i64 i, .fn (.func F) [] cp] (tbV (setT t i k')) := by
  have h := withA t.cap t.tm (t.l.take i) (t.l.drop (i + 1)) t.l[i] k' F cp (by rw [← split_at]; exact hs.l) (hs.tr _ (List.getElem_mem hi)) hne hcp hC
  rw [← split_at, ← set_split t.l i hi k', List.length_take, Nat.min_eq_left (by omega)] at h
  exact h
theorem isTask_nat {t : Tb} {i : Int} (h : isTaskT t i = true) : ∃ n : Nat, i = n ∧ n < t.l.length := by
  simp only [isTaskT, inB, decide_eq_true_eq] at h
  exact ⟨i.toNat, by omega, by omega⟩
theorem isTask_of {t : Tb} {n : Nat} (h : n < t.l.length) : isTaskT t n = true := by
  simp only [isTaskT, inB, decide_eq_true_eq]
  omega
def ownTr (worker : Int) (x : Tr) : Bool := decide (x.w = worker)
theorem ownTr_ok (worker : Int) (x : Tr) : PSpec Try.prog 35 [trV x, capI worker] (.bool (ownTr worker x)) := by
  intro H
  refine spec_of t35 (by simp [p35]) ?_
  simp only [p35]
  refine pwp_sr fun K hK => ?_
  simp [runM_nil, trV, capI]
  refine hK _ _ (pwp_sr fun K hK => ?_)
  simp [runM_nil]
  refine hK _ _ (pwp_ret ?_)
  simp [runM_nil, resL, resV, ownTr]
def busy (k : Tk) (worker : Int) : Bool := decide (k.dn ≠ -1) || (decide ((opn k).length = 2) || (opn k).any (ownTr worker))
def startK (k : Tk) (worker now : Int) : Tk := ⟨k.tr ++ [⟨worker, now, true⟩], k.dn, k.fl⟩
/-- What Start tells. -/
def startT (t : Tb) (i worker now : Int) : Tb × Int × Int :=
  match t.l[i.toNat]? with
  | some k => if isTaskT t i = true then (if busy k worker = true then (t, -1, 14) else if 500 ≤ k.tr.length then (t, -1, 8) else (setT t i.toNat (startK k worker now), k.tr.length, 0)) else (t, -1, 1)
  | none => (t, -1, 1)
set_option maxRecDepth 4000 in
theorem Start_ok (t : Tb) (i worker now : Int) (hs : Small t) : PSpec Try.prog 13 [tbV t, .int .i64 i, .int .i64 worker, .int .i64 now] (.tup [tbV (startT t i worker now).1, .int .i64 (startT t i worker now).2.1, .int .i64 (startT t i worker now).2.2]) := by
  intro H
  have hit := isTask_ok t i hs
  simp only [tbV] at hit
  refine spec_of t13 (by simp [p13]) ?_
  simp only [p13]
  refine pwp_sr fun K hK => ?_
  simp [runM_nil, tbV]
  intro b8 h8
  refine hK _ _ (pwp_rif fun K hK => ?_)
  simp [runM_nil]
  refine useP hit ?_
  cases hi : isTaskT t i with
  | false =>
    simp [runM_nil]
    refine hK _ _ (ifT (by simp [runM_nil]) (pwp_sr fun K hK => ?_))
    simp [runM_nil]
    refine hK _ _ (pwp_ret ⟨.inr rfl, _, _, (by simp [runM_nil, resL]; rfl), .cons _ (.refl _), ?_⟩)
    have : startT t i worker now = (t, -1, 1) := by unfold startT; split <;> simp [hi]
    simp [resV, this, tbV]
  | true =>
    obtain ⟨n, rfl, hn⟩ := isTask_nat hi
    simp [runM_nil]
    refine hK _ _ (ifF (by simp [runM_nil]) (pwp_skip (pwp_sr fun K hK => ?_)))
    have hk : t.l[n]? = some t.l[n] := List.getElem?_eq_getElem hn
    have hst : startT t n worker now = if busy t.l[n] worker = true then (t, (-1 : Int), (14 : Int)) else if 500 ≤ t.l[n].tr.length then (t, (-1 : Int), (8 : Int)) else (setT t n (startK t.l[n] worker now), (t.l[n].tr.length : Int), (0 : Int)) := by
      simp [startT, hi, hk]
    have hks := hs.tr _ (List.getElem_mem hn)
    have hwith := withB_set t n hn (startK t.l[n] worker now) 37 [capI worker, capI now] hs (by simp [capI, lendL, lend]) (start_chg _ worker now hks)
    have hgx : (t.l.map tkV)[n]? = some (tkV t.l[n]) := by simp [hk]
    generalize hkk : t.l[n] = k at *
    have ho := open_ok k (by omega)
    have hown := hasTr (opn k) 35 [capI worker] (ownTr worker) (by have := List.length_filter_le (·.o) k.tr; simp only [opn]; omega) (fun x hx => by simpa [lendL, lend, capI] using ownTr_ok worker x) (by simp [lendL, lend, capI])
    simp only [tkV, capI, tbV] at ho hown hwith hgx
    simp [runM_nil, hn, hkk, tkV]
    intro b11 h11
    obtain ⟨n8, h11⟩ := hget_cons_none.1 h11
    refine hK _ _ (pwp_freeze (b := b11) 3 true [] (by simp [hget]; rfl) ?_)
    simp [planS_nil, ptrL, lendL, lend, n8, Ne.symm n8, frzH_id]
    have hfr := fun f q => frzH_id (b := b11) (f := f) (q := q) (L := []) h11 (fun x hx => by cases hx)
    rw [hfr]
    refine pwp_sr fun K hK => ?_
    simp [runM_nil]
    refine useP ho ?_
    simp [runM_nil]
    refine useP hown ?_
    simp [runM_nil]
    refine hK _ _ (pwp_seq (pwp_block (pwp_rifE fun K hK => ?_)))
    have busyEnd : ∀ st', argT st' (.t 27) = .bool true → keepL [4, 8] 0 st' = MS 54 [(4, .ip 3 [.agg [.int .i64 t.cap, .int .i64 t.tm, .lst 3 (t.l.map tkV) false]] 0 0), (8, .ptr (some (b8, 0)))] → busy k worker = true →
        K st' ((b8, [.int .i64 0, .int .i64 0, .lst 0 [] true]) :: H) := by
      intro st' e1 e2 hbz
      refine hK _ _ (ifT e1 (pwp_keep [4, 8] ?_))
      rw [e2]
      refine pwp_sr fun K hK => ?_
      simp [runM_nil]
      refine hK _ _ (pwp_retB ?_)
      refine ⟨.inr rfl, _, (by simp [runM_nil, resL]; rfl), .cons _ (.refl _), ?_⟩
      rw [hst, if_pos hbz]
      simp [resV, tbV]
    by_cases h1 : k.dn = -1
    rotate_left
    · simp [runM_nil, h1]
      exact busyEnd _ (by simp [runM_nil]) (by simp [keepL_MS, keepA, getS]) (by simp [busy, h1])
    simp [runM_nil, h1]
    rw [h1] at ho
    refine useP ho ?_
    by_cases h2 : (opn k).length = 2
    · have h2' : ((opn k).length : Int) = 2 := by omega
      simp [runM_nil, h2']
      exact busyEnd _ (by simp [runM_nil]) (by simp [keepL_MS, keepA, getS]) (by simp [busy, h2])
    have h2' : ¬ ((opn k).length : Int) = 2 := by omega
    simp [runM_nil, h2']
    cases h3 : (opn k).any (ownTr worker) with
    | true =>
      exact busyEnd _ (by simp [runM_nil]) (by simp [keepL_MS, keepA, getS]) (by simp only [busy, h3, Bool.or_true])
    | false =>
      have hbz : busy k worker = false := by simp [busy, h1, h2, h3]
      refine hK _ _ (ifF (by simp [runM_nil]) (pwp_rifE fun K hK => ?_))
      simp [runM_nil]
      by_cases h4 : 500 ≤ k.tr.length
      · have h4' : (500 : Int) ≤ k.tr.length := by omega
        refine hK _ _ (ifT (by simp [runM_nil, h4']) (pwp_sr fun K hK => ?_))
        simp [runM_nil]
        refine hK _ _ (pwp_retB ?_)
        refine ⟨.inr rfl, _, (by simp [runM_nil, resL]; rfl), .cons _ (.refl _), ?_⟩
        rw [hst, hbz, if_pos h4]
        simp [resV, tbV]
      · have h4' : ¬ (500 : Int) ≤ k.tr.length := by omega
        refine hK _ _ (ifF (by simp [runM_nil, h4']) (pwp_skip ?_))
        refine pwp_ss hmix fun K hK => ?_
        simp [runM_nil, planS_nil]
        refine ⟨_, hwith, ?_⟩
        simp [runM_nil, planS_nil]
        refine hK _ _ (pwp_ret ?_)
        refine ⟨.inr rfl, _, (by simp [runM_nil, resL]; rfl), .cons _ (.refl _), ?_⟩
        rw [hst, hbz, if_neg h4]
        simp [resV, tbV]
end Go.Proofs.Ytkjibelcaeanjaa.E
/- Beat, Finish, Fail, Lose, New, on plain values. -/
namespace Go.Proofs.Ytkjibelcaeanjaa.E
open Go Go.RowKit Go.Proofs
set_option linter.unusedVariables false
set_option linter.unusedSimpArgs false
theorem inB_nat {i : Int} {n : Nat} (h : inB i 0 ((n : Int) - 1) = true) : ∃ j : Nat, i = j ∧ j < n := by
  simp only [inB, decide_eq_true_eq] at h
  exact ⟨i.toNat, by omega, by omega⟩
/-- Is there such an attempt, that is open? -/
def isOpenT (t : Tb) (i n : Int) : Bool := isTaskT t i && (match t.l[i.toNat]? with
  | some k => inB n 0 ((k.tr.length : Int) - 1) && (match k.tr[n.toNat]? with | some x => x.o | none => false)
  | none => false)
set_option maxRecDepth 4000 in
theorem isOpen_ok (t : Tb) (i n : Int) (hs : Small t) : PSpec Try.prog 53 [tbV t, .int .i64 i, .int .i64 n] (.bool (isOpenT t i n)) := by
  intro H
  have hit := isTask_ok t i hs
  simp only [tbV] at hit
  refine spec_of t53 (by simp [p53]) ?_
  simp only [p53]
  refine pwp_sr fun K hK => ?_
  simp [runM_nil, tbV]
  refine hK _ _ (pwp_sr fun K hK => ?_)
  simp [runM_nil]
  refine useP hit ?_
  cases hi : isTaskT t i with
  | false =>
    simp [runM_nil]
    refine hK _ _ (pwp_ret ⟨.inr rfl, _, _, (by simp [runM_nil, resL]; rfl), .refl _, by simp [resV, isOpenT, hi]⟩)
  | true =>
    obtain ⟨m, rfl, hm⟩ := isTask_nat hi
    have hk : t.l[m]? = some t.l[m] := List.getElem?_eq_getElem hm
    have hks := hs.tr _ (List.getElem_mem hm)
    have hst : isOpenT t m n = (inB n 0 ((t.l[m].tr.length : Int) - 1) && (match t.l[m].tr[n.toNat]? with | some x => x.o | none => false)) := by simp [isOpenT, hi, hk]
    have hgx : (t.l.map tkV)[m]? = some (tkV t.l[m]) := by simp [hk]
    generalize hkk : t.l[m] = k at *
    have hw : IntKind.i64.wrap ((k.tr.length : Int) - 1) = (k.tr.length : Int) - 1 := w64 (by omega) (by omega)
    simp [runM_nil, hm, hkk, tkV, hw]
    refine useP (isIn _ _ _) ?_
    cases hn : inB n 0 ((k.tr.length : Int) - 1) with
    | false =>
      simp [runM_nil]
      refine hK _ _ (pwp_ret ⟨.inr rfl, _, _, (by simp [runM_nil, resL]; rfl), .refl _, by simp [resV, hst, hn]⟩)
    | true =>
      obtain ⟨j, rfl, hj⟩ := inB_nat hn
      have hx : k.tr[j]? = some k.tr[j] := List.getElem?_eq_getElem hj
      generalize hxx : k.tr[j] = x at *
      simp [runM_nil, hm, hkk, tkV, hj, hxx, trV]
      refine hK _ _ (pwp_ret ⟨.inr rfl, _, _, (by simp [runM_nil, resL]; rfl), .refl _, by simp [resV, hst, hn, hx]⟩)
theorem isOpen_nat {t : Tb} {i n : Int} (h : isOpenT t i n = true) : ∃ (m j : Nat) (hm : m < t.l.length) (hj : j < t.l[m].tr.length), i = m ∧ n = j ∧ t.l[m].tr[j].o = true := by
  unfold isOpenT at h
  rw [Bool.and_eq_true] at h
  obtain ⟨h1, h2⟩ := h
  obtain ⟨m, rfl, hm⟩ := isTask_nat h1
  rw [Int.toNat_natCast, List.getElem?_eq_getElem hm] at h2
  simp only [Bool.and_eq_true] at h2
  obtain ⟨h3, h4⟩ := h2
  obtain ⟨j, rfl, hj⟩ := inB_nat h3
  rw [Int.toNat_natCast, List.getElem?_eq_getElem hj] at h4
  exact ⟨m, j, hm, hj, rfl, rfl, h4⟩
/-- A task one attempt of which is another one. -/
def setTr (k : Tk) (j : Nat) (x : Tr) : Tk := ⟨k.tr.set j x, k.dn, k.fl⟩
def beatK (k : Tk) (n now : Int) : Tk := match k.tr[n.toNat]? with | some x => setTr k n.toNat ⟨x.w, now, x.o⟩ | none => k
def failK (k : Tk) (n : Int) : Tk := match k.tr[n.toNat]? with | some x => ⟨k.tr.set n.toNat (shut x), k.dn, IntKind.i64.wrap (k.fl + 1)⟩ | none => k
def finishK (k : Tk) (n : Int) : Tk := ⟨k.tr.map shut, n, k.fl⟩
def loseK (k : Tk) : Tk := ⟨k.tr, -1, k.fl⟩
def chgT (t : Tb) (i : Int) (f : Tk → Tk) : Tb := match t.l[i.toNat]? with | some k => setT t i.toNat (f k) | none => t
def beatT (t : Tb) (i n now : Int) : Tb := if isOpenT t i n = true then chgT t i (beatK · n now) else t
def failT (t : Tb) (i n : Int) : Tb := if isOpenT t i n = true then chgT t i (failK · n) else t
def finishT (t : Tb) (i n : Int) : Tb := if isOpenT t i n = true then chgT t i (finishK · n) else t
theorem beat_chg2 (k : Tk) (j : Nat) (hj : j < k.tr.length) (now : Int) (hk : k.tr.length ≤ 400000) : ChgA 59 [capI now, capI j] k (beatK k j now) := by
  have h := beat_chg (k.tr.take j) (k.tr.drop (j + 1)) k.tr[j] k.dn k.fl now (by rw [← split_at]; exact hk)
  rw [← split_at, List.length_take, Nat.min_eq_left (by omega), ← set_split _ _ hj] at h
  simp only [beatK, Int.toNat_natCast, List.getElem?_eq_getElem hj, setTr]
  exact h
theorem fail_chg2 (k : Tk) (j : Nat) (hj : j < k.tr.length) (hk : k.tr.length ≤ 400000) : ChgA 58 [capI j] k (failK k j) := by
  have h := fail_chg (k.tr.take j) (k.tr.drop (j + 1)) k.tr[j] k.dn k.fl (by rw [← split_at]; exact hk)
  rw [← split_at, List.length_take, Nat.min_eq_left (by omega), ← set_split _ _ hj] at h
  simp only [failK, Int.toNat_natCast, List.getElem?_eq_getElem hj, shut]
  exact h
theorem beat_ok (t : Tb) (i n now : Int) (hs : Small t) : PSpec Try.prog 26 [tbV t, .int .i64 i, .int .i64 n, .int .i64 now] (.tup [tbV (beatT t i n now), .bool (isOpenT t i n)]) := by
  intro H
  have hio := isOpen_ok t i n hs
  simp only [tbV] at hio
  refine spec_of t26 (by simp [p26]) ?_
  simp only [p26]
  refine pwp_sr fun K hK => ?_
  simp [runM_nil, tbV]
  intro b6 h6
  refine hK _ _ (pwp_rif fun K hK => ?_)
  simp [runM_nil]
  refine useP hio ?_
  cases hi : isOpenT t i n with
  | false =>
    simp [runM_nil]
    refine hK _ _ (ifT (by simp [runM_nil]) (pwp_sr fun K hK => ?_))
    simp [runM_nil]
    refine hK _ _ (pwp_ret ⟨.inr rfl, _, _, (by simp [runM_nil, resL]; rfl), .cons _ (.refl _), by simp [resV, beatT, hi, tbV]⟩)
  | true =>
    obtain ⟨m, j, hm, hj, rfl, rfl, _⟩ := isOpen_nat hi
    simp [runM_nil]
    refine hK _ _ (ifF (by simp [runM_nil]) (pwp_skip (pwp_sr fun K hK => ?_)))
    have hk : t.l[m]? = some t.l[m] := List.getElem?_eq_getElem hm
    have hks := hs.tr _ (List.getElem_mem hm)
    have hst : beatT t m j now = setT t m (beatK t.l[m] j now) := by simp [beatT, hi, chgT, hk]
    have hwith := withA_set t m hm (beatK t.l[m] j now) 59 [capI now, capI j] hs (by intro e; rw [e] at hj; simp at hj) (by simp [capI, lendL, lend]) (beat_chg2 _ j hj now hks)
    simp only [capI, tbV] at hwith
    simp [runM_nil]
    refine useP hwith ?_
    simp [runM_nil, setT]
    refine hK _ _ (pwp_ret ⟨.inr rfl, _, _, (by simp [runM_nil, resL]; rfl), .cons _ (.refl _), by rw [hst]; simp [resV, tbV, setT, hi]⟩)
theorem fail_ok (t : Tb) (i n : Int) (hs : Small t) : PSpec Try.prog 25 [tbV t, .int .i64 i, .int .i64 n] (.tup [tbV (failT t i n), .bool (isOpenT t i n)]) := by
  intro H
  have hio := isOpen_ok t i n hs
  simp only [tbV] at hio
  refine spec_of t25 (by simp [p25]) ?_
  simp only [p25]
  refine pwp_sr fun K hK => ?_
  simp [runM_nil, tbV]
  intro b6 h6
  refine hK _ _ (pwp_rif fun K hK => ?_)
  simp [runM_nil]
  refine useP hio ?_
  cases hi : isOpenT t i n with
  | false =>
    simp [runM_nil]
    refine hK _ _ (ifT (by simp [runM_nil]) (pwp_sr fun K hK => ?_))
    simp [runM_nil]
    refine hK _ _ (pwp_ret ⟨.inr rfl, _, _, (by simp [runM_nil, resL]; rfl), .cons _ (.refl _), by simp [resV, failT, hi, tbV]⟩)
  | true =>
    obtain ⟨m, j, hm, hj, rfl, rfl, _⟩ := isOpen_nat hi
    simp [runM_nil]
    refine hK _ _ (ifF (by simp [runM_nil]) (pwp_skip (pwp_sr fun K hK => ?_)))
    have hk : t.l[m]? = some t.l[m] := List.getElem?_eq_getElem hm
    have hks := hs.tr _ (List.getElem_mem hm)
    have hst : failT t m j = setT t m (failK t.l[m] j) := by simp [failT, hi, chgT, hk]
    have hwith := withA_set t m hm (failK t.l[m] j) 58 [capI j] hs (by intro e; rw [e] at hj; simp at hj) (by simp [capI, lendL, lend]) (fail_chg2 _ j hj hks)
    simp only [capI, tbV] at hwith
    simp [runM_nil]
    refine useP hwith ?_
    simp [runM_nil, setT]
    refine hK _ _ (pwp_ret ⟨.inr rfl, _, _, (by simp [runM_nil, resL]; rfl), .cons _ (.refl _), by rw [hst]; simp [resV, tbV, setT, hi]⟩)
theorem finish_ok (t : Tb) (i n : Int) (hs : Small t) : PSpec Try.prog 23 [tbV t, .int .i64 i, .int .i64 n] (.tup [tbV (finishT t i n), .bool (isOpenT t i n)]) := by
  intro H
  have hio := isOpen_ok t i n hs
  simp only [tbV] at hio
  refine spec_of t23 (by simp [p23]) ?_
  simp only [p23]
  refine pwp_sr fun K hK => ?_
  simp [runM_nil, tbV]
  intro b6 h6
  refine hK _ _ (pwp_rif fun K hK => ?_)
  simp [runM_nil]
  refine useP hio ?_
  cases hi : isOpenT t i n with
  | false =>
    simp [runM_nil]
    refine hK _ _ (ifT (by simp [runM_nil]) (pwp_sr fun K hK => ?_))
    simp [runM_nil]
    refine hK _ _ (pwp_ret ⟨.inr rfl, _, _, (by simp [runM_nil, resL]; rfl), .cons _ (.refl _), by simp [resV, finishT, hi, tbV]⟩)
  | true =>
    obtain ⟨m, j, hm, hj, rfl, rfl, _⟩ := isOpen_nat hi
    simp [runM_nil]
    refine hK _ _ (ifF (by simp [runM_nil]) (pwp_skip (pwp_sr fun K hK => ?_)))
    have hk : t.l[m]? = some t.l[m] := List.getElem?_eq_getElem hm
    have hks := hs.tr _ (List.getElem_mem hm)
    have hst : finishT t m j = setT t m (finishK t.l[m] j) := by simp [finishT, hi, chgT, hk]
    have hwith := withA_set t m hm (finishK t.l[m] j) 54 [capI j] hs (by intro e; rw [e] at hj; simp at hj) (by simp [capI, lendL, lend]) (finish_chg _ j hks)
    simp only [capI, tbV] at hwith
    simp [runM_nil]
    refine useP hwith ?_
    simp [runM_nil, setT]
    refine hK _ _ (pwp_ret ⟨.inr rfl, _, _, (by simp [runM_nil, resL]; rfl), .cons _ (.refl _), by rw [hst]; simp [resV, tbV, setT, hi]⟩)
def isDoneBy (t : Tb) (i n : Int) : Bool := isTaskT t i && (decide (0 ≤ n) && (match t.l[i.toNat]? with | some k => decide (k.dn = n) | none => false))
def loseT (t : Tb) (i n : Int) : Tb := if isDoneBy t i n = true then chgT t i loseK else t
theorem lose_ok (t : Tb) (i n : Int) (hs : Small t) : PSpec Try.prog 27 [tbV t, .int .i64 i, .int .i64 n] (.tup [tbV (loseT t i n), .bool (isDoneBy t i n)]) := by
  intro H
  have hit := isTask_ok t i hs
  simp only [tbV] at hit
  refine spec_of t27 (by simp [p27]) ?_
  simp only [p27]
  refine pwp_sr fun K hK => ?_
  simp [runM_nil, tbV]
  intro b6 h6
  refine hK _ _ (pwp_rif fun K hK => ?_)
  have no : ∀ st', argT st' (.t 25) = .bool true → keepL [3, 6] 0 st' = MS 30 [(3, .ip 3 [.agg [.int .i64 t.cap, .int .i64 t.tm, .lst 3 (t.l.map tkV) false]] 0 0), (6, .ptr (some (b6, 0)))] → isDoneBy t i n = false →
      K st' ((b6, [.int .i64 0, .int .i64 0, .lst 0 [] true]) :: H) := by
    intro st' e1 e2 hd
    refine hK _ _ (ifT e1 (pwp_keep [3, 6] ?_))
    rw [e2]
    refine pwp_sr fun K hK => ?_
    simp [runM_nil]
    refine hK _ _ (pwp_ret ⟨.inr rfl, _, _, (by simp [runM_nil, resL]; rfl), .cons _ (.refl _), by simp [resV, loseT, hd, tbV]⟩)
  simp [runM_nil]
  refine useP hit ?_
  cases hi : isTaskT t i with
  | false =>
    simp [runM_nil]
    exact no _ (by simp [runM_nil]) (by simp [keepL_MS, keepA, getS]) (by simp [isDoneBy, hi])
  | true =>
    obtain ⟨m, rfl, hm⟩ := isTask_nat hi
    have hk : t.l[m]? = some t.l[m] := List.getElem?_eq_getElem hm
    by_cases h1 : n < 0
    · simp [runM_nil, h1]
      exact no _ (by simp [runM_nil]) (by simp [keepL_MS, keepA, getS]) (by simp [isDoneBy, hi, Int.not_le.2 h1])
    · by_cases h2 : t.l[m].dn = n
      rotate_left
      · simp [runM_nil, h1, hm, tkV, h2]
        exact no _ (by simp [runM_nil]) (by simp [keepL_MS, keepA, getS]) (by simp [isDoneBy, hi, hk, h2])
      · have hd : isDoneBy t m n = true := by simp [isDoneBy, hi, hk, h2, Int.not_lt.1 h1]
        simp [runM_nil, h1, hm, tkV, h2]
        refine hK _ _ (ifF (by simp [runM_nil]) (pwp_skip (pwp_sr fun K hK => ?_)))
        have hst : loseT t m n = setT t m (loseK t.l[m]) := by simp [loseT, hd, chgT, hk]
        have hwith := withB_set t m hm (loseK t.l[m]) 60 [] hs rfl (lose_chg _)
        simp only [tbV] at hwith
        simp [runM_nil]
        refine useP hwith ?_
        simp [runM_nil, setT]
        refine hK _ _ (pwp_ret ⟨.inr rfl, _, _, (by simp [runM_nil, resL]; rfl), .cons _ (.refl _), by rw [hst]; simp [resV, tbV, setT, hd]⟩)
end Go.Proofs.Ytkjibelcaeanjaa.E
/- New, on plain values. -/
namespace Go.Proofs.Ytkjibelcaeanjaa.E
open Go Go.RowKit Go.Proofs
set_option linter.unusedVariables false
set_option linter.unusedSimpArgs false
theorem and_low (n : Int) (h1 : 0 ≤ n) (h2 : n < 4294967296) : ((BitVec.ofInt 64 n &&& BitVec.ofInt 64 4294967295).toNat : Int) = n := by
  obtain ⟨m, rfl⟩ := Int.eq_ofNat_of_zero_le h1
  have hm : m < 4294967296 := by omega
  have e1 : (BitVec.ofInt 64 ((m : Nat) : Int)).toNat = m := by rw [BitVec.toNat_ofInt]; omega
  have e2 : (BitVec.ofInt 64 4294967295).toNat = 2 ^ 32 - 1 := by decide +kernel
  rw [BitVec.toNat_and, e1, e2, Nat.and_two_pow_sub_one_eq_mod]
  omega
theorem wu64 {x : Int} (h1 : 0 ≤ x) (h2 : x < 18446744073709551616) : IntKind.u64.wrap x = x := by
  have : IntKind.u64.wrap x = x % 18446744073709551616 := by
    simp [IntKind.wrap, IntKind.bits, IntKind.signed]
  rw [this]
  omega
theorem fdiv_low (n : Int) (h1 : 0 ≤ n) (h2 : n < 4294967296) : n.fdiv (2 ^ min (Int.toNat 32) IntKind.u64.bits) = 0 := by
  have : (2 : Int) ^ min (Int.toNat 32) IntKind.u64.bits = 4294967296 := by decide
  rw [this, Int.fdiv_eq_ediv_of_nonneg _ (by omega)]
  omega
theorem and_nf (n : Int) (h1 : 0 ≤ n) (h2 : n < 4294967296) : IntKind.u64.wrap ((BitVec.ofInt IntKind.u64.bits n &&& BitVec.ofInt IntKind.u64.bits 4294967295).toNat : Nat) = n := by
  have := and_low n h1 h2
  have e : ((BitVec.ofInt IntKind.u64.bits n &&& BitVec.ofInt IntKind.u64.bits 4294967295).toNat : Int) = n := this
  rw [e]
  exact wu64 h1 (by omega)
set_option maxRecDepth 4000 in
theorem mul64 (a b : Int) (ha : 0 ≤ a) (ha2 : a < 4294967296) (hb : 0 ≤ b) (hb2 : b < 4294967296) (hab : a * b < 4294967296) : PSpec Try.prog 71 [.int .u64 a, .int .u64 b] (.tup [.int .u64 0, .int .u64 (a * b)]) := by
  intro H
  have hp : 0 ≤ a * b := Int.mul_nonneg ha hb
  have w0 : IntKind.u64.wrap 0 = 0 := by decide
  have wab := wu64 hp (by omega)
  have a1 := and_nf a ha ha2
  have b1 := and_nf b hb hb2
  have z1 := and_nf 0 (by omega) (by omega)
  have f1 := fdiv_low a ha ha2
  have f2 := fdiv_low b hb hb2
  have f3 := fdiv_low (a * b) hp hab
  have f4 := fdiv_low 0 (by omega) (by omega)
  simp at a1 b1 z1 f1 f2 f3 f4
  generalize hq : a * b = q at *
  refine spec_of t71 (by simp [p71]) ?_
  simp only [p71]
  refine pwp_sr fun K hK => ?_
  simp [runM_nil]
  refine hK _ _ (pwp_sr fun K hK => ?_)
  simp [runM_nil, bitsP, a1]
  refine hK _ _ (pwp_sr fun K hK => ?_)
  simp [runM_nil, f1]
  refine hK _ _ (pwp_sr fun K hK => ?_)
  simp [runM_nil, bitsP, b1]
  refine hK _ _ (pwp_sr fun K hK => ?_)
  simp [runM_nil, f2]
  refine hK _ _ (pwp_sr fun K hK => ?_)
  simp [runM_nil, hq, wab]
  refine hK _ _ (pwp_sr fun K hK => ?_)
  simp [runM_nil, f3, w0]
  refine hK _ _ (pwp_sr fun K hK => ?_)
  simp [runM_nil, bitsP, z1, w0]
  refine hK _ _ (pwp_sr fun K hK => ?_)
  simp [runM_nil, f4, w0]
  refine hK _ _ (pwp_sr fun K hK => ?_)
  simp [runM_nil, w0]
  refine hK _ _ (pwp_sr fun K hK => ?_)
  simp [runM_nil, f4, w0]
  refine hK _ _ (pwp_sr fun K hK => ?_)
  simp [runM_nil, hq, wab]
  refine hK _ _ (pwp_ret ⟨.inr rfl, _, _, (by simp [runM_nil, resL]; rfl), .refl _, by simp [resV]⟩)
theorem mulU (a b : Int) (ha : 0 ≤ a) (ha2 : a < 4294967296) (hb : 0 ≤ b) (hb2 : b < 4294967296) (hab : a * b < 4294967296) : PSpec Try.prog 64 [.int .u64 a, .int .u64 b] (.tup [.int .u64 0, .int .u64 (a * b)]) := by
  intro H
  have h := mul64 a b ha ha2 hb hb2 hab
  refine spec_of t64 (by simp [p64]) ?_
  simp only [p64]
  refine pwp_sr fun K hK => ?_
  simp [runM_nil]
  refine hK _ _ (pwp_sF (by simp [runM_nil]) (pwp_sr fun K hK => ?_))
  simp [runM_nil]
  refine useP h ?_
  simp [runM_nil]
  refine hK _ _ (pwp_sr fun K hK => ?_)
  simp [runM_nil]
  refine hK _ _ (pwp_ret ⟨.inr rfl, _, _, (by simp [runM_nil, resL]; rfl), .refl _, by simp [resV]⟩)
def cpK (k : Tk) (i : Nat) : List PV := ((List.replicate i k).map tkV).flatMap cellsOf
def zeroK : List PV := [.lst 0 [] true, .int .i64 0, .int .i64 0]
theorem cpK_len (k : Tk) (i : Nat) : (cpK k i).length = i * 3 := by rw [cpK, flat_len, List.length_replicate]
theorem cpK_add (k : Tk) (i j : Nat) : cpK k (i + j) = cpK k i ++ cpK k j := by simp [cpK, ← List.replicate_append_replicate]
theorem cpK_lend (k : Tk) (i : Nat) : lendL (cpK k i) = cpK k i := (flat_tk _).lend
theorem rep_len (j : Nat) : (List.replicate j zeroK).flatten.length = j * 3 := by simp [zeroK]
theorem rep_add (i j : Nat) : (List.replicate (i + j) zeroK).flatten = (List.replicate i zeroK).flatten ++ (List.replicate j zeroK).flatten := by rw [← List.replicate_append_replicate, List.flatten_append]
/-- A row of n, of which i are filled. -/
def repG (k : Tk) (n i : Nat) : List PV := cpK k i ++ (List.replicate (n - i) zeroK).flatten
theorem repG_len (k : Tk) (n i : Nat) (h : i ≤ n) : (repG k n i).length = n * 3 := by
  rw [repG, List.length_append, cpK_len, rep_len, ← Nat.add_mul]
  congr 1
  omega
theorem repG_take (k : Tk) (n i : Nat) : (repG k n i).take (i * 3) = cpK k i := List.take_left' (cpK_len k i)
theorem repG_over (k : Tk) (n i d : Nat) (h : i + d ≤ n) : (repG k n i).take (i * 3) ++ cpK k d ++ (repG k n i).drop (i * 3 + d * 3) = repG k n (i + d) := by
  have e : n - i = d + (n - (i + d)) := by omega
  have e2 : repG k n i = (cpK k i ++ (List.replicate d zeroK).flatten) ++ (List.replicate (n - (i + d)) zeroK).flatten := by rw [repG, e, rep_add, List.append_assoc]
  rw [repG_take, e2, List.drop_left' (by rw [List.length_append, cpK_len, rep_len])]
  rw [repG, cpK_add]
/-- slices.Repeat of one task. -/
theorem repeatTk (k : Tk) (n : Nat) (hn : n ≤ 10000) : PSpec Try.prog 42 [.lst 3 [tkV k] false, .int .i64 n] (.lst 3 ((List.replicate n k).map tkV) false) := by
  intro H
  have hm := mulU 1 n (by omega) (by omega) (by omega) (by omega) (by omega)
  have wn := wu64 (x := n) (by omega) (by omega)
  have w1 := wu64 (x := 1) (by omega) (by omega)
  have wi : IntKind.i64.wrap (n : Int) = n := w64 (by omega) (by omega)
  have hng : ¬ ((n : Int) < 0) := by omega
  have hbig : ¬ (9223372036854775807 < (n : Int)) := by omega
  have hby : (n : Int) * 40 ≤ 281474976710656 := by omega
  simp only [Int.one_mul] at hm
  refine spec_of t42r (by simp [p42r]) ?_
  simp only [p42r]
  refine pwp_sr fun K hK => ?_
  simp [runM_nil]
  refine hK _ _ (pwp_rif fun K hK => ?_)
  simp [runM_nil, hng]
  refine hK _ _ (ifF (by simp [runM_nil]) (pwp_skip (pwp_sr fun K hK => ?_)))
  simp [runM_nil, wn, w1]
  refine useP hm ?_
  simp [runM_nil]
  refine hK _ _ (pwp_rif fun K hK => ?_)
  simp [runM_nil, hbig]
  refine hK _ _ (ifF (by simp [runM_nil]) (pwp_skip (pwp_sr fun K hK => ?_)))
  simp [runM_nil, planS_nil, wi, hby]
  intro b hb
  have hG0 : (List.replicate n [PV.lst 0 [] true, PV.int IntKind.i64 0, PV.int IntKind.i64 0]).flatten = repG k n 0 := by simp [repG, cpK, zeroK]
  rw [hG0]
  have hG1 := repG_over k n 0 (min 1 n) (by omega)
  have hlen := fun i h => repG_len k n i h
  have hcp1 : [PV.lst 3 (k.tr.map trV) false, .int .i64 k.dn, .int .i64 k.fl].take (min 1 n * 3) = cpK k (min 1 n) := by
    rcases Nat.eq_zero_or_pos n with h | h
    · subst h; simp [cpK]
    · rw [Nat.min_eq_left h]; simp [cpK, tkV, cellsOf]
  generalize hq : min 1 n = q at *
  have hl0 := hlen 0 (Nat.zero_le _)
  simp only [Nat.zero_mul, Nat.zero_add, List.take_zero, List.nil_append] at hG1
  refine hK _ _ (pwp_sr fun K hK => ?_)
  generalize repG k n 0 = G0 at *
  simp [runM_nil, planS_nil, hl0, tkV, hcp1, hq, hG1]
  have hqn : q ≤ n := by omega
  have hq0 : q = 0 → n = 0 := by omega
  refine hK _ _ (pwp_seq (pwp_block ?_))
  clear hK
  refine pwp_loopU [7, 8] (fun m st H' => ∃ i, i ≤ n ∧ (i = 0 → n = 0) ∧ m = n - i ∧ H' = (b, repG k n i) :: H ∧ st = MS 48 [(7, .row b 0 n n), (8, .int .i64 i)]) (n := n - q)
    ⟨_, _, keep_up (l' := [(7, .row b 0 n n), (8, .int .i64 q)]) (by simp [keepA]), List.Sublist.refl _, q, hqn, hq0, rfl, by rw [← hG1], rfl⟩ ?_
  rintro m st _ ⟨i, hi, hi0, rfl, rfl, rfl⟩
  have hln := repG_len k n i hi
  have htk := repG_take k n i
  generalize hd : min i (n - i) = d
  have hov := repG_over k n i d (by omega)
  have hcl := cpK_lend k i
  have hctk : (cpK k i).take (d * 3) = cpK k d := by
    have : i = d + (i - d) := by omega
    rw [this, cpK_add]
    exact List.take_left' (cpK_len k d)
  generalize repG k n i = G at *
  refine pwp_rif fun K hK => ?_
  by_cases hin : i < n
  · have hpos : d ≠ 0 := by omega
    have hni : n ≠ i := by omega
    have hw : IntKind.i64.wrap ((i : Int) + d) = ((i + d : Nat) : Int) := by rw [w64 (by omega) (by omega)]; omega
    have hfit : i * 3 + (n - i) * 3 ≤ n * 3 := by omega
    have hfit2 : i * 3 ≤ n * 3 := by omega
    have hle : i ≤ n := hi
    have hn0 : n ≠ 0 := by omega
    simp [runM_nil, hin]
    refine hK _ _ (ifT (by simp [runM_nil]) (pwp_skip (pwp_block (pwp_drawS hmix fun K hK => ?_))))
    simp only [List.append_assoc] at hov
    simp [runM_nil, planS_nil, hle, hni, hn0, hln, hfit, hfit2, htk, hcl, hctk, hd, hov, hw]
    refine hK _ _ ?_
    refine ⟨n - (i + d), by omega, _, _, keep_up (l' := [(7, .row b 0 n n), (8, .int .i64 (i + d : Nat))]) (by simp [keepA]), List.Sublist.refl _, i + d, by omega, by omega, rfl, by rw [← hov, htk], rfl⟩
  · have hin2 : i = n := by omega
    subst hin2
    simp [runM_nil, hin]
    refine hK _ _ (ifF (by simp [runM_nil]) (pwp_exit (pwp_sr fun K hK => ?_)))
    simp [runM_nil]
    refine hK _ _ (pwp_freeze (b := b) 3 true [] (by simp [hget]; rfl) ?_)
    have hr := rowL_of (cap := i) (flat_tk (List.replicate i k)) (by simp : _ = i) (by omega) (by simp only [maxLen]; omega) (by rw [hln]; omega) (by rw [htk, hcl]; rfl)
    rw [frzL_MS, frzH, if_pos rfl, frzH_id hb (fun x hx => by cases hx)]
    refine pwp_ret ⟨.inr rfl, [.lst 3 ((List.replicate i k).map tkV) false], _, ?_, .refl _, by simp [resV]⟩
    simp [runM_nil, planS_nil, resL, hr]
def newT (n most timeout : Int) : Tb × Int := if inB n 0 200 = true ∧ inB most 1 10 = true ∧ inB timeout 1 1000 = true then (⟨most, timeout, List.replicate n.toNat ⟨[], -1, 0⟩⟩, 0) else (⟨0, 0, []⟩, 1)
theorem New_ok (n most timeout : Int) : PSpec Try.prog 15 [.int .i64 n, .int .i64 most, .int .i64 timeout] (.tup [tbV (newT n most timeout).1, .int .i64 (newT n most timeout).2]) := by
  intro H
  refine spec_ofU t15 (by simp [p15]) ?_
  simp only [p15]
  refine pwp_sr fun K hK => ?_
  simp [runM_nil]
  intro b6 h6
  refine hK _ _ (pwp_rif fun K hK => ?_)
  have no : ∀ st', argT st' (.t 20) = .bool true → keepL [6] 0 st' = MS 29 [(6, .ptr (some (b6, 0)))] → (newT n most timeout) = (⟨0, 0, []⟩, 1) →
      K st' ((b6, [.int .i64 0, .int .i64 0, .lst 0 [] true]) :: H) := by
    intro st' e1 e2 hd
    refine hK _ _ (ifT e1 (pwp_keep [6] ?_))
    rw [e2]
    refine pwp_sr fun K hK => ?_
    simp [runM_nil]
    refine hK _ _ (pwp_retT ⟨.inr rfl, _, _, _, (by simp [runM_nil, resL]; rfl), .cons _ (.refl _), ?_, rfl, rfl⟩)
    simp [keepA, resV, hd, tbV]
  simp [runM_nil]
  refine useP (isIn _ _ _) ?_
  cases h1 : inB n 0 200 with
  | false =>
    simp [runM_nil]
    exact no _ (by simp [runM_nil]) (by simp [keepL_MS, keepA, getS]) (by simp [newT, h1])
  | true =>
    simp [runM_nil]
    refine useP (isIn _ _ _) ?_
    cases h2 : inB most 1 10 with
    | false =>
      simp [runM_nil]
      exact no _ (by simp [runM_nil]) (by simp [keepL_MS, keepA, getS]) (by simp [newT, h2])
    | true =>
      simp [runM_nil]
      refine useP (isIn _ _ _) ?_
      cases h3 : inB timeout 1 1000 with
      | false =>
        simp [runM_nil]
        exact no _ (by simp [runM_nil]) (by simp [keepL_MS, keepA, getS]) (by simp [newT, h3])
      | true =>
        have hn : 0 ≤ n ∧ n ≤ 200 := by simpa [inB] using h1
        obtain ⟨m, rfl⟩ := Int.eq_ofNat_of_zero_le hn.1
        have hr := repeatTk ⟨[], -1, 0⟩ m (by omega)
        simp [runM_nil]
        refine hK _ _ (ifF (by simp [runM_nil]) (pwp_skip (pwp_sr fun K hK => ?_)))
        simp [runM_nil]
        refine useU hr (by simp [keepA, tkV]) ?_
        simp [runM_nil]
        refine hK _ _ (pwp_ret ⟨.inr rfl, _, _, _, (by simp [runM_nil, resL]; rfl), .cons _ (.refl _), ?_, rfl, rfl⟩)
        simp [keepA, resV, newT, h1, h2, h3, tbV]
end Go.Proofs.Ytkjibelcaeanjaa.E
/- What the law asks of a table, on plain values. -/
namespace Go.Proofs.Ytkjibelcaeanjaa.E
open Go Go.RowKit Go.Proofs
set_option linter.unusedVariables false
set_option linter.unusedSimpArgs false
def fewT (t : Tb) : Bool := decide (t.l.length ≤ 50) && t.l.all fun k => decide (k.tr.length ≤ 50)
/-- Lists as long as a row may be. -/
structure Fits (t : Tb) : Prop where
  l : t.l.length ≤ 4000000000000
  tr : ∀ k ∈ t.l, k.tr.length ≤ 6000000000000
theorem few_ok (t : Tb) (hs : Fits t) : PSpec Try.prog 6 [tbV t] (.bool (fewT t)) := by
  intro H
  have hsl := hs.l
  refine spec_of t6 (by simp [p6]) ?_
  simp only [p6]
  refine pwp_sr fun K hK => ?_
  simp [runM_nil, tbV]
  refine hK _ _ (pwp_seq (pwp_sr fun K hK => ?_))
  simp [runM_nil]
  refine hK _ _ (pwp_block ?_)
  clear hK
  refine pwp_loopU [1, 3] (fun m st H' => ∃ i, i ≤ t.l.length ∧ i ≤ 50 ∧ m = t.l.length - i ∧ H' = H ∧ (∀ j, (hj : j < i) → (hj2 : j < t.l.length) → t.l[j].tr.length ≤ 50) ∧ st = MS 23 [(1, .ip 3 [tbV t] 0 0), (3, .int .i64 i)]) (n := t.l.length)
    ⟨_, H, keep_up (l' := [(1, .ip 3 [tbV t] 0 0), (3, .int .i64 0)]) (by simp [keepA, tbV]), List.Sublist.refl _, 0, Nat.zero_le _, Nat.zero_le _, rfl, rfl, fun j hj => absurd hj (Nat.not_lt_zero _), rfl⟩ ?_
  rintro m st H2 ⟨i, hi, hi50, rfl, rfl, hle, rfl⟩
  refine pwp_rif fun K hK => ?_
  by_cases hik : i < t.l.length
  · have hw : IntKind.i64.wrap ((i : Int) + 1) = ((i + 1 : Nat) : Int) := by rw [w64 (by omega) (by omega)]; rfl
    simp [runM_nil, tbV, hik]
    refine hK _ _ (ifT (by simp [runM_nil]) (pwp_skip (pwp_seq (pwp_block (pwp_rifE fun K hK => ?_)))))
    have hgx : t.l[i]? = some t.l[i] := List.getElem?_eq_getElem hik
    have no : ∀ st', argT st' (.t 22) = .bool true → keepL [1] 0 st' = MS 23 [(1, .ip 3 [tbV t] 0 0)] → fewT t = false → K st' H2 := by
      intro st' e1 e2 e3
      refine hK _ _ (ifT e1 (pwp_keep [1] ?_))
      rw [e2]
      refine pwp_sr fun K hK => ?_
      simp [runM_nil]
      refine hK _ _ (pwp_ret ⟨.inr rfl, _, _, (by simp [runM_nil, resL]; rfl), .refl _, by simp [resV, e3], rfl⟩)
    by_cases h50 : i = 50
    · subst h50
      simp [runM_nil]
      exact no _ (by simp [runM_nil]) (by simp [keepL_MS, keepA, getS, tbV]) (by simp [fewT]; omega)
    · have h50' : ¬ ((i : Int) = 50) := by omega
      by_cases hb : 50 < t.l[i].tr.length
      · have hb' : (50 : Int) < t.l[i].tr.length := by omega
        simp [runM_nil, h50', hik, tkV, hb']
        refine no _ (by simp [runM_nil, hb']) (by simp [keepL_MS, keepA, getS, tbV]) ?_
        simp only [fewT, Bool.and_eq_false_iff, List.all_eq_false]
        exact .inr ⟨t.l[i], List.getElem_mem hik, by simp; omega⟩
      · have hb' : ¬ (50 : Int) < t.l[i].tr.length := by omega
        simp [runM_nil, h50', hik, tkV, hb']
        refine hK _ _ (ifF (by simp [runM_nil, hb']) (pwp_skip (pwp_regionM fun K hK => ?_)))
        simp [runM_nil, hw]
        refine hK _ _ ⟨t.l.length - (i + 1), by omega, _, _, keep_up (l' := [(1, .ip 3 [tbV t] 0 0), (3, .int .i64 (i + 1 : Nat))]) (by simp [keepA, tbV]), List.Sublist.refl _, i + 1, by omega, by omega, rfl, rfl, fun j hj hj2 => ?_, rfl⟩
        rcases Nat.lt_or_ge j i with h | h
        · exact hle j h hj2
        · obtain rfl : j = i := by omega
          omega
  · simp [runM_nil, tbV, hik]
    refine hK _ _ (ifF (by simp [runM_nil]) (pwp_exit (pwp_sr fun K hK => ?_)))
    simp [runM_nil]
    refine hK _ _ (pwp_ret ⟨.inr rfl, _, _, (by simp [runM_nil, resL]; rfl), .refl _, ?_, rfl⟩)
    have : fewT t = true := by
      simp only [fewT, Bool.and_eq_true, decide_eq_true_eq, List.all_eq_true]
      refine ⟨by omega, fun k hk => ?_⟩
      obtain ⟨j, hj, rfl⟩ := List.getElem_of_mem hk
      exact hle j (by omega) hj
    simp [resV, this]
def okB (x : Tr) : Bool := decide (0 ≤ x.b) && decide (x.b ≤ 1000000000)
def timedT (t : Tb) : Bool := t.l.all fun k => k.tr.all okB
theorem all_take_succ {α : Type} {p : α → Bool} {l : List α} {i : Nat} (h : (l.take i).all p = true) (hi : i < l.length) (hp : p l[i] = true) : (l.take (i + 1)).all p = true := by
  rw [List.take_succ_eq_append_getElem hi, List.all_append, h]
  simp [hp]
theorem all_false {α : Type} {p : α → Bool} {l : List α} {i : Nat} (hi : i < l.length) (hp : p l[i] = false) : l.all p = false := by
  rw [List.all_eq_false]
  exact ⟨_, List.getElem_mem hi, by rw [hp]; simp⟩
set_option maxRecDepth 4000 in
theorem timed_ok (t : Tb) (hs : Fits t) : PSpec Try.prog 7 [tbV t] (.bool (timedT t)) := by
  intro H
  have hsl := hs.l
  refine spec_of t7 (by simp [p7]) ?_
  simp only [p7]
  refine pwp_sr fun K hK => ?_
  simp [runM_nil, tbV]
  refine hK _ _ (pwp_seq (pwp_sr fun K hK => ?_))
  simp [runM_nil]
  refine hK _ _ (pwp_block ?_)
  clear hK
  refine pwp_loopU [1, 3] (fun m st H' => ∃ i, i ≤ t.l.length ∧ m = t.l.length - i ∧ H' = H ∧ (t.l.take i).all (fun k => k.tr.all okB) = true ∧ st = MS 47 [(1, .ip 3 [tbV t] 0 0), (3, .int .i64 i)]) (n := t.l.length)
    ⟨_, H, keep_up (l' := [(1, .ip 3 [tbV t] 0 0), (3, .int .i64 0)]) (by simp [keepA, tbV]), List.Sublist.refl _, 0, Nat.zero_le _, rfl, rfl, by simp, rfl⟩ ?_
  rintro m st H2 ⟨i, hi, rfl, rfl, hle, rfl⟩
  refine pwp_rif fun K hK => ?_
  by_cases hik : i < t.l.length
  · have hw : IntKind.i64.wrap ((i : Int) + 1) = ((i + 1 : Nat) : Int) := by rw [w64 (by omega) (by omega)]; rfl
    simp [runM_nil, tbV, hik]
    refine hK _ _ (ifT (by simp [runM_nil]) (pwp_skip (pwp_seq (pwp_block (pwp_sr fun K hK => ?_)))))
    have hgx : t.l[i]? = some t.l[i] := List.getElem?_eq_getElem hik
    have hks := hs.tr _ (List.getElem_mem hik)
    have hno : t.l[i].tr.all okB = false → timedT t = false := fun h => all_false hik h
    have hyes : t.l[i].tr.all okB = true → (t.l.take (i + 1)).all (fun k => k.tr.all okB) = true := fun h => all_take_succ hle hik h
    generalize hkk : t.l[i] = k at *
    simp [runM_nil]
    refine hK _ _ (pwp_block ?_)
    clear hK
    refine pwp_loopU [1, 3, 4] (fun m st H3 => ∃ j, j ≤ k.tr.length ∧ m = k.tr.length - j ∧ H3 = H2 ∧ (k.tr.take j).all okB = true ∧ st = MS 47 [(1, .ip 3 [tbV t] 0 0), (3, .int .i64 i), (4, .int .i64 j)]) (n := k.tr.length)
      ⟨_, H2, keep_up (l' := [(1, .ip 3 [tbV t] 0 0), (3, .int .i64 i), (4, .int .i64 0)]) (by simp [keepA, tbV]), List.Sublist.refl _, 0, Nat.zero_le _, rfl, rfl, by simp, rfl⟩ ?_
    rintro m st H3 ⟨j, hj, rfl, rfl, hle2, rfl⟩
    refine pwp_rif fun K hK => ?_
    by_cases hjk : j < k.tr.length
    · have hw2 : IntKind.i64.wrap ((j : Int) + 1) = ((j + 1 : Nat) : Int) := by rw [w64 (by omega) (by omega)]; rfl
      simp [runM_nil, tbV, hik, hkk, tkV, hjk]
      refine hK _ _ (ifT (by simp [runM_nil]) (pwp_skip (pwp_seq (pwp_block (pwp_rifE fun K hK => ?_)))))
      have hgy : k.tr[j]? = some k.tr[j] := List.getElem?_eq_getElem hjk
      have hno2 : okB k.tr[j] = false → timedT t = false := fun h => hno (all_false hjk h)
      have hyes2 : okB k.tr[j] = true → (k.tr.take (j + 1)).all okB = true := fun h => all_take_succ hle2 hjk h
      generalize hxx : k.tr[j] = x at *
      have no : ∀ st', argT st' (.t 46) = .bool true → keepL [1] 0 st' = MS 47 [(1, .ip 3 [tbV t] 0 0)] → timedT t = false → K st' H3 := by
        intro st' e1 e2 e3
        refine hK _ _ (ifT e1 (pwp_keep [1] ?_))
        rw [e2]
        refine pwp_sr fun K hK => ?_
        simp [runM_nil]
        refine hK _ _ (pwp_ret ⟨.inr rfl, _, _, (by simp [runM_nil, resL]; rfl), .refl _, by simp [resV, e3], rfl⟩)
      by_cases h1 : x.b < 0
      · simp [runM_nil, hik, hkk, tkV, hjk, hxx, trV, h1]
        exact no _ (by simp [runM_nil]) (by simp [keepL_MS, keepA, getS, tbV]) (hno2 (by simp [okB, Int.not_le.2 h1]))
      · by_cases h2 : 1000000000 < x.b
        · simp [runM_nil, hik, hkk, tkV, hjk, hxx, trV, h1, h2]
          exact no _ (by simp [runM_nil]) (by simp [keepL_MS, keepA, getS, tbV]) (hno2 (by simp [okB, Int.not_le.2 h2]))
        · simp [runM_nil, hik, hkk, tkV, hjk, hxx, trV, h1, h2]
          refine hK _ _ (ifF (by simp [runM_nil]) (pwp_skip (pwp_regionM fun K hK => ?_)))
          simp [runM_nil, hw2]
          exact hK _ _ ⟨k.tr.length - (j + 1), by omega, _, _, keep_up (l' := [(1, .ip 3 [tbV t] 0 0), (3, .int .i64 i), (4, .int .i64 (j + 1 : Nat))]) (by simp [keepA, tbV]), List.Sublist.refl _, j + 1, by omega, rfl, rfl, hyes2 (by simp [okB, Int.not_lt.1 h1, Int.not_lt.1 h2]), rfl⟩
    · simp [runM_nil, tbV, hik, hkk, tkV, hjk]
      refine hK _ _ (ifF (by simp [runM_nil]) (pwp_exit ?_))
      have hjl : j = k.tr.length := by omega
      subst hjl
      rw [List.take_length] at hle2
      refine pwp_regionM fun K hK => ?_
      simp [runM_nil, hw]
      exact hK _ _ ⟨t.l.length - (i + 1), by omega, _, _, keep_up (l' := [(1, .ip 3 [tbV t] 0 0), (3, .int .i64 (i + 1 : Nat))]) (by simp [keepA, tbV]), List.Sublist.refl _, i + 1, by omega, rfl, rfl, hyes hle2, rfl⟩
  · simp [runM_nil, tbV, hik]
    refine hK _ _ (ifF (by simp [runM_nil]) (pwp_exit (pwp_sr fun K hK => ?_)))
    simp [runM_nil]
    have hil : i = t.l.length := by omega
    rw [hil, List.take_length] at hle
    refine hK _ _ (pwp_ret ⟨.inr rfl, _, _, (by simp [runM_nil, resL]; rfl), .refl _, by simp only [resV, timedT, hle], rfl⟩)
theorem small_ok (a b c d n : Int) : PSpec Try.prog 10 [.agg [.int .i64 a, .int .i64 b, .int .i64 c, .int .i64 d, .int .i64 n]] (.bool (decide (0 ≤ n) && decide (n ≤ 1000000000))) := by
  intro H
  refine spec_of t10 (by simp [p10]) ?_
  simp only [p10]
  refine pwp_sr fun K hK => ?_
  simp [runM_nil]
  refine hK _ _ (pwp_sr fun K hK => ?_)
  by_cases h : 0 ≤ n
  all_goals
    simp [runM_nil, h]
    refine hK _ _ (pwp_ret ?_)
    simp [runM_nil, resL, resV, h]
end Go.Proofs.Ytkjibelcaeanjaa.E
/- A table as the document's, on plain values. -/
namespace Go.Proofs.Ytkjibelcaeanjaa.E
open Go Go.RowKit Go.Proofs
set_option linter.unusedVariables false
set_option linter.unusedSimpArgs false
set_option maxRecDepth 4000 in
theorem plain_ok (t : Tb) (hs : Small t) : PSpec Try.prog 9 [tbV t] (tbV t) := by
  intro H
  have hsl := hs.l
  refine spec_of t9p (by simp [p9p]) ?_
  simp only [p9p]
  refine pwp_sr fun K hK => ?_
  simp [runM_nil, tbV]
  intro b2 h2
  refine hK _ _ (pwp_sr fun K hK => ?_)
  simp [runM_nil]
  intro b3 h3
  obtain ⟨n23, h3⟩ := hget_cons_none.1 h3
  refine hK _ _ (pwp_seq (pwp_sr fun K hK => ?_))
  simp [runM_nil]
  refine hK _ _ (pwp_block ?_)
  clear hK
  refine pwp_loopV [1, 2, 3, 4] (fun m st H' => ∃ i, i ≤ t.l.length ∧ m = t.l.length - i ∧ H' = (b3, [.int .i64 t.cap, .int .i64 t.tm, .lst 3 ((t.l.take i).map tkV) true]) :: (b2, [.int .i64 0, .int .i64 0, .lst 0 [] true]) :: H ∧
      st = MS 72 [(1, .ip 3 [tbV t] 0 0), (2, .ptr (some (b2, 0))), (3, .ptr (some (b3, 0))), (4, .int .i64 i)]) (n := t.l.length)
    ⟨_, _, _, keep_up (l' := [(1, .ip 3 [tbV t] 0 0), (2, .ptr (some (b2, 0))), (3, .ptr (some (b3, 0))), (4, .int .i64 0)]) (by simp [keepA, tbV]), List.Sublist.refl _, ?_, 0, Nat.zero_le _, rfl, rfl, rfl⟩ ?_
  · simp [HUp, HUp_refl, keepA]
  rintro m st H2 ⟨i, hi, rfl, rfl, rfl⟩
  refine pwp_rif fun K hK => ?_
  by_cases hik : i < t.l.length
  · have hw : IntKind.i64.wrap ((i : Int) + 1) = ((i + 1 : Nat) : Int) := by rw [w64 (by omega) (by omega)]; rfl
    have hgx : t.l[i]? = some t.l[i] := List.getElem?_eq_getElem hik
    have hks := hs.tr _ (List.getElem_mem hik)
    have hacc := map_take_succ tkV t.l i hik
    generalize hkk : t.l[i] = k at *
    generalize haccD : (t.l.take i).map tkV = acc at *
    have hal : acc.length = i := by rw [← haccD]; simp; omega
    simp [runM_nil, tbV, hik]
    refine hK _ _ (ifT (by simp [runM_nil]) (pwp_skip (pwp_seq (pwp_block (pwp_sn hmix (by simp [MS_length]) fun K hK => ?_)))))
    simp [runM_nil, planS_nil, hik, hkk, tkV]
    intro b5 h5
    obtain ⟨n35, h5⟩ := ite_none h5
    obtain ⟨n25, h5⟩ := ite_none h5
    refine hK _ _ (pwp_seq (pwp_sr fun K hK => ?_))
    simp [runM_nil]
    refine hK _ _ (pwp_block ?_)
    clear hK
    refine pwp_loopV [1, 2, 3, 4, 5, 6] (fun m st H' => ∃ j, j ≤ k.tr.length ∧ m = k.tr.length - j ∧ H' = (b5, [.lst 3 ((k.tr.take j).map trV) true, .int .i64 k.dn, .int .i64 k.fl]) :: (b3, [.int .i64 t.cap, .int .i64 t.tm, .lst 3 acc true]) :: (b2, [.int .i64 0, .int .i64 0, .lst 0 [] true]) :: H ∧
        st = MS 72 [(1, .ip 3 [tbV t] 0 0), (2, .ptr (some (b2, 0))), (3, .ptr (some (b3, 0))), (4, .int .i64 i), (5, .ptr (some (b5, 0))), (6, .int .i64 j)]) (n := k.tr.length)
      ⟨_, _, _, keep_up (l' := [(1, .ip 3 [tbV t] 0 0), (2, .ptr (some (b2, 0))), (3, .ptr (some (b3, 0))), (4, .int .i64 i), (5, .ptr (some (b5, 0))), (6, .int .i64 0)]) (by simp [keepA, tbV]), List.Sublist.refl _, ?_, 0, Nat.zero_le _, rfl, rfl, rfl⟩ ?_
    · simp [HUp, HUp_refl, keepA]
    rintro m st H2 ⟨j, hj, rfl, rfl, rfl⟩
    refine pwp_rif fun K hK => ?_
    by_cases hjk : j < k.tr.length
    · have hw2 : IntKind.i64.wrap ((j : Int) + 1) = ((j + 1 : Nat) : Int) := by rw [w64 (by omega) (by omega)]; rfl
      have hgy : k.tr[j]? = some k.tr[j] := List.getElem?_eq_getElem hjk
      have hacc2 := map_take_succ trV k.tr j hjk
      generalize hxx : k.tr[j] = x at *
      generalize hacc2D : (k.tr.take j).map trV = acc2 at *
      have hal2 : acc2.length = j := by rw [← hacc2D]; simp; omega
      have hby : (acc2.length + 1) * 24 ≤ 140737488355328 := by omega
      simp [runM_nil, tbV, hik, hkk, tkV, hjk]
      refine hK _ _ (ifT (by simp [runM_nil]) (pwp_skip (pwp_seq (pwp_block (pwp_sr fun K hK => ?_)))))
      simp [runM_nil, hik, hkk, tkV, hjk, hxx, trV]
      intro b7 h7
      obtain ⟨n57, h7⟩ := ite_none h7
      obtain ⟨n37, h7⟩ := ite_none h7
      obtain ⟨n27, h7⟩ := ite_none h7
      refine hK _ _ (pwp_regionM fun K hK => ?_)
      simp [runM_nil, n57, Ne.symm n57, n37, Ne.symm n37, n27, Ne.symm n27, n35, Ne.symm n35, n25, Ne.symm n25, hby]
      refine hK _ _ (pwp_regionM fun K hK => ?_)
      simp [runM_nil, hw2]
      refine hK _ _ ⟨k.tr.length - (j + 1), by omega, _, _, _, keep_up (l' := [(1, .ip 3 [tbV t] 0 0), (2, .ptr (some (b2, 0))), (3, .ptr (some (b3, 0))), (4, .int .i64 i), (5, .ptr (some (b5, 0))), (6, .int .i64 (j + 1 : Nat))]) (by simp [keepA, tbV]), .cons _ (List.Sublist.refl _), HUp_refl _, j + 1, by omega, rfl, ?_, rfl⟩
      rw [hacc2]
      rfl
    · have hjl : j = k.tr.length := by omega
      simp [runM_nil, tbV, hik, hkk, tkV, hjk]
      refine hK _ _ (ifF (by simp [runM_nil]) (pwp_exit (pwp_regionM fun K hK => ?_)))
      have hby : (acc.length + 1) * 40 ≤ 140737488355328 := by omega
      have hfull : (k.tr.map trV).take j = k.tr.map trV := List.take_of_length_le (by rw [List.length_map]; omega)
      rw [hfull]
      simp [runM_nil, n35, Ne.symm n35, n25, Ne.symm n25, n23, Ne.symm n23, hby]
      refine hK _ _ (pwp_regionM fun K hK => ?_)
      simp [runM_nil, hw]
      refine hK _ _ ⟨t.l.length - (i + 1), by omega, _, _, _, keep_up (l' := [(1, .ip 3 [tbV t] 0 0), (2, .ptr (some (b2, 0))), (3, .ptr (some (b3, 0))), (4, .int .i64 (i + 1 : Nat))]) (by simp [keepA, tbV]), .cons _ (List.Sublist.refl _), HUp_refl _, i + 1, by omega, rfl, ?_, rfl⟩
      rw [hacc]
      rfl
  · have hil : i = t.l.length := by omega
    have hfull : (t.l.map tkV).take i = t.l.map tkV := List.take_of_length_le (by rw [List.length_map]; omega)
    simp [runM_nil, tbV, hik]
    refine hK _ _ (ifF (by simp [runM_nil]) (pwp_exit (pwp_sr fun K hK => ?_)))
    simp [runM_nil, n23, Ne.symm n23]
    refine hK _ _ (pwp_ret ⟨.inr rfl, _, _, (by simp [runM_nil, resL, n23, Ne.symm n23]; rfl), .cons _ (.cons _ (.refl _)), ?_, rfl⟩)
    rw [hfull]
    simp [resV, tbV]
end Go.Proofs.Ytkjibelcaeanjaa.E
/- The document's May, on plain values. -/
namespace Go.Proofs.Ytkjibelcaeanjaa.E
open Go Go.RowKit Go.Proofs
set_option linter.unusedVariables false
set_option linter.unusedSimpArgs false
def isO (l : List Tr) (i : Nat) : Bool := match l[i]? with | some x => x.o | none => false
/-- The places of the open ones. -/
def openIx (l : List Tr) : List Nat := (List.range l.length).filter (isO l)
theorem range_filter_succ (p : Nat → Bool) (i : Nat) : (List.range (i + 1)).filter p = (List.range i).filter p ++ (if p i then [i] else []) := by
  rw [List.range_succ, List.filter_append]
  simp [List.filter_cons]
theorem openIx_get (l : List Tr) : ∀ i, i ≤ l.length → ((List.range i).filter (isO l)).filterMap (fun j => l[j]?) = (l.take i).filter (·.o)
  | 0, _ => by simp
  | i + 1, h => by
    have hi : i < l.length := by omega
    rw [range_filter_succ, List.filterMap_append, openIx_get l i (by omega), take_filter_succ _ _ _ hi]
    congr 1
    have hg : l[i]? = some l[i] := List.getElem?_eq_getElem hi
    have ho : isO l i = l[i].o := by simp [isO, hg]
    rw [ho]
    cases l[i].o <;> simp [hg]
theorem openIx_opn (k : Tk) : (openIx k.tr).filterMap (fun j => k.tr[j]?) = opn k := by
  have := openIx_get k.tr k.tr.length (Nat.le_refl _)
  rwa [List.take_length] at this
theorem openIx_lt {l : List Tr} {j : Nat} (h : j ∈ openIx l) : j < l.length := List.mem_range.1 (List.mem_filter.1 h).1
theorem openIx_shape (k : Tk) : (openIx k.tr = [] ∧ opn k = []) ∨ (∃ i x, openIx k.tr = [i] ∧ k.tr[i]? = some x ∧ opn k = [x]) ∨ (∃ i j x y, openIx k.tr = [i, j] ∧ k.tr[i]? = some x ∧ k.tr[j]? = some y ∧ opn k = [x, y]) ∨
    (3 ≤ (openIx k.tr).length ∧ 3 ≤ (opn k).length) := by
  have h := openIx_opn k
  have hall : ∀ j ∈ openIx k.tr, ∃ x, k.tr[j]? = some x := fun j hj => ⟨_, List.getElem?_eq_getElem (openIx_lt hj)⟩
  generalize openIx k.tr = l at *
  rcases l with _ | ⟨i, _ | ⟨j, _ | ⟨m, l⟩⟩⟩
  · exact .inl ⟨rfl, by simpa using h.symm⟩
  · obtain ⟨x, hx⟩ := hall i (by simp)
    exact .inr (.inl ⟨i, x, rfl, hx, by simpa [hx] using h.symm⟩)
  · obtain ⟨x, hx⟩ := hall i (by simp)
    obtain ⟨y, hy⟩ := hall j (by simp)
    exact .inr (.inr (.inl ⟨i, j, x, y, rfl, hx, hy, by simpa [hx, hy] using h.symm⟩))
  · obtain ⟨x, hx⟩ := hall i (by simp)
    obtain ⟨y, hy⟩ := hall j (by simp)
    obtain ⟨z, hz⟩ := hall m (by simp)
    refine .inr (.inr (.inr ⟨by simp, ?_⟩))
    rw [← h]
    simp [hx, hy, hz]
def natsV (l : List Nat) : List PV := l.map fun (i : Nat) => .int .i64 (i : Int)
theorem refOpen_ok (k : Tk) (hl : k.tr.length ≤ 400000) : PSpec Try.prog 28 [tkV k] (.lst 1 (natsV (openIx k.tr)) true) := by
  intro H
  refine spec_of t28 (by simp [p28]) ?_
  simp only [p28]
  refine pwp_sr fun K hK => ?_
  simp [runM_nil, tkV]
  refine hK _ _ (pwp_sr fun K hK => ?_)
  simp [runM_nil]
  refine hK _ _ (pwp_seq (pwp_sr fun K hK => ?_))
  simp [runM_nil]
  refine hK _ _ (pwp_block ?_)
  clear hK
  refine pwp_loopU [1, 3, 4] (fun m st H' => ∃ i, i ≤ k.tr.length ∧ m = k.tr.length - i ∧ H' = H ∧ st = MS 24 [(1, .ip 3 [tkV k] 0 0), (3, .lst 1 (natsV ((List.range i).filter (isO k.tr))) true), (4, .int .i64 i)]) (n := k.tr.length)
    ⟨_, H, keep_up (l' := [(1, .ip 3 [tkV k] 0 0), (3, .lst 1 [] true), (4, .int .i64 0)]) (by simp [keepA, tkV]), List.Sublist.refl _, 0, Nat.zero_le _, rfl, rfl, rfl⟩ ?_
  rintro m st H2 ⟨i, hi, rfl, rfl, rfl⟩
  refine pwp_rif fun K hK => ?_
  by_cases hik : i < k.tr.length
  · have hw : IntKind.i64.wrap ((i : Int) + 1) = ((i + 1 : Nat) : Int) := by rw [w64 (by omega) (by omega)]; rfl
    have hgx : k.tr[i]? = some k.tr[i] := List.getElem?_eq_getElem hik
    have hfs := range_filter_succ (isO k.tr) i
    have hfl : ((List.range i).filter (isO k.tr)).length ≤ i := Nat.le_trans (List.length_filter_le _ _) (by simp)
    have hio : isO k.tr i = k.tr[i].o := by simp [isO, hgx]
    generalize haccD : (List.range i).filter (isO k.tr) = acc at *
    generalize hxx : k.tr[i] = x at *
    simp [runM_nil, tkV, hik]
    refine hK _ _ (ifT (by simp [runM_nil]) (pwp_skip (pwp_seq (pwp_block (pwp_rifE fun K hK => ?_)))))
    simp [runM_nil, hik, hxx, trV]
    have hby : ((natsV acc).length + 1) * 8 ≤ 140737488355328 := by simp only [natsV, List.length_map]; omega
    cases ho : x.o with
    | true =>
      refine hK _ _ (ifT (by simp [runM_nil, ho]) (pwp_regionM fun K hK => ?_))
      simp [runM_nil, hby]
      refine hK _ _ (pwp_regionM fun K hK => ?_)
      simp [runM_nil, hw]
      refine hK _ _ ⟨k.tr.length - (i + 1), by omega, _, _, keep_up (l' := [(1, .ip 3 [tkV k] 0 0), (3, .lst 1 (natsV ((List.range (i + 1)).filter (isO k.tr))) true), (4, .int .i64 (i + 1 : Nat))]) ?_, List.Sublist.refl _, i + 1, by omega, rfl, rfl, rfl⟩
      rw [hfs, hio, ho]
      simp [keepA, tkV, natsV]
    | false =>
      refine hK _ _ (ifF (by simp [runM_nil, ho]) (pwp_skip (pwp_regionM fun K hK => ?_)))
      simp [runM_nil, hw]
      refine hK _ _ ⟨k.tr.length - (i + 1), by omega, _, _, keep_up (l' := [(1, .ip 3 [tkV k] 0 0), (3, .lst 1 (natsV ((List.range (i + 1)).filter (isO k.tr))) true), (4, .int .i64 (i + 1 : Nat))]) ?_, List.Sublist.refl _, i + 1, by omega, rfl, rfl, rfl⟩
      rw [hfs, hio, ho]
      simp [keepA, tkV, natsV]
  · have hil : i = k.tr.length := by omega
    simp [runM_nil, tkV, hik]
    refine hK _ _ (ifF (by simp [runM_nil]) (pwp_exit (pwp_sr fun K hK => ?_)))
    simp [runM_nil]
    refine hK _ _ (pwp_ret ⟨.inr rfl, _, _, (by simp [runM_nil, resL]; rfl), .refl _, by rw [hil]; simp [resV, openIx], rfl⟩)
set_option maxRecDepth 8000 in
set_option maxHeartbeats 4000000 in
theorem refMay_ok (t : Tb) (hs : Small t) : PSpec Try.prog 8 [tbV t] (.bool (mayT t)) := by
  intro H
  have hsl := hs.l
  refine spec_of t8 (by simp [p8]) ?_
  simp only [p8]
  refine pwp_sr fun K hK => ?_
  simp [runM_nil, tbV]
  refine hK _ _ (pwp_rif fun K hK => ?_)
  have no : ∀ st', argT st' (.t 29) = .bool true → keepL [1] 0 st' = MS 103 [(1, .ip 3 [tbV t] 0 0)] → mayT t = false → K st' H := by
    intro st' e1 e2 e3
    refine hK _ _ (ifT e1 (pwp_keep [1] ?_))
    rw [e2]
    refine pwp_sr fun K hK => ?_
    simp [runM_nil]
    refine hK _ _ (pwp_retT ⟨.inr rfl, _, _, (by simp [runM_nil, resL]; rfl), .refl _, by simp [resV, e3], rfl⟩)
  by_cases h1 : t.cap < 1
  · simp [runM_nil, h1]
    exact no _ (by simp [runM_nil]) (by simp [keepL_MS, keepA, getS, tbV]) (by simp [mayT, inB]; intros; omega)
  by_cases h2 : 10 < t.cap
  · simp [runM_nil, h1, h2]
    exact no _ (by simp [runM_nil]) (by simp [keepL_MS, keepA, getS, tbV]) (by simp [mayT, inB]; intros; omega)
  by_cases h3 : t.tm < 1
  · simp [runM_nil, h1, h2, h3]
    exact no _ (by simp [runM_nil]) (by simp [keepL_MS, keepA, getS, tbV]) (by simp [mayT, inB]; intros; omega)
  by_cases h4 : 1000 < t.tm
  · simp [runM_nil, h1, h2, h3, h4]
    exact no _ (by simp [runM_nil]) (by simp [keepL_MS, keepA, getS, tbV]) (by simp [mayT, inB]; intros; omega)
  by_cases h5 : (200 : Int) < t.l.length
  · simp [runM_nil, h1, h2, h3, h4, h5]
    exact no _ (by simp [runM_nil]) (by simp [keepL_MS, keepA, getS, tbV]) (by simp [mayT, inB]; intros; omega)
  have hmay : mayT t = t.l.all mayK := by
    have e1 : inB t.cap 1 10 = true := by simp [inB]; omega
    have e2 : inB t.tm 1 1000 = true := by simp [inB]; omega
    have e3 : decide ((t.l.length : Int) ≤ 200) = true := by simp; omega
    simp only [mayT, e1, e2, e3, Bool.true_and]
  clear no
  simp [runM_nil, h1, h2, h3, h4, h5]
  refine hK _ _ (ifF (by simp [runM_nil]) (pwp_skip (pwp_seq (pwp_sr fun K hK => ?_))))
  simp [runM_nil]
  refine hK _ _ (pwp_block ?_)
  clear hK
  refine pwp_loopU [1, 3] (fun m st H' => ∃ i, i ≤ t.l.length ∧ m = t.l.length - i ∧ H' = H ∧ (t.l.take i).all mayK = true ∧ st = MS 103 [(1, .ip 3 [tbV t] 0 0), (3, .int .i64 i)]) (n := t.l.length)
    ⟨_, H, keep_up (l' := [(1, .ip 3 [tbV t] 0 0), (3, .int .i64 0)]) (by simp [keepA, tbV]), List.Sublist.refl _, 0, Nat.zero_le _, rfl, rfl, by simp, rfl⟩ ?_
  rintro m st H2 ⟨i, hi, rfl, rfl, hle, rfl⟩
  refine pwp_rif fun K hK => ?_
  by_cases hik : i < t.l.length
  · have hw : IntKind.i64.wrap ((i : Int) + 1) = ((i + 1 : Nat) : Int) := by rw [w64 (by omega) (by omega)]; rfl
    have hgx : t.l[i]? = some t.l[i] := List.getElem?_eq_getElem hik
    have hks := hs.tr _ (List.getElem_mem hik)
    have hnok : mayK t.l[i] = false → mayT t = false := fun h => by rw [hmay]; exact all_false hik h
    have hyes : mayK t.l[i] = true → (t.l.take (i + 1)).all mayK = true := fun h => all_take_succ hle hik h
    generalize hkk : t.l[i] = k at *
    have hop := refOpen_ok k hks
    simp only [tkV] at hop
    simp [runM_nil, tbV, hik]
    refine hK _ _ (ifT (by simp [runM_nil]) (pwp_skip (pwp_seq (pwp_block (pwp_sr fun K hK => ?_)))))
    simp [runM_nil, hik, hkk, tkV]
    intro b4 h4b
    refine hK _ _ (pwp_freeze (b := b4) 3 true [] (by simp [hget]; rfl) ?_)
    rw [frzL_MS, frzH, if_pos rfl, frzH_id h4b (fun x hx => by cases hx)]
    have hel : ∀ n l, frzL b4 (rowL n true l) (ptrL l) (List.map tkV t.l) = List.map tkV t.l := fun n l => by
      rw [frzL_eq_map, List.map_map]
      exact List.map_congr_left fun k _ => by simp [tkV, frz, frzL]
    refine pwp_kept (keep := [1, 3, 4]) (l' := [(1, .ip 3 [tbV t] 0 0), (3, .int .i64 i), (4, .ip 3 [.agg [.lst 3 (k.tr.map trV) false, .int .i64 k.dn, .int .i64 k.fl]] 0 0)]) (by simp [planS_nil, keepA, getS, ptrL, lendL, lend, tbV]) ?_
    refine pwp_sr fun K hK => ?_
    simp [runM_nil]
    refine useP hop ?_
    simp [runM_nil]
    refine hK _ _ (pwp_rif fun K hK => ?_)
    clear hop
    have no : ∀ st', argT st' (.t 80) = .bool true → keepL [1] 0 st' = MS 103 [(1, .ip 3 [tbV t] 0 0)] → mayK k = false → K st' H2 := by
      intro st' e1 e2 e3
      refine hK _ _ (ifT e1 (pwp_keep [1] ?_))
      rw [e2]
      refine pwp_sr fun K hK => ?_
      simp [runM_nil]
      refine hK _ _ (pwp_ret ⟨.inr rfl, _, _, (by simp [runM_nil, resL]; rfl), .refl _, by simp [resV, hnok e3], rfl⟩)
    by_cases c1 : (500 : Int) < k.tr.length
    · simp [runM_nil, c1]
      exact no _ (by simp [runM_nil]) (by simp [keepL_MS, keepA, getS, tbV]) (by simp [mayK]; intros; omega)
    by_cases c2 : k.dn < -1
    · simp [runM_nil, c1, c2]
      exact no _ (by simp [runM_nil]) (by simp [keepL_MS, keepA, getS, tbV]) (by simp [mayK, inB]; intros; omega)
    by_cases c3 : (k.tr.length : Int) ≤ k.dn
    · simp [runM_nil, c1, c2, c3]
      exact no _ (by simp [runM_nil]) (by simp [keepL_MS, keepA, getS, tbV]) (by simp [mayK, inB]; intros; omega)
    by_cases c4 : k.fl < 0
    · simp [runM_nil, c1, c2, c3, c4]
      exact no _ (by simp [runM_nil]) (by simp [keepL_MS, keepA, getS, tbV]) (by simp [mayK, inB]; intros; omega)
    have hmk : mayK k = (decide (((opn k).length : Int) ≤ 2) && (!twice (opn k) && (decide (opn k = []) || decide (k.dn = -1)))) := by
      have e1 : decide ((k.tr.length : Int) ≤ 500) = true := by simp; omega
      have e2 : inB k.dn (-1) (k.tr.length - 1) = true := by simp [inB]; omega
      have e3 : decide (0 ≤ k.fl) = true := by simp; omega
      simp only [mayK, e1, e2, e3, Bool.true_and]
    rcases openIx_shape k with ⟨ex, eo⟩ | ⟨x0, y0, ex, hx0, eo⟩ | ⟨x0, x1, y0, y1, ex, hx0, hx1, eo⟩ | ⟨hx3, ho3⟩
    · rw [eo] at hmk
      have hmt : mayK k = true := by rw [hmk]; simp [twice]
      rw [ex]
      simp [runM_nil, c1, c2, c3, c4, natsV]
      refine hK _ _ (ifF (by simp [runM_nil]) (pwp_skip ?_))
      refine pwp_difE hmix ?_
      intro K hK
      simp [runM_nil]
      refine hK _ _ (ifF (by simp [runM_nil]) (pwp_skip (pwp_regionM fun K hK => ?_)))
      simp [runM_nil, hw]
      exact hK _ _ ⟨t.l.length - (i + 1), by omega, _, _, keep_up (l' := [(1, .ip 3 [tbV t] 0 0), (3, .int .i64 (i + 1 : Nat))]) (by simp [keepA, tbV]), List.Sublist.refl _, i + 1, by omega, rfl, rfl, hyes hmt, rfl⟩
    · rw [eo] at hmk
      rw [ex]
      by_cases c5 : 0 ≤ k.dn
      · simp [runM_nil, c1, c2, c3, c4, natsV, c5]
        exact no _ (by simp [runM_nil]) (by simp [keepL_MS, keepA, getS, tbV]) (by rw [hmk]; simp [twice]; omega)
      · have hmt : mayK k = true := by rw [hmk]; simp [twice]; omega
        simp [runM_nil, c1, c2, c3, c4, natsV, c5]
        refine hK _ _ (ifF (by simp [runM_nil]) (pwp_skip ?_))
        refine pwp_difE hmix ?_
        intro K hK
        simp [runM_nil]
        refine hK _ _ (ifF (by simp [runM_nil]) (pwp_skip (pwp_regionM fun K hK => ?_)))
        simp [runM_nil, hw]
        exact hK _ _ ⟨t.l.length - (i + 1), by omega, _, _, keep_up (l' := [(1, .ip 3 [tbV t] 0 0), (3, .int .i64 (i + 1 : Nat))]) (by simp [keepA, tbV]), List.Sublist.refl _, i + 1, by omega, rfl, rfl, hyes hmt, rfl⟩
    · rw [eo] at hmk
      rw [ex]
      have hl0 : x0 < k.tr.length := (List.getElem?_eq_some_iff.1 hx0).1
      have hl1 : x1 < k.tr.length := (List.getElem?_eq_some_iff.1 hx1).1
      have hg0 : k.tr[x0] = y0 := (List.getElem?_eq_some_iff.1 hx0).2
      have hg1 : k.tr[x1] = y1 := (List.getElem?_eq_some_iff.1 hx1).2
      by_cases c5 : 0 ≤ k.dn
      · simp [runM_nil, c1, c2, c3, c4, natsV, c5]
        exact no _ (by simp [runM_nil]) (by simp [keepL_MS, keepA, getS, tbV]) (by rw [hmk]; simp [twice]; omega)
      by_cases c6 : y0.w = y1.w
      · have hmf : mayK k = false := by rw [hmk]; simp [twice, c6]
        simp [runM_nil, c1, c2, c3, c4, natsV, c5]
        refine hK _ _ (ifF (by simp [runM_nil]) (pwp_skip ?_))
        refine pwp_difE hmix ?_
        intro K hK
        simp [runM_nil, hl0, hl1, hg0, hg1, trV, c6]
        refine hK _ _ (ifT (by simp [runM_nil]) ?_)
        refine pwp_sr ?_
        intro K hK
        simp [runM_nil]
        refine hK _ _ (pwp_ret ⟨.inr rfl, _, _, (by simp [runM_nil, resL]; rfl), .refl _, by simp [resV, hnok hmf], rfl⟩)
      · have hmt : mayK k = true := by rw [hmk]; simp [twice, c6]; omega
        simp [runM_nil, c1, c2, c3, c4, natsV, c5]
        refine hK _ _ (ifF (by simp [runM_nil]) (pwp_skip ?_))
        refine pwp_difE hmix ?_
        intro K hK
        simp [runM_nil, hl0, hl1, hg0, hg1, trV, c6]
        refine hK _ _ (ifF (by simp [runM_nil]) (pwp_skip ?_))
        refine pwp_regionM ?_
        intro K hK
        simp [runM_nil, hw]
        exact hK _ _ ⟨t.l.length - (i + 1), by omega, _, _, keep_up (l' := [(1, .ip 3 [tbV t] 0 0), (3, .int .i64 (i + 1 : Nat))]) (by simp [keepA, tbV]), List.Sublist.refl _, i + 1, by omega, rfl, rfl, hyes hmt, rfl⟩
    · have hx3' : (2 : Int) < (natsV (openIx k.tr)).length := by simp only [natsV, List.length_map]; omega
      simp [runM_nil, c1, c2, c3, c4, hx3']
      exact no _ (by simp [runM_nil]) (by simp [keepL_MS, keepA, getS, tbV]) (by rw [hmk]; simp; intros; omega)
  · have hil : i = t.l.length := by omega
    rw [hil, List.take_length] at hle
    simp [runM_nil, tbV, hik]
    refine hK _ _ (ifF (by simp [runM_nil]) (pwp_exit (pwp_sr fun K hK => ?_)))
    simp [runM_nil]
    refine hK _ _ (pwp_ret ⟨.inr rfl, _, _, (by simp [runM_nil, resL]; rfl), .refl _, by simp only [resV, hmay, hle], rfl⟩)
end Go.Proofs.Ytkjibelcaeanjaa.E
/- The document's alive, on plain values. -/
namespace Go.Proofs.Ytkjibelcaeanjaa.E
open Go Go.RowKit Go.Proofs
set_option linter.unusedVariables false
set_option linter.unusedSimpArgs false
def a0 : Tb := ⟨3, 10, [⟨[], -1, 0⟩, ⟨[], -1, 0⟩]⟩
def a1 : Tb := ⟨3, 10, [⟨[⟨1, 0, true⟩], -1, 0⟩, ⟨[], -1, 0⟩]⟩
def a2 : Tb := ⟨3, 10, [⟨[⟨1, 0, false⟩], 0, 0⟩, ⟨[], -1, 0⟩]⟩
theorem a_new : newT 2 3 10 = (a0, 0) := by kernel_rfl
theorem a_start : startT a0 0 1 0 = (a1, 0, 0) := by kernel_rfl
theorem a_next : nextT a1 2 0 = (1, true) := by kernel_rfl
theorem a_fin : finishT a1 0 0 = a2 := by kernel_rfl
theorem a_opn : isOpenT a1 0 0 = true := by kernel_rfl
theorem a_fin2 : finishT a2 0 0 = a2 := by kernel_rfl
theorem a_opn2 : isOpenT a2 0 0 = false := by kernel_rfl
theorem a_all : allT a2 = false := by kernel_rfl
theorem s0 : Small a0 := ⟨by simp [a0], by simp [a0]⟩
theorem s1 : Small a1 := ⟨by simp [a1], by simp [a1]⟩
theorem s2 : Small a2 := ⟨by simp [a2], by simp [a2]⟩
set_option maxRecDepth 8000 in
set_option maxHeartbeats 4000000 in
theorem alive_ok : PSpec Try.prog 11 [] (.bool true) := by
  intro H
  have c15 := New_ok 2 3 10
  rw [a_new] at c15
  have c13 := Start_ok a0 0 1 0 s0
  rw [a_start] at c13
  have c12 := Next_ok a1 2 0 s1 (by omega) (by simp [a1])
  rw [a_next] at c12
  have c23 := finish_ok a1 0 0 s1
  rw [a_fin, a_opn] at c23
  have d23 := finish_ok a2 0 0 s2
  rw [a_fin2, a_opn2] at d23
  have c21 := All_ok a2 s2
  rw [a_all] at c21
  generalize a0 = a0 at *
  generalize a1 = a1 at *
  generalize a2 = a2 at *
  simp only [tbV] at c15 c13 c12 c23 d23 c21
  refine spec_of t11 (by simp [p11]) ?_
  simp only [p11]
  refine pwp_sr ?_
  intro K hK
  simp [runM_nil]
  refine hK _ _ (pwp_sr ?_)
  intro K hK
  simp [runM_nil]
  refine useP c15 ?_
  simp [runM_nil]
  intro b1 h1
  refine hK _ _ (pwp_sr ?_)
  intro K hK
  simp [runM_nil]
  refine useP c13 ?_
  simp [runM_nil]
  refine hK _ _ (pwp_sr ?_)
  intro K hK
  simp [runM_nil]
  refine useP c12 ?_
  simp [runM_nil]
  refine hK _ _ (pwp_sr ?_)
  intro K hK
  simp [runM_nil]
  refine useP c23 ?_
  simp [runM_nil]
  refine hK _ _ (pwp_sr ?_)
  intro K hK
  simp [runM_nil]
  refine useP d23 ?_
  simp [runM_nil]
  intro b8 h8
  obtain ⟨n8, h8⟩ := hget_cons_none.1 h8
  refine hK _ _ (pwp_sr ?_)
  intro K hK
  simp [runM_nil, n8, Ne.symm n8]
  refine useP c21 ?_
  simp [runM_nil]
  refine hK _ _ (pwp_ret ⟨.inr rfl, _, _, (by simp [runM_nil, resL]; rfl), .cons _ (.cons _ (.refl _)), by simp [resV], rfl⟩)
end Go.Proofs.Ytkjibelcaeanjaa.E
/- The law TaskNext: Next and Start, on plain values. -/
namespace Go.Proofs.Ytkjibelcaeanjaa.E
open Go Go.RowKit Go.Proofs
set_option linter.unusedVariables false
set_option linter.unusedSimpArgs false
theorem idxOf_lt {α : Type} {p : α → Bool} {l : List α} (h : 0 ≤ idxOf p l) : ∃ (i : Nat) (hi : i < l.length), idxOf p l = i ∧ p l[i] = true := by
  unfold idxOf at h ⊢
  cases hf : l.findIdx? p with
  | none => rw [hf] at h; simp at h
  | some i =>
    obtain ⟨hi, hp, _⟩ := List.findIdx?_eq_some_iff_getElem.1 hf
    exact ⟨i, hi, rfl, hp⟩
theorem idxOf_neg {α : Type} {p : α → Bool} {l : List α} (h : ¬ 0 ≤ idxOf p l) : ∀ k ∈ l, p k = false := by
  unfold idxOf at h
  cases hf : l.findIdx? p with
  | none => exact List.findIdx?_eq_none_iff.1 hf
  | some i => rw [hf] at h; simp at h
/-- A task that Next may name. -/
def mayStart (k : Tk) (worker : Int) : Prop := k.dn = -1 ∧ k.tr.length < 500 ∧ (opn k = [] ∨ ∃ x, opn k = [x] ∧ x.w ≠ worker)
theorem idle_may {k : Tk} {worker : Int} (h : idle k = true) : mayStart k worker := by
  simp only [idle, Bool.and_eq_true, decide_eq_true_eq] at h
  exact ⟨h.1, by omega, .inl h.2.2⟩
theorem slow_may {k : Tk} {worker now tm : Int} (h : slow worker now tm k = true) : mayStart k worker := by
  simp only [slow, Bool.and_eq_true, decide_eq_true_eq] at h
  refine ⟨h.1, by omega, .inr ?_⟩
  have h3 := h.2.2
  generalize opn k = l at h3 ⊢
  match l, h3 with
  | [], h3 => simp [slowTr] at h3
  | [x], h3 => exact ⟨x, rfl, by simp [slowTr] at h3; exact h3.1⟩
  | x :: y :: l, h3 => simp [slowTr] at h3
theorem next_shape (t : Tb) (worker now : Int) : (∃ (i : Nat) (hi : i < t.l.length), nextT t worker now = ((i : Int), true) ∧ mayStart t.l[i] worker) ∨ (nextT t worker now = (0, false) ∧ ∀ k ∈ t.l, idle k = false) := by
  unfold nextT
  by_cases h1 : 0 ≤ idxOf idle t.l
  · obtain ⟨i, hi, e, hp⟩ := idxOf_lt h1
    exact .inl ⟨i, hi, by rw [if_pos h1, e], idle_may hp⟩
  · by_cases h2 : 0 ≤ idxOf (slow worker now t.tm) t.l
    · obtain ⟨i, hi, e, hp⟩ := idxOf_lt h2
      exact .inl ⟨i, hi, by rw [if_neg h1, if_pos h2, e], slow_may hp⟩
    · exact .inr ⟨by rw [if_neg h1, if_neg h2], idxOf_neg h1⟩
theorem start_of {t : Tb} {worker now : Int} {i : Nat} (hi : i < t.l.length) (h : mayStart t.l[i] worker) :
    startT t i worker now = (setT t i (startK t.l[i] worker now), (t.l[i].tr.length : Int), (0 : Int)) := by
  have hb : busy t.l[i] worker = false := by
    obtain ⟨h1, _, h3⟩ := h
    unfold busy
    rcases h3 with h3 | ⟨x, h3, hx⟩ <;> simp [h1, h3, ownTr]
    exact hx
  have hn : ¬ 500 ≤ t.l[i].tr.length := by have := h.2.1; omega
  simp [startT, List.getElem?_eq_getElem hi, isTask_of hi, hb, hn]
theorem may_start {t : Tb} {worker now : Int} {i : Nat} (hi : i < t.l.length) (hm : mayT t = true) (h : mayStart t.l[i] worker) : mayT (setT t i (startK t.l[i] worker now)) = true := by
  simp only [mayT, Bool.and_eq_true, setT, List.length_set] at hm ⊢
  obtain ⟨h1, h2, h3, h4⟩ := hm
  refine ⟨h1, h2, h3, ?_⟩
  rw [List.all_eq_true] at h4 ⊢
  intro k hk
  rcases List.mem_or_eq_of_mem_set hk with hk | rfl
  · exact h4 k hk
  have hki := h4 _ (List.getElem_mem hi)
  generalize t.l[i] = k at *
  obtain ⟨e1, e2, e3⟩ := h
  have ho : opn (startK k worker now) = opn k ++ [⟨worker, now, true⟩] := by simp [opn, startK]
  unfold mayK at hki ⊢
  rw [ho]
  simp only [Bool.and_eq_true, decide_eq_true_eq, inB, Bool.not_eq_true'] at hki ⊢
  obtain ⟨a1, a2, a3, a4, a5, a6⟩ := hki
  refine ⟨by simp [startK]; omega, by simp [startK, e1], a3, ?_, ?_, by simp [startK, e1]⟩
  · rcases e3 with e | ⟨x, e, hx⟩ <;> rw [e] <;> simp
  · rcases e3 with e | ⟨x, e, hx⟩ <;> rw [e] <;> simp [twice]
    exact hx
/-- A task that nobody may take is tried already. -/
theorem tried {k : Tk} (hm : mayK k = true) (hf : k.tr.length ≤ 50) (h : idle k = false) : (decide (k.dn < 0) && !(k.tr.any (·.o))) = false := by
  by_cases hd : k.dn < 0
  · have h1 : k.dn = -1 := by
      simp only [mayK, Bool.and_eq_true, inB, decide_eq_true_eq] at hm
      omega
    have h2 : (k.tr.length : Int) < 500 := by omega
    simp [idle, h1, h2, opn] at h
    obtain ⟨x, hx, ho⟩ := h
    have : k.tr.any (·.o) = true := List.any_eq_true.2 ⟨x, hx, ho⟩
    simp [this]
  · simp [hd]
theorem few_small {t : Tb} (h : fewT t = true) : Small t ∧ t.l.length ≤ 50 ∧ ∀ k ∈ t.l, k.tr.length ≤ 50 := by
  simp only [fewT, Bool.and_eq_true, decide_eq_true_eq, List.all_eq_true] at h
  exact ⟨⟨by omega, fun k hk => by have := h.2 k hk; omega⟩, h.1, h.2⟩
theorem timed_beats {t : Tb} (h : timedT t = true) : ∀ k ∈ t.l, ∀ x ∈ k.tr, 0 ≤ x.b ∧ x.b ≤ 1000000000 := by
  simp only [timedT, List.all_eq_true, okB, Bool.and_eq_true, decide_eq_true_eq] at h
  exact h
theorem small_set {t : Tb} (hs : Small t) {i : Nat} {k : Tk} (hk : k.tr.length ≤ 400000) : Small (setT t i k) :=
  ⟨by simp only [setT, List.length_set]; exact hs.l, fun x hx => by
    rcases List.mem_or_eq_of_mem_set hx with hx | rfl
    · exact hs.tr x hx
    · exact hk⟩
theorem any_take_succ {α : Type} {p : α → Bool} {l : List α} {i : Nat} (hi : i < l.length) : (l.take (i + 1)).any p = ((l.take i).any p || p l[i]) := by
  rw [List.take_succ_eq_append_getElem hi, List.any_append]
  simp
set_option maxRecDepth 8000 in
set_option maxHeartbeats 8000000 in
theorem taskNext (t : Tb) (a b c w n : Int) (hf : Fits t) : PSpec Try.prog 3 [tbV t, .agg [.int .i64 a, .int .i64 b, .int .i64 c, .int .i64 w, .int .i64 n]] (.bool true) := by
  intro H
  have hfew := few_ok t hf
  have htim := timed_ok t hf
  have hsm := small_ok a b c w n
  simp only [tbV] at hfew htim
  refine spec_of t3 (by simp [p3]) ?_
  simp only [p3]
  refine pwp_sr ?_
  intro K hK
  simp [runM_nil, tbV]
  refine hK _ _ (pwp_rif ?_)
  intro K hK
  have no : ∀ st', argT st' (.t 31) = .bool true → keepL [] 0 st' = MS 117 [] → K st' H := by
    intro st' e1 e2
    refine hK _ _ (ifT e1 (pwp_keep [] ?_))
    rw [e2]
    refine pwp_sr ?_
    intro K hK
    simp [runM_nil]
    refine useP alive_ok ?_
    simp [runM_nil]
    refine hK _ _ (pwp_retT ⟨.inr rfl, _, _, (by simp [runM_nil, resL]; rfl), .refl _, by simp [resV], rfl⟩)
  simp [runM_nil]
  refine useP hfew ?_
  cases hfw : fewT t with
  | false =>
    simp [runM_nil]
    exact no _ (by simp [runM_nil]) (by simp [keepL_MS, keepA, getS])
  | true =>
  obtain ⟨hs, hl50, hk50⟩ := few_small hfw
  simp [runM_nil]
  refine useP htim ?_
  cases htm : timedT t with
  | false =>
    simp [runM_nil]
    exact no _ (by simp [runM_nil]) (by simp [keepL_MS, keepA, getS])
  | true =>
  have hbt := timed_beats htm
  have hpl := plain_ok t hs
  have hmy := refMay_ok t hs
  simp only [tbV] at hpl hmy
  simp [runM_nil]
  refine useP hpl ?_
  simp [runM_nil]
  refine useP hmy ?_
  cases hma : mayT t with
  | false =>
    simp [runM_nil]
    exact no _ (by simp [runM_nil]) (by simp [keepL_MS, keepA, getS])
  | true =>
  simp [runM_nil]
  refine useP hsm ?_
  cases hnn : (decide (0 ≤ n) && decide (n ≤ 1000000000)) with
  | false =>
    simp [runM_nil]
    exact no _ (by simp [runM_nil]) (by simp [keepL_MS, keepA, getS])
  | true =>
  clear no
  have hn0 : 0 ≤ n ∧ n ≤ 1000000000 := by simpa using hnn
  have hnx := Next_ok t w n hs hn0 hbt
  simp only [tbV] at hnx
  simp [runM_nil]
  refine hK _ _ (ifF (by simp [runM_nil]) (pwp_skip ?_))
  refine pwp_sr ?_
  intro K hK
  simp [runM_nil]
  refine useP hnx ?_
  clear hfew htim hsm hpl hmy hnx
  rcases next_shape t w n with ⟨i, hi, e, hms⟩ | ⟨e, hid⟩
  · rw [e]
    have hso := Start_ok t i w n hs
    rw [start_of hi hms] at hso
    have hmu := may_start (now := n) hi hma hms
    have hksm := hk50 _ (List.getElem_mem hi)
    have hMay := May_ok (setT t i (startK t.l[i] w n)) (small_set hs (by simp [startK]; omega))
    rw [hmu] at hMay
    generalize hkk : t.l[i] = k at *
    generalize setT t i (startK k w n) = u at *
    simp only [tbV] at hso hMay
    simp [runM_nil]
    refine hK _ _ (pwp_rif ?_)
    intro K hK
    simp [runM_nil]
    refine hK _ _ (ifT (by simp [runM_nil]) ?_)
    refine pwp_sr ?_
    intro K hK
    simp [runM_nil]
    refine useP hso ?_
    simp [runM_nil]
    intro b7 h7
    refine hK _ _ (pwp_sr ?_)
    intro K hK
    simp [runM_nil]
    refine useP alive_ok ?_
    simp [runM_nil, hi, hkk, tkV]
    refine useP hMay ?_
    simp [runM_nil]
    refine hK _ _ (pwp_retT ⟨.inr rfl, _, _, (by simp [runM_nil, resL]; rfl), .cons _ (.refl _), by simp [resV], rfl⟩)
  · rw [e]
    have hli : ∀ i, (h : i < t.l.length) → (decide (t.l[i].dn < 0) && !(t.l[i].tr.any (·.o))) = false := fun i h => by
      have hme := List.getElem_mem h
      simp only [mayT, Bool.and_eq_true, List.all_eq_true] at hma
      exact tried (hma.2.2.2 _ hme) (hk50 _ hme) (hid _ hme)
    simp [runM_nil]
    refine hK _ _ (pwp_rif ?_)
    intro K hK
    simp [runM_nil]
    refine hK _ _ (ifF (by simp [runM_nil]) (pwp_skip ?_))
    refine pwp_seq (pwp_sr ?_)
    intro K hK
    simp [runM_nil]
    refine hK _ _ (pwp_block ?_)
    clear hK
    refine pwp_loopU [2, 10] (fun m st H' => ∃ i, i ≤ t.l.length ∧ m = t.l.length - i ∧ H' = H ∧ st = MS 117 [(2, .ip 3 [tbV t] 0 0), (10, .int .i64 i)]) (n := t.l.length)
      ⟨_, H, keep_up (l' := [(2, .ip 3 [tbV t] 0 0), (10, .int .i64 0)]) (by simp [keepA, tbV]), List.Sublist.refl _, 0, Nat.zero_le _, rfl, rfl, rfl⟩ ?_
    rintro m st H2 ⟨i, hi, rfl, rfl, rfl⟩
    refine pwp_rif ?_
    intro K hK
    by_cases hik : i < t.l.length
    · have hw : IntKind.i64.wrap ((i : Int) + 1) = ((i + 1 : Nat) : Int) := by rw [w64 (by omega) (by omega)]; rfl
      have hli2 := hli i hik
      have hks := hk50 _ (List.getElem_mem hik)
      simp [runM_nil, tbV, hik]
      refine hK _ _ (ifT (by simp [runM_nil]) (pwp_skip (pwp_seq (pwp_block ?_))))
      refine pwp_sr ?_
      intro K hK
      generalize hkk : t.l[i] = k at *
      simp [runM_nil]
      refine hK _ _ (pwp_seq (pwp_sr ?_))
      intro K hK
      simp [runM_nil]
      refine hK _ _ (pwp_block ?_)
      clear hK
      refine pwp_loopU [2, 10, 11, 12] (fun m st H3 => ∃ j, j ≤ k.tr.length ∧ m = k.tr.length - j ∧ H3 = H2 ∧ st = MS 117 [(2, .ip 3 [tbV t] 0 0), (10, .int .i64 i), (11, .bool ((k.tr.take j).any (·.o))), (12, .int .i64 j)]) (n := k.tr.length)
        ⟨_, H2, keep_up (l' := [(2, .ip 3 [tbV t] 0 0), (10, .int .i64 i), (11, .bool false), (12, .int .i64 0)]) (by simp [keepA, tbV]), List.Sublist.refl _, 0, Nat.zero_le _, rfl, rfl, by simp⟩ ?_
      rintro m st H3 ⟨j, hj, rfl, rfl, rfl⟩
      refine pwp_rif ?_
      intro K hK
      by_cases hjk : j < k.tr.length
      · have hw2 : IntKind.i64.wrap ((j : Int) + 1) = ((j + 1 : Nat) : Int) := by rw [w64 (by omega) (by omega)]; rfl
        have has := any_take_succ (p := fun x : Tr => x.o) hjk
        generalize hxx : k.tr[j] = x at *
        generalize hac : (k.tr.take j).any (·.o) = acc at *
        simp [runM_nil, tbV, hik, hkk, tkV, hjk]
        refine hK _ _ (ifT (by simp [runM_nil]) (pwp_skip ?_))
        refine pwp_seq (pwp_block ?_)
        refine pwp_regionM ?_
        intro K hK
        cases acc with
        | true =>
          simp [runM_nil]
          refine hK _ _ (pwp_regionM ?_)
          intro K hK
          simp [runM_nil, hw2]
          exact hK _ _ ⟨k.tr.length - (j + 1), by omega, _, _, keep_up (l' := [(2, .ip 3 [tbV t] 0 0), (10, .int .i64 i), (11, .bool true), (12, .int .i64 (j + 1 : Nat))]) (by simp [keepA, tbV]), List.Sublist.refl _, j + 1, by omega, rfl, rfl, by rw [has]; simp⟩
        | false =>
          simp [runM_nil, hik, hkk, tkV, hjk, hxx, trV]
          refine hK _ _ (pwp_regionM ?_)
          intro K hK
          simp [runM_nil, hw2]
          exact hK _ _ ⟨k.tr.length - (j + 1), by omega, _, _, keep_up (l' := [(2, .ip 3 [tbV t] 0 0), (10, .int .i64 i), (11, .bool x.o), (12, .int .i64 (j + 1 : Nat))]) (by simp [keepA, tbV]), List.Sublist.refl _, j + 1, by omega, rfl, rfl, by rw [has]; simp⟩
      · have hjl : j = k.tr.length := by omega
        have htk : (k.tr.take j).any (·.o) = k.tr.any (·.o) := by rw [hjl, List.take_length]
        rw [htk]
        simp [runM_nil, tbV, hik, hkk, tkV, hjk]
        refine hK _ _ (ifF (by simp [runM_nil]) (pwp_exit ?_))
        generalize k.tr.any (·.o) = op at *
        refine pwp_rifE ?_
        intro K hK
        have yes : ∀ st', argT st' (.t 115) = .bool false → keepL [2, 10] 0 st' = MS 117 [(2, .ip 3 [tbV t] 0 0), (10, .int .i64 i)] → K st' H3 := by
          intro st' e1 e2
          refine hK _ _ (ifF e1 (pwp_skip (pwp_keep [2, 10] ?_)))
          rw [e2]
          refine pwp_regionM ?_
          intro K hK
          simp [runM_nil, hw]
          exact hK _ _ ⟨t.l.length - (i + 1), by omega, _, _, keep_up (l' := [(2, .ip 3 [tbV t] 0 0), (10, .int .i64 (i + 1 : Nat))]) (by simp [keepA, tbV]), List.Sublist.refl _, i + 1, by omega, rfl, rfl, rfl⟩
        by_cases hd : k.dn < 0
        · simp only [hd, decide_true, Bool.true_and, Bool.not_eq_false'] at hli2
          subst hli2
          simp [runM_nil, hik, hkk, tkV, hd]
          exact yes _ (by simp [runM_nil]) (by simp [keepL_MS, keepA, getS, tbV])
        · simp [runM_nil, hik, hkk, tkV, hd]
          exact yes _ (by simp [runM_nil]) (by simp [keepL_MS, keepA, getS, tbV])
    · simp [runM_nil, tbV, hik]
      refine hK _ _ (ifF (by simp [runM_nil]) (pwp_exit ?_))
      refine pwp_sr ?_
      intro K hK
      simp [runM_nil]
      refine useP alive_ok ?_
      simp [runM_nil]
      refine hK _ _ (pwp_ret ⟨.inr rfl, _, _, (by simp [runM_nil, resL]; rfl), .refl _, by simp [resV], rfl⟩)
#print axioms taskNext
end Go.Proofs.Ytkjibelcaeanjaa.E
/- A table is the same as itself, on plain values. -/
namespace Go.Proofs.Ytkjibelcaeanjaa.E
open Go Go.RowKit Go.Proofs
set_option linter.unusedVariables false
set_option linter.unusedSimpArgs false
theorem sameTrs (l : List Tr) (hl : l.length ≤ 4000000000000) : PSpec Try.prog 57 [.lst 3 (l.map trV) false, .lst 3 (l.map trV) false] (.bool true) := by
  intro H
  refine spec_of t57 (by simp [p57]) ?_
  simp only [p57]
  refine pwp_sr fun K hK => ?_
  simp [runM_nil]
  refine hK _ _ (pwp_rif fun K hK => ?_)
  simp [runM_nil]
  refine hK _ _ (ifF (by simp [runM_nil]) (pwp_skip ?_))
  refine pwp_seq (pwp_sr fun K hK => ?_)
  simp [runM_nil]
  refine hK _ _ (pwp_block ?_)
  refine pwp_loopU [0, 1, 12, 13] (fun m st H' => ∃ i, i ≤ l.length ∧ m = l.length - i ∧ H' = H ∧ st = MS 26 [(0, .lst 3 (l.map trV) false), (1, .lst 3 (l.map trV) false), (12, .int .i64 l.length), (13, .int .i64 i)]) (n := l.length)
    ⟨_, H, keep_up (l' := [(0, .lst 3 (l.map trV) false), (1, .lst 3 (l.map trV) false), (12, .int .i64 l.length), (13, .int .i64 0)]) (by simp [keepA]), List.Sublist.refl _, 0, Nat.zero_le _, rfl, rfl, rfl⟩ ?_
  rintro m st _ ⟨i, hi, rfl, rfl, rfl⟩
  refine pwp_sr fun K hK => ?_
  by_cases hik : i < l.length
  · have hw : IntKind.i64.wrap ((i : Int) + 1) = ((i + 1 : Nat) : Int) := by rw [w64 (by omega) (by omega)]; rfl
    simp [runM_nil, hik]
    refine hK _ _ (pwp_sT (by simp [runM_nil]) (pwp_seq (pwp_block (pwp_sr fun K hK => ?_))))
    generalize hxx : l[i] = x at *
    simp [runM_nil]
    refine hK _ _ ?_
    refine pwp_difE hmix ?_
    intro K hK
    simp [runM_nil, hik, hxx, trV]
    refine hK _ _ (ifF (by simp [runM_nil]) (pwp_skip ?_))
    refine pwp_regionM fun K hK => ?_
    simp [runM_nil, hw]
    exact hK _ _ ⟨l.length - (i + 1), by omega, _, _, keep_up (l' := [(0, .lst 3 (l.map trV) false), (1, .lst 3 (l.map trV) false), (12, .int .i64 l.length), (13, .int .i64 (i + 1 : Nat))]) (by simp [keepA, trV]), List.Sublist.refl _, i + 1, by omega, rfl, rfl, rfl⟩
  · simp [runM_nil, hik]
    refine hK _ _ (pwp_seq (pwp_cF (by simp [runM_nil]) (pwp_exit (pwp_sr fun K hK => ?_))))
    simp [runM_nil]
    refine hK _ _ (pwp_ret ⟨.inr rfl, _, _, (by simp [runM_nil, resL]; rfl), .refl _, by simp [resV], rfl⟩)
theorem sameTk (k : Tk) (hl : k.tr.length ≤ 4000000000000) : PSpec Try.prog 56 [tkV k, tkV k] (.bool true) := by
  intro H
  have hs := sameTrs k.tr hl
  refine spec_of t56 (by simp [p56]) ?_
  simp only [p56]
  refine pwp_sr fun K hK => ?_
  simp [runM_nil, tkV]
  refine hK _ _ (pwp_sr fun K hK => ?_)
  simp [runM_nil]
  refine useP hs ?_
  simp [runM_nil]
  refine hK _ _ (pwp_ret ⟨.inr rfl, _, _, (by simp [runM_nil, resL]; rfl), .refl _, by simp [resV], rfl⟩)
theorem sameTks (l : List Tk) (hl : l.length ≤ 4000000000000) (hk : ∀ k ∈ l, k.tr.length ≤ 4000000000000) : PSpec Try.prog 55 [.lst 3 (l.map tkV) false, .lst 3 (l.map tkV) false, .fn (.func 56) [] []] (.bool true) := by
  intro H
  refine spec_of t55 (by simp [p55]) ?_
  simp only [p55]
  refine pwp_sr fun K hK => ?_
  simp [runM_nil]
  refine hK _ _ (pwp_rif fun K hK => ?_)
  simp [runM_nil]
  refine hK _ _ (ifF (by simp [runM_nil]) (pwp_skip ?_))
  refine pwp_seq (pwp_sr fun K hK => ?_)
  simp [runM_nil]
  refine hK _ _ (pwp_block ?_)
  refine pwp_loopU [0, 1, 2, 15, 16, 17] (fun m st H' => ∃ i, i ≤ l.length ∧ m = l.length - i ∧ H' = H ∧ st = MS 32 [(0, .lst 3 (l.map tkV) false), (1, .lst 3 (l.map tkV) false), (2, .fn (.func 56) [] []), (15, .lst 3 (l.map tkV) false), (16, .int .i64 l.length), (17, .int .i64 i)]) (n := l.length)
    ⟨_, H, keep_up (l' := [(0, .lst 3 (l.map tkV) false), (1, .lst 3 (l.map tkV) false), (2, .fn (.func 56) [] []), (15, .lst 3 (l.map tkV) false), (16, .int .i64 l.length), (17, .int .i64 0)]) (by simp [keepA]), List.Sublist.refl _, 0, Nat.zero_le _, rfl, rfl, rfl⟩ ?_
  rintro m st H2 ⟨i, hi, rfl, rfl, rfl⟩
  refine pwp_sr fun K hK => ?_
  by_cases hik : i < l.length
  · have hw : IntKind.i64.wrap ((i : Int) + 1) = ((i + 1 : Nat) : Int) := by rw [w64 (by omega) (by omega)]; rfl
    have hsx := sameTk l[i] (hk _ (List.getElem_mem hik))
    simp [runM_nil, hik]
    refine hK _ _ (pwp_sT (by simp [runM_nil]) (pwp_seq (pwp_block (pwp_sr fun K hK => ?_))))
    generalize hxx : l[i] = k at *
    simp only [tkV] at hsx
    simp [runM_nil, hik, hxx, tkV]
    intro b8 h8
    refine hK _ _ (pwp_sr fun K hK => ?_)
    simp [runM_nil, hik, hxx, tkV]
    intro b9 h9
    obtain ⟨n9, h9⟩ := hget_cons_none.1 h9
    refine hK _ _ (pwp_rifE fun K hK => ?_)
    simp [runM_nil, n9, Ne.symm n9]
    refine useP hsx ?_
    simp [runM_nil]
    refine hK _ _ (ifF (by simp [runM_nil]) (pwp_skip ?_))
    refine pwp_regionM fun K hK => ?_
    simp [runM_nil, hw]
    exact hK _ _ ⟨l.length - (i + 1), by omega, _, H2, keep_up (l' := [(0, .lst 3 (l.map tkV) false), (1, .lst 3 (l.map tkV) false), (2, .fn (.func 56) [] []), (15, .lst 3 (l.map tkV) false), (16, .int .i64 l.length), (17, .int .i64 (i + 1 : Nat))]) (by simp [keepA, tkV]), .cons _ (.cons _ (.refl _)), i + 1, by omega, rfl, rfl, rfl⟩
  · simp [runM_nil, hik]
    refine hK _ _ (pwp_seq (pwp_cF (by simp [runM_nil]) (pwp_exit (pwp_sr fun K hK => ?_))))
    simp [runM_nil]
    refine hK _ _ (pwp_ret ⟨.inr rfl, _, _, (by simp [runM_nil, resL]; rfl), .refl _, by simp [resV], rfl⟩)
theorem sameTb (t : Tb) (hs : Small t) : PSpec Try.prog 24 [tbV t, tbV t] (.bool true) := by
  intro H
  have hk := sameTks t.l (by have := hs.l; omega) (fun k h => by have := hs.tr k h; omega)
  refine spec_of t24 (by simp [p24]) ?_
  simp only [p24]
  refine pwp_sr fun K hK => ?_
  simp [runM_nil, tbV]
  refine hK _ _ (pwp_sr fun K hK => ?_)
  simp [runM_nil]
  refine useP hk ?_
  simp [runM_nil]
  refine hK _ _ (pwp_ret ⟨.inr rfl, _, _, (by simp [runM_nil, resL]; rfl), .refl _, by simp [resV], rfl⟩)
end Go.Proofs.Ytkjibelcaeanjaa.E
/- The law TaskOnce: Finish and the rest twice, on plain values. -/
namespace Go.Proofs.Ytkjibelcaeanjaa.E
open Go Go.RowKit Go.Proofs
set_option linter.unusedVariables false
set_option linter.unusedSimpArgs false
theorem isOpen_at {t : Tb} {i : Nat} (hi : i < t.l.length) {n : Int} (h : isOpenT t i n = true) : ∃ (j : Nat) (hj : j < t.l[i].tr.length), n = j ∧ t.l[i].tr[j].o = true := by
  obtain ⟨m, j, hm, hj, e, rfl, ho⟩ := isOpen_nat h
  have e1 : i = m := by omega
  subst e1
  exact ⟨j, hj, rfl, ho⟩
theorem open_dn {t : Tb} (hma : mayT t = true) {i : Nat} (hi : i < t.l.length) {n : Int} (h : isOpenT t i n = true) : t.l[i].dn = -1 := by
  obtain ⟨j, hj, _, ho⟩ := isOpen_at hi h
  simp only [mayT, Bool.and_eq_true, List.all_eq_true] at hma
  have hk := hma.2.2.2 _ (List.getElem_mem hi)
  simp only [mayK, Bool.and_eq_true, Bool.or_eq_true, decide_eq_true_eq] at hk
  rcases hk.2.2.2.2.2 with e | e
  · exfalso
    have : t.l[i].tr[j] ∈ opn t.l[i] := List.mem_filter.2 ⟨List.getElem_mem hj, ho⟩
    rw [e] at this
    cases this
  · exact e
theorem chg_len (t : Tb) (i : Nat) (f : Tk → Tk) : (chgT t i f).l.length = t.l.length := by
  unfold chgT
  split <;> simp [setT]
theorem chg_at (t : Tb) {i : Nat} (hi : i < t.l.length) (f : Tk → Tk) : ∃ h : i < (chgT t i f).l.length, (chgT t i f).l[i] = f t.l[i] := by
  have h : i < (chgT t i f).l.length := by rw [chg_len]; exact hi
  refine ⟨h, ?_⟩
  have e : chgT t i f = setT t i (f t.l[i]) := by simp [chgT, hi]
  simp only [e, setT, List.getElem_set_self]
theorem small_chg {t : Tb} (hs : Small t) (i : Nat) {f : Tk → Tk} (hf : ∀ k, (f k).tr.length = k.tr.length) : Small (chgT t i f) := by
  by_cases hi : i < t.l.length
  · have e : chgT t i f = setT t i (f t.l[i]) := by simp [chgT, hi]
    rw [e]
    exact small_set hs (by rw [hf]; exact hs.tr _ (List.getElem_mem hi))
  · have e : chgT t i f = t := by simp [chgT, hi]
    rw [e]
    exact hs
theorem fin_shut {k k' : Tk} {n : Int} (e : k' = finishK k n) {j : Nat} (hj : j < k'.tr.length) : k'.tr[j].o = false := by
  subst e
  simp [finishK, shut]
/-- What Finish leaves. -/
theorem fin_facts {t : Tb} (hs : Small t) (hma : mayT t = true) {i : Nat} (hi : i < t.l.length) (n : Int) :
    Small (finishT t i n) ∧ (finishT t i n).l.length = t.l.length ∧ isOpenT (finishT t i n) i n = false ∧
      ∃ h : i < (finishT t i n).l.length, (isOpenT t i n = true → (finishT t i n).l[i].dn = n ∧ t.l[i].dn = -1) ∧ (isOpenT t i n = false → finishT t i n = t) := by
  cases ho : isOpenT t i n with
  | false =>
    have e : finishT t i n = t := by simp [finishT, ho]
    rw [e]
    exact ⟨hs, rfl, ho, hi, (fun h => by cases h), fun _ => rfl⟩
  | true =>
    have e : finishT t i n = chgT t i (finishK · n) := by simp [finishT, ho]
    obtain ⟨h1, h2⟩ := chg_at t hi (finishK · n)
    rw [e]
    refine ⟨small_chg hs i (fun k => by simp [finishK]), chg_len .., ?_, h1, (fun _ => ⟨by rw [h2]; rfl, open_dn hma hi ho⟩), fun h => by cases h⟩
    cases hf : isOpenT (chgT t i (finishK · n)) i n with
    | false => rfl
    | true =>
      exfalso
      obtain ⟨j, hj, _, hoo⟩ := isOpen_at h1 hf
      rw [fin_shut h2 hj] at hoo
      cases hoo
theorem same_dn {t : Tb} {i : Nat} (hi : i < t.l.length) {b : Bool} {f : Tk → Tk} (hf : ∀ k, (f k).dn = k.dn) :
    (if b = true then chgT t i f else t).l.length = t.l.length ∧ ∃ h : i < (if b = true then chgT t i f else t).l.length, (if b = true then chgT t i f else t).l[i].dn = t.l[i].dn := by
  cases b with
  | false => exact ⟨rfl, hi, rfl⟩
  | true =>
    obtain ⟨h1, h2⟩ := chg_at t hi f
    refine ⟨chg_len .., h1, ?_⟩
    have : (if true = true then chgT t i f else t).l[i].dn = (chgT t i f).l[i].dn := rfl
    rw [this, h2, hf]
theorem fail_facts {t : Tb} {i : Nat} (hi : i < t.l.length) (n : Int) : (failT t i n).l.length = t.l.length ∧ ∃ h : i < (failT t i n).l.length, (failT t i n).l[i].dn = t.l[i].dn :=
  same_dn hi fun k => by unfold failK; split <;> rfl
theorem beat_facts {t : Tb} {i : Nat} (hi : i < t.l.length) (n now : Int) : (beatT t i n now).l.length = t.l.length ∧ ∃ h : i < (beatT t i n now).l.length, (beatT t i n now).l[i].dn = t.l[i].dn :=
  same_dn hi fun k => by unfold beatK; split <;> rfl
theorem lose_facts {t : Tb} {i : Nat} (hi : i < t.l.length) (n : Int) : (loseT t i n).l.length = t.l.length ∧ (isDoneBy t i n = (decide (0 ≤ n) && decide (t.l[i].dn = n))) ∧
    ∃ h : i < (loseT t i n).l.length, (isDoneBy t i n = true → (loseT t i n).l[i].dn = -1) := by
  have hd : isDoneBy t i n = (decide (0 ≤ n) && decide (t.l[i].dn = n)) := by simp [isDoneBy, isTask_of hi, hi]
  cases ho : isDoneBy t i n with
  | false =>
    have e : loseT t i n = t := by simp [loseT, ho]
    rw [e]
    exact ⟨rfl, by rw [← hd, ho], hi, fun h => by cases h⟩
  | true =>
    have e : loseT t i n = chgT t i loseK := by simp [loseT, ho]
    obtain ⟨h1, h2⟩ := chg_at t hi loseK
    rw [e]
    exact ⟨chg_len .., by rw [← hd, ho], h1, fun _ => by rw [h2]; rfl⟩
theorem not_all {t : Tb} {i : Nat} (hi : i < t.l.length) (h : t.l[i].dn = -1) : allT t = false := by
  unfold allT
  rw [List.all_eq_false]
  exact ⟨_, List.getElem_mem hi, by simp [notDone, h]⟩
set_option maxRecDepth 8000 in
set_option maxHeartbeats 16000000 in
theorem taskOnce (t : Tb) (a b n w now : Int) (hf : Fits t) : PSpec Try.prog 5 [tbV t, .agg [.int .i64 a, .int .i64 b, .int .i64 n, .int .i64 w, .int .i64 now]] (.bool true) := by
  intro H
  have hfew := few_ok t hf
  have hsm := small_ok a b n w now
  simp only [tbV] at hfew
  refine spec_of t5 (by simp [p5]) ?_
  simp only [p5]
  refine pwp_sr ?_
  intro K hK
  simp [runM_nil, tbV]
  refine hK _ _ (pwp_rif ?_)
  intro K hK
  have no : ∀ st', argT st' (.t 42) = .bool true → keepL [] 0 st' = MS 214 [] → K st' H := by
    intro st' e1 e2
    refine hK _ _ (ifT e1 (pwp_keep [] ?_))
    rw [e2]
    refine pwp_sr ?_
    intro K hK
    simp [runM_nil]
    refine useP alive_ok ?_
    simp [runM_nil]
    refine hK _ _ (pwp_retT ⟨.inr rfl, _, _, (by simp [runM_nil, resL]; rfl), .refl _, by simp [resV], rfl⟩)
  simp [runM_nil]
  refine useP hfew ?_
  cases hfw : fewT t with
  | false =>
    simp [runM_nil]
    exact no _ (by simp [runM_nil]) (by simp [keepL_MS, keepA, getS])
  | true =>
  obtain ⟨hs, hl50, hk50⟩ := few_small hfw
  have hpl := plain_ok t hs
  have hmy := refMay_ok t hs
  simp only [tbV] at hpl hmy
  simp [runM_nil]
  refine useP hpl ?_
  simp [runM_nil]
  refine useP hmy ?_
  cases hma : mayT t with
  | false =>
    simp [runM_nil]
    exact no _ (by simp [runM_nil]) (by simp [keepL_MS, keepA, getS])
  | true =>
  simp [runM_nil]
  refine useP hsm ?_
  cases hnn : (decide (0 ≤ now) && decide (now ≤ 1000000000)) with
  | false =>
    simp [runM_nil]
    exact no _ (by simp [runM_nil]) (by simp [keepL_MS, keepA, getS])
  | true =>
  have hbb : b < 0 ∨ (¬ b < 0 ∧ (t.l.length : Int) ≤ b) ∨ ∃ i : Nat, b = i ∧ i < t.l.length := by
    by_cases h1 : b < 0
    · exact .inl h1
    · by_cases h2 : (t.l.length : Int) ≤ b
      · exact .inr (.inl ⟨h1, h2⟩)
      · exact .inr (.inr ⟨b.toNat, by omega, by omega⟩)
  rcases hbb with hb0 | ⟨hb0, hb1⟩ | ⟨i, rfl, hi⟩
  · simp [runM_nil, hb0]
    exact no _ (by simp [runM_nil]) (by simp [keepL_MS, keepA, getS])
  · simp [runM_nil, hb0, hb1]
    exact no _ (by simp [runM_nil]) (by simp [keepL_MS, keepA, getS])
  clear no
  have hi2 : ¬ ((t.l.length : Int) ≤ i) := by omega
  simp [runM_nil, hi, hi2]
  refine hK _ _ (ifF (by simp [runM_nil]) (pwp_skip ?_))
  refine pwp_kept (keep := [2, 3]) (l' := [(2, .ip 3 [tbV t] 0 0), (3, .ip 5 [.agg [.int .i64 a, .int .i64 i, .int .i64 n, .int .i64 w, .int .i64 now]] 0 0)]) (by simp [keepA, getS, tbV]) ?_
  clear hfew hsm hpl hmy
  obtain ⟨hsu, hlu, hou, hiu, hu1, hu2⟩ := fin_facts hs hma hi n
  obtain ⟨hlv, hiv, hv⟩ := fail_facts hi n
  obtain ⟨hlx, hix, hx⟩ := beat_facts hi n now
  obtain ⟨hly, hq, hiy, hy⟩ := lose_facts hi n
  have c1 := finish_ok t i n hs
  have c2 := finish_ok (finishT t i n) i n hsu
  rw [hou] at c2
  have c3 := fail_ok t i n hs
  have c4 := beat_ok t i n now hs
  have c5 := lose_ok t i n hs
  have c6 := All_ok t hs
  have cs := sameTb t hs
  have hal : t.l[i].dn = -1 → allT t = false := not_all hi
  generalize hqq : isDoneBy t i n = q at *
  generalize hoo : isOpenT t i n = o1 at *
  generalize finishT (finishT t i n) i n = u2 at *
  generalize finishT t i n = u at *
  generalize failT t i n = v at *
  generalize beatT t i n now = x at *
  generalize loseT t i n = y at *
  generalize allT t = at1 at *
  generalize hkk : t.l[i] = k at *
  generalize hkv : v.l[i] = kv at *
  generalize hkx : x.l[i] = kx at *
  generalize hky : y.l[i] = ky at *
  generalize hku : u.l[i] = ku at *
  have cs' : u = t → PSpec Try.prog 24 [tbV u, tbV t] (.bool true) := fun e => by rw [e]; exact cs
  simp only [tbV] at c1 c2 c3 c4 c5 c6 cs'
  clear cs
  refine pwp_sr ?_
  intro K hK
  simp [runM_nil, tbV, hi, hkk, tkV]
  refine hK _ _ (pwp_sr ?_)
  intro K hK
  simp [runM_nil]
  refine useP c1 ?_
  simp [runM_nil]
  intro b6 h6
  refine hK _ _ (pwp_rif ?_)
  intro K hK
  simp [runM_nil, hlu]
  refine hK _ _ (ifF (by simp [runM_nil]) (pwp_skip ?_))
  refine pwp_dif hmix ?_
  intro K hK
  have hkdn : o1 = true → k.dn = -1 := fun e => (hu1 e).2
  have go : ∀ st', argT st' (.t 92) = .bool false → keepL [2, 3, 5, 6, 7] 0 st' = MS 214 [(2, .ip 3 [tbV t] 0 0), (3, .ip 5 [.agg [.int .i64 a, .int .i64 i, .int .i64 n, .int .i64 w, .int .i64 now]] 0 0), (5, .int .i64 k.dn), (6, .ptr (some (b6, 0))), (7, .bool o1)] →
      K st' ((b6, [.int .i64 u.cap, .int .i64 u.tm, .lst 3 (u.l.map tkV) false]) :: H) := by
    intro st' e1 e2
    refine hK _ _ (ifF e1 (pwp_skip (pwp_keep [2, 3, 5, 6, 7] ?_)))
    rw [e2]
    clear e1 e2 hK cs' hu1 hu2
    refine pwp_sr ?_
    intro K hK
    simp [runM_nil, tbV]
    refine useP c2 ?_
    simp [runM_nil]
    intro b8 h8
    refine hK _ _ ?_
    refine pwp_drop (H2 := H) (.cons _ (.cons _ (.refl _))) ?_
    refine pwp_kept (keep := [2, 3, 5, 7, 9]) (l' := [(2, .ip 3 [tbV t] 0 0), (3, .ip 5 [.agg [.int .i64 a, .int .i64 i, .int .i64 n, .int .i64 w, .int .i64 now]] 0 0), (5, .int .i64 k.dn), (7, .bool o1), (9, .bool false)]) (by simp [keepA, getS, tbV]) ?_
    refine pwp_sr ?_
    intro K hK
    simp [runM_nil, tbV]
    refine useP c3 ?_
    simp [runM_nil]
    intro b10 h10
    refine hK _ _ (pwp_sr ?_)
    intro K hK
    simp [runM_nil]
    refine useP c4 ?_
    simp [runM_nil]
    intro b12 h12
    obtain ⟨n12, h12⟩ := hget_cons_none.1 h12
    refine hK _ _ (pwp_sr ?_)
    intro K hK
    simp [runM_nil]
    refine useP c5 ?_
    simp [runM_nil]
    intro b14 h14
    obtain ⟨m14, h14⟩ := ite_none h14
    obtain ⟨n14, h14⟩ := ite_none h14
    refine hK _ _ ?_
    refine pwp_kept (keep := [2, 3, 5, 7, 9, 10, 12, 14, 15]) (l' := [(2, .ip 3 [tbV t] 0 0), (3, .ip 5 [.agg [.int .i64 a, .int .i64 i, .int .i64 n, .int .i64 w, .int .i64 now]] 0 0), (5, .int .i64 k.dn), (7, .bool o1), (9, .bool false), (10, .ptr (some (b10, 0))), (12, .ptr (some (b12, 0))), (14, .ptr (some (b14, 0))), (15, .bool q)]) (by simp [keepA, getS, tbV]) ?_
    refine pwp_rif ?_
    intro K hK
    simp [runM_nil, tbV, n12, Ne.symm n12, m14, Ne.symm m14, n14, Ne.symm n14, hlv, hlx, hly]
    refine hK _ _ (ifF (by simp [runM_nil]) (pwp_skip ?_))
    refine pwp_rif ?_
    intro K hK
    have go2 : ∀ st' H3, argT st' (.t 203) = .bool false → keepL [2, 7] 0 st' = MS 214 [(2, .ip 3 [tbV t] 0 0), (7, .bool o1)] → H3 = ((b14, [.int .i64 y.cap, .int .i64 y.tm, .lst 3 (y.l.map tkV) false]) :: (b12, [.int .i64 x.cap, .int .i64 x.tm, .lst 3 (x.l.map tkV) false]) :: (b10, [.int .i64 v.cap, .int .i64 v.tm, .lst 3 (v.l.map tkV) false]) :: H) → K st' H3 := by
      intro st' H3 e1 e2 e3
      refine hK _ _ (ifF e1 (pwp_skip (pwp_keep [2, 7] ?_)))
      rw [e2, e3]
      refine pwp_drop (H2 := H) (.cons _ (.cons _ (.cons _ (.refl _)))) ?_
      refine pwp_sr ?_
      intro K hK
      simp [runM_nil, tbV]
      refine useP alive_ok ?_
      cases o1 with
      | false =>
        simp [runM_nil]
        refine hK _ _ (pwp_ret ⟨.inr rfl, _, _, (by simp [runM_nil, resL]; rfl), .refl _, by simp [resV], rfl⟩)
      | true =>
        simp [runM_nil]
        refine useP c6 ?_
        rw [hal (hkdn rfl)]
        simp [runM_nil]
        refine hK _ _ (pwp_ret ⟨.inr rfl, _, _, (by simp [runM_nil, resL]; rfl), .refl _, by simp [resV], rfl⟩)
    have h3c : (0 ≤ k.dn ∧ k.dn = n ∧ q = true ∧ ky.dn = -1) ∨ (0 ≤ k.dn ∧ ¬ k.dn = n ∧ q = false) ∨ (¬ 0 ≤ k.dn ∧ q = false) := by
      rw [hq]
      by_cases h1 : 0 ≤ k.dn
      · by_cases h2 : k.dn = n
        · have h3 : 0 ≤ n := by omega
          exact .inl ⟨h1, h2, by simp [h2, h3], hy (by rw [hq]; simp [h2, h3])⟩
        · exact .inr (.inl ⟨h1, h2, by simp [h2]⟩)
      · refine .inr (.inr ⟨h1, ?_⟩)
        by_cases h2 : k.dn = n
        · have h3 : ¬ 0 ≤ n := by omega
          simp [h3]
        · simp [h2]
    have hiv2 : i < v.l.length := hiv
    have hix2 : i < x.l.length := hix
    have hiy2 : i < y.l.length := hiy
    clear hK
    rcases h3c with ⟨h1, h2, rfl, h4⟩ | ⟨h1, h2, rfl⟩ | ⟨h1, rfl⟩
    · have h5 : 0 ≤ n := by omega
      simp [runM_nil, tbV, n12, Ne.symm n12, m14, Ne.symm m14, n14, Ne.symm n14, hiv2, hix2, hiy2, hkv, hkx, hky, tkV, hv, hx, h5, h2, h4]
      exact go2 _ _ (by simp [runM_nil]) (by simp [keepL_MS, keepA, getS, tbV]) rfl
    · simp [runM_nil, tbV, n12, Ne.symm n12, m14, Ne.symm m14, n14, Ne.symm n14, hiv2, hix2, hiy2, hkv, hkx, hky, tkV, hv, hx, h1, h2]
      exact go2 _ _ (by simp [runM_nil]) (by simp [keepL_MS, keepA, getS, tbV]) rfl
    · simp [runM_nil, tbV, n12, Ne.symm n12, m14, Ne.symm m14, n14, Ne.symm n14, hiv2, hix2, hiy2, hkv, hkx, hky, tkV, hv, hx, h1]
      exact go2 _ _ (by simp [runM_nil]) (by simp [keepL_MS, keepA, getS, tbV]) rfl
  clear hK
  cases o1 with
  | true =>
    obtain ⟨hkn, hkd⟩ := hu1 rfl
    simp [runM_nil, tbV, hiu, hku, tkV, hkd, hkn]
    exact go _ (by simp [runM_nil]) (by simp [keepL_MS, keepA, getS, tbV, hkd])
  | false =>
    have hut := cs' (hu2 rfl)
    rcases (show k.dn < 0 ∨ 0 ≤ k.dn by omega) with h1 | h1
    · have h2 : ¬ 0 ≤ k.dn := by omega
      simp [runM_nil, tbV, h2]
      exact go _ (by simp [runM_nil]) (by simp [keepL_MS, keepA, getS, tbV])
    · simp [runM_nil, tbV, h1]
      refine useD hut ?_
      simp [runM_nil]
      exact go _ (by simp [runM_nil]) (by simp [keepL_MS, keepA, getS, tbV])
#print axioms taskOnce
end Go.Proofs.Ytkjibelcaeanjaa.E
/- What the document's acts are made of, on plain values. -/
namespace Go.Proofs.Ytkjibelcaeanjaa.E
open Go Go.RowKit Go.Proofs
set_option linter.unusedVariables false
set_option linter.unusedSimpArgs false
theorem closed_ok (x : Tr) : PSpec Try.prog 68 [trV x] (trV (shut x)) := by
  intro H
  refine spec_of t68 (by simp [p68]) ?_
  simp only [p68]
  refine pwp_sr fun K hK => ?_
  simp [runM_nil, trV]
  intro b2 h2
  refine hK _ _ (pwp_sr fun K hK => ?_)
  simp [runM_nil]
  refine hK _ _ (pwp_ret ⟨.inr rfl, _, _, (by simp [runM_nil, resL]; rfl), .cons _ (.refl _), by simp [resV, trV, shut], rfl⟩)
theorem tries_ok (k : Tk) (n : Nat) (x : Tr) (hl : k.tr.length ≤ 400000) : PSpec Try.prog 67 [tkV k, .int .i64 n, trV x] (.lst 3 ((k.tr.set n x).map trV) true) := by
  intro H
  obtain ⟨l2, hl2⟩ : ∃ l2, l2 = k.tr.set n x := ⟨_, rfl⟩
  have hml : l2.length = k.tr.length := by rw [hl2]; exact List.length_set ..
  have hmi : ∀ i, (h : i < l2.length) → l2[i] = if n = i then x else k.tr[i]'(by omega) := fun i h => by subst hl2; exact List.getElem_set h
  rw [← hl2]
  refine spec_of t67 (by simp [p67]) ?_
  simp only [p67]
  refine pwp_sr fun K hK => ?_
  simp [runM_nil, tkV, trV]
  refine hK _ _ (pwp_sr fun K hK => ?_)
  simp [runM_nil]
  refine hK _ _ (pwp_seq (pwp_sr fun K hK => ?_))
  simp [runM_nil]
  refine hK _ _ (pwp_block ?_)
  clear hK
  refine pwp_loopU [1, 3, 5, 7, 8] (fun m st H' => ∃ i, i ≤ k.tr.length ∧ m = k.tr.length - i ∧ H' = H ∧ st = MS 33 [(1, .int .i64 n), (3, .ip 3 [tkV k] 0 0), (5, .ip 3 [trV x] 0 0), (7, .lst 3 ((l2.take i).map trV) true), (8, .int .i64 i)]) (n := k.tr.length)
    ⟨_, H, keep_up (l' := [(1, .int .i64 n), (3, .ip 3 [tkV k] 0 0), (5, .ip 3 [trV x] 0 0), (7, .lst 3 [] true), (8, .int .i64 0)]) (by simp [keepA, tkV, trV]), List.Sublist.refl _, 0, Nat.zero_le _, rfl, rfl, rfl⟩ ?_
  rintro m st H2 ⟨i, hi, rfl, rfl, rfl⟩
  refine pwp_rif fun K hK => ?_
  by_cases hik : i < k.tr.length
  · have hw : IntKind.i64.wrap ((i : Int) + 1) = ((i + 1 : Nat) : Int) := by rw [w64 (by omega) (by omega)]; rfl
    have hacc := map_take_succ trV l2 i (by omega)
    rw [hmi i (by omega)] at hacc
    have hal : ((l2.take i).map trV).length = i := by rw [List.length_map, List.length_take]; omega
    generalize (l2.take i).map trV = acc at *
    have hby : (acc.length + 1) * 24 ≤ 140737488355328 := by omega
    simp [runM_nil, tkV, trV, hik]
    refine hK _ _ (ifT (by simp [runM_nil]) (pwp_skip (pwp_seq (pwp_block (pwp_rifE fun K hK => ?_)))))
    generalize hxx : k.tr[i] = y at *
    by_cases hni : n = i
    · subst hni
      rw [if_pos rfl] at hacc
      simp [runM_nil]
      refine hK _ _ (ifT (by simp [runM_nil]) (pwp_regionM fun K hK => ?_))
      simp [runM_nil, hby]
      refine hK _ _ (pwp_regionM fun K hK => ?_)
      simp [runM_nil, hw]
      refine hK _ _ ⟨k.tr.length - (n + 1), by omega, _, _, keep_up (l' := [(1, .int .i64 n), (3, .ip 3 [tkV k] 0 0), (5, .ip 3 [trV x] 0 0), (7, .lst 3 ((l2.take (n + 1)).map trV) true), (8, .int .i64 (n + 1 : Nat))]) ?_, List.Sublist.refl _, n + 1, by omega, rfl, rfl, rfl⟩
      rw [hacc]
      simp [keepA, tkV, trV]
    · have hni2 : ¬ ((i : Int) = n) := by omega
      have hni3 : ¬ (i = n) := by omega
      rw [if_neg hni] at hacc
      simp [runM_nil, hni2, hni3]
      refine hK _ _ (ifF (by simp [runM_nil, hni2, hni3]) (pwp_regionM fun K hK => ?_))
      simp [runM_nil, hby, hik, hxx, trV]
      refine hK _ _ (pwp_regionM fun K hK => ?_)
      simp [runM_nil, hw]
      refine hK _ _ ⟨k.tr.length - (i + 1), by omega, _, _, keep_up (l' := [(1, .int .i64 n), (3, .ip 3 [tkV k] 0 0), (5, .ip 3 [trV x] 0 0), (7, .lst 3 ((l2.take (i + 1)).map trV) true), (8, .int .i64 (i + 1 : Nat))]) ?_, List.Sublist.refl _, i + 1, by omega, rfl, rfl, rfl⟩
      rw [hacc]
      simp [keepA, tkV, trV]
  · have hil : i = k.tr.length := by omega
    have hfull : (l2.take i).map trV = l2.map trV := by rw [List.take_of_length_le (by omega)]
    rw [hfull]
    simp [runM_nil, tkV, hik]
    refine hK _ _ (ifF (by simp [runM_nil]) (pwp_exit (pwp_sr fun K hK => ?_)))
    simp [runM_nil]
    refine hK _ _ (pwp_ret ⟨.inr rfl, _, _, (by simp [runM_nil, resL]; rfl), .refl _, by simp [resV], rfl⟩)
theorem nat3 (i : Int) (l : Nat) : i < 0 ∨ (0 ≤ i ∧ ¬ i < l) ∨ ∃ m : Nat, i = m ∧ m < l := by
  rcases (show i < 0 ∨ (0 ≤ i ∧ ¬ i < l) ∨ (0 ≤ i ∧ i < l) by omega) with h | h | ⟨h1, h2⟩
  · exact .inl h
  · exact .inr (.inl h)
  · exact .inr (.inr ⟨i.toNat, by omega, by omega⟩)
theorem isOpen_out (t : Tb) (i n : Int) : (i < 0 ∧ isOpenT t i n = false) ∨ (0 ≤ i ∧ ¬ i < t.l.length ∧ isOpenT t i n = false) ∨ ∃ m : Nat, i = m ∧ m < t.l.length := by
  rcases nat3 i t.l.length with h | ⟨h1, h2⟩ | h
  · have : isTaskT t i = false := by simp [isTaskT, inB]; omega
    exact .inl ⟨h, by simp [isOpenT, this]⟩
  · have : isTaskT t i = false := by simp [isTaskT, inB]; omega
    exact .inr (.inl ⟨h1, h2, by simp [isOpenT, this]⟩)
  · exact .inr (.inr h)
theorem is_ok (t : Tb) (i n : Int) (hs : Small t) : PSpec Try.prog 66 [tbV t, .int .i64 i, .int .i64 n] (.bool (isOpenT t i n)) := by
  intro H
  have hsl := hs.l
  refine spec_of t66 (by simp [p66]) ?_
  simp only [p66]
  refine pwp_sr fun K hK => ?_
  simp [runM_nil, tbV]
  have h := isOpen_out t i n
  rcases h with ⟨h1, h2⟩ | ⟨h1, h3, h2⟩ | ⟨m, rfl, hm⟩
  · have h3 : ¬ 0 ≤ i := by omega
    refine hK _ _ (pwp_sr fun K hK => ?_)
    simp [runM_nil, h3]
    refine hK _ _ (pwp_ret ⟨.inr rfl, _, _, (by simp [runM_nil, resL]; rfl), .refl _, by simp [resV, h2], rfl⟩)
  · refine hK _ _ (pwp_sr fun K hK => ?_)
    simp [runM_nil, h1, h3]
    refine hK _ _ (pwp_ret ⟨.inr rfl, _, _, (by simp [runM_nil, resL]; rfl), .refl _, by simp [resV, h2], rfl⟩)
  · have hks := hs.tr _ (List.getElem_mem hm)
    have hno : (n < 0 ∨ ¬ n < t.l[m].tr.length) → isOpenT t m n = false := fun h => by
      cases ho : isOpenT t m n with
      | false => rfl
      | true =>
        obtain ⟨j, hj, e, _⟩ := isOpen_at hm ho
        omega
    have hyes : ∀ j, (hj : j < t.l[m].tr.length) → isOpenT t m j = t.l[m].tr[j].o := fun j hj => by
      have h1 : inB j 0 ((t.l[m].tr.length : Int) - 1) = true := by simp [inB]; omega
      simp [isOpenT, isTask_of hm, hm, h1, hj]
    generalize hkk : t.l[m] = k at *
    rcases nat3 n k.tr.length with h1 | ⟨h1, h2⟩ | ⟨j, rfl, hj⟩
    · have h3 : ¬ 0 ≤ n := by omega
      have h4 : isOpenT t m n = false := hno (.inl h1)
      refine hK _ _ (pwp_sr fun K hK => ?_)
      simp [runM_nil, hm, h3]
      refine hK _ _ (pwp_ret ⟨.inr rfl, _, _, (by simp [runM_nil, resL]; rfl), .refl _, by simp [resV, h4], rfl⟩)
    · have h4 : isOpenT t m n = false := hno (.inr h2)
      refine hK _ _ (pwp_sr fun K hK => ?_)
      simp [runM_nil, hm, h1, h2, hkk, tkV]
      refine hK _ _ (pwp_ret ⟨.inr rfl, _, _, (by simp [runM_nil, resL]; rfl), .refl _, by simp [resV, h4], rfl⟩)
    · have h4 := hyes j hj
      generalize hxx : k.tr[j] = x at *
      refine hK _ _ (pwp_sr fun K hK => ?_)
      simp [runM_nil, hm, hj, hkk, tkV, hxx, trV]
      refine hK _ _ (pwp_ret ⟨.inr rfl, _, _, (by simp [runM_nil, resL]; rfl), .refl _, by simp [resV, h4], rfl⟩)
end Go.Proofs.Ytkjibelcaeanjaa.E
/- The document's table with another task, on plain values. -/
namespace Go.Proofs.Ytkjibelcaeanjaa.E
open Go Go.RowKit Go.Proofs
set_option linter.unusedVariables false
set_option linter.unusedSimpArgs false
set_option maxRecDepth 4000 in
theorem with_ok (t : Tb) (n : Nat) (k : Tk) (hs : Small t) : PSpec Try.prog 65 [tbV t, .int .i64 n, tkV k] (tbV (setT t n k)) := by
  intro H
  have hsl := hs.l
  obtain ⟨l2, hl2⟩ : ∃ l2, l2 = t.l.set n k := ⟨_, rfl⟩
  have hml : l2.length = t.l.length := by rw [hl2]; exact List.length_set ..
  have hmi : ∀ i, (h : i < l2.length) → l2[i] = if n = i then k else t.l[i]'(by omega) := fun i h => by subst hl2; exact List.getElem_set h
  refine spec_of t65w (by simp [p65w]) ?_
  simp only [p65w, setT]
  rw [← hl2]
  refine pwp_sr fun K hK => ?_
  simp [runM_nil, tbV, tkV]
  intro b6 h6
  refine hK _ _ (pwp_sr fun K hK => ?_)
  simp [runM_nil]
  intro b7 h7
  obtain ⟨n67, h7⟩ := hget_cons_none.1 h7
  refine hK _ _ (pwp_seq (pwp_sr fun K hK => ?_))
  simp [runM_nil]
  refine hK _ _ (pwp_block ?_)
  clear hK
  refine pwp_loopV [1, 3, 5, 6, 7, 8] (fun m st H' => ∃ i, i ≤ t.l.length ∧ m = t.l.length - i ∧ H' = (b7, [.int .i64 t.cap, .int .i64 t.tm, .lst 3 ((l2.take i).map tkV) true]) :: (b6, [.int .i64 0, .int .i64 0, .lst 0 [] true]) :: H ∧
      st = MS 41 [(1, .int .i64 n), (3, .ip 3 [tbV t] 0 0), (5, .ip 3 [tkV k] 0 0), (6, .ptr (some (b6, 0))), (7, .ptr (some (b7, 0))), (8, .int .i64 i)]) (n := t.l.length)
    ⟨_, _, _, keep_up (l' := [(1, .int .i64 n), (3, .ip 3 [tbV t] 0 0), (5, .ip 3 [tkV k] 0 0), (6, .ptr (some (b6, 0))), (7, .ptr (some (b7, 0))), (8, .int .i64 0)]) (by simp [keepA, tbV, tkV]), List.Sublist.refl _, ?_, 0, Nat.zero_le _, rfl, rfl, rfl⟩ ?_
  · simp [HUp, HUp_refl, keepA]
  rintro m st H2 ⟨i, hi, rfl, rfl, rfl⟩
  refine pwp_rif fun K hK => ?_
  by_cases hik : i < t.l.length
  · have hw : IntKind.i64.wrap ((i : Int) + 1) = ((i + 1 : Nat) : Int) := by rw [w64 (by omega) (by omega)]; rfl
    have hacc := map_take_succ tkV l2 i (by omega)
    rw [hmi i (by omega)] at hacc
    have hal : ((l2.take i).map tkV).length = i := by rw [List.length_map, List.length_take]; omega
    generalize haccD : (l2.take i).map tkV = acc at *
    have hby : (acc.length + 1) * 40 ≤ 140737488355328 := by omega
    have hend : ∀ K : List PV → Heap → Prop, ∀ st', keepL [1, 3, 5, 6, 7, 8] 0 st' = MS 41 [(1, .int .i64 n), (3, .ip 3 [tbV t] 0 0), (5, .ip 3 [tkV k] 0 0), (6, .ptr (some (b6, 0))), (7, .ptr (some (b7, 0))), (8, .int .i64 i)] → True := fun _ _ _ => trivial
    generalize hkk : t.l[i] = k0 at *
    rcases (show n = i ∨ (¬ n = i ∧ ¬ ((i : Int) = n) ∧ ¬ (i = n)) by omega) with hni | ⟨hn1, hn2, hn3⟩
    · subst hni
      rw [if_pos rfl] at hacc
      simp [runM_nil, tbV, hik]
      refine hK _ _ (ifT (by simp [runM_nil]) (pwp_skip (pwp_seq (pwp_block (pwp_rifE fun K hK => ?_)))))
      simp [runM_nil]
      refine hK _ _ (ifT (by simp [runM_nil]) (pwp_regionM fun K hK => ?_))
      simp [runM_nil, n67, Ne.symm n67, hby, tkV]
      refine hK _ _ (pwp_regionM fun K hK => ?_)
      simp [runM_nil, hw]
      refine hK _ _ ⟨t.l.length - (n + 1), by omega, _, _, _, keep_up (l' := [(1, .int .i64 n), (3, .ip 3 [tbV t] 0 0), (5, .ip 3 [tkV k] 0 0), (6, .ptr (some (b6, 0))), (7, .ptr (some (b7, 0))), (8, .int .i64 (n + 1 : Nat))]) (by simp [keepA, tbV, tkV]), List.Sublist.refl _, HUp_refl _, n + 1, by omega, rfl, ?_, rfl⟩
      rw [hacc]
      rfl
    · rw [if_neg hn1] at hacc
      simp [runM_nil, tbV, hik]
      refine hK _ _ (ifT (by simp [runM_nil]) (pwp_skip (pwp_seq (pwp_block (pwp_rifE fun K hK => ?_)))))
      simp [runM_nil, hn2, hn3]
      refine hK _ _ (ifF (by simp [runM_nil, hn2, hn3]) ?_)
      refine pwp_drawS hmix ?_
      intro K hK
      simp [runM_nil, planS_nil, n67, Ne.symm n67, hby, hik, hkk, tkV]
      refine hK _ _ (pwp_regionM fun K hK => ?_)
      simp [runM_nil, hw]
      refine hK _ _ ⟨t.l.length - (i + 1), by omega, _, _, _, keep_up (l' := [(1, .int .i64 n), (3, .ip 3 [tbV t] 0 0), (5, .ip 3 [tkV k] 0 0), (6, .ptr (some (b6, 0))), (7, .ptr (some (b7, 0))), (8, .int .i64 (i + 1 : Nat))]) (by simp [keepA, tbV, tkV]), List.Sublist.refl _, HUp_refl _, i + 1, by omega, rfl, ?_, rfl⟩
      rw [hacc]
      rfl
  · have hil : i = t.l.length := by omega
    have hfull : (l2.take i).map tkV = l2.map tkV := by rw [List.take_of_length_le (by omega)]
    rw [hfull]
    simp [runM_nil, tbV, hik]
    refine hK _ _ (ifF (by simp [runM_nil]) (pwp_exit (pwp_sr fun K hK => ?_)))
    simp [runM_nil, n67, Ne.symm n67]
    refine hK _ _ (pwp_ret ⟨.inr rfl, _, _, (by simp [runM_nil, resL, n67, Ne.symm n67]; rfl), .cons _ (.cons _ (.refl _)), by simp [resV, tbV], rfl⟩)
end Go.Proofs.Ytkjibelcaeanjaa.E
/- The document's Lose and Finish, on plain values. -/
namespace Go.Proofs.Ytkjibelcaeanjaa.E
open Go Go.RowKit Go.Proofs
set_option linter.unusedVariables false
set_option linter.unusedSimpArgs false
theorem doneBy_out {t : Tb} {i n : Int} (h : i < 0 ∨ ¬ i < t.l.length) : isDoneBy t i n = false := by
  have : isTaskT t i = false := by simp [isTaskT, inB]; omega
  simp [isDoneBy, this]
theorem doneBy_in {t : Tb} {m : Nat} (hm : m < t.l.length) (n : Int) : isDoneBy t m n = (decide (0 ≤ n) && decide (t.l[m].dn = n)) := by
  simp [isDoneBy, isTask_of hm, hm]
theorem lose_cases (t : Tb) (i n : Int) : i < 0 ∨ (¬ i < 0 ∧ (t.l.length : Int) ≤ i) ∨ ∃ (m : Nat) (hm : m < t.l.length), (n < 0 ∧ i = m) ∨ (¬ n < 0 ∧ ¬ t.l[m].dn = n ∧ i = m) ∨ (¬ n < 0 ∧ t.l[m].dn = n ∧ i = m) := by
  rcases nat3 i t.l.length with h1 | ⟨h1, h2⟩ | ⟨m, rfl, hm⟩
  · exact .inl h1
  · exact .inr (.inl ⟨by omega, by omega⟩)
  · refine .inr (.inr ⟨m, hm, ?_⟩)
    by_cases h1 : n < 0
    · exact .inl ⟨h1, rfl⟩
    · by_cases h2 : t.l[m].dn = n
      · exact .inr (.inr ⟨h1, h2, rfl⟩)
      · exact .inr (.inl ⟨h1, h2, rfl⟩)
set_option maxRecDepth 4000 in
theorem refLose_ok (t : Tb) (i n : Int) (hs : Small t) : PSpec Try.prog 50 [tbV t, .int .i64 i, .int .i64 n] (.tup [tbV (loseT t i n), .bool (isDoneBy t i n)]) := by
  intro H
  refine spec_of t50 (by simp [p50]) ?_
  simp only [p50]
  refine pwp_sr fun K hK => ?_
  simp [runM_nil, tbV]
  intro b6 h6
  refine hK _ _ (pwp_rif fun K hK => ?_)
  have no : ∀ st', argT st' (.t 31) = .bool true → keepL [3, 6] 0 st' = MS 46 [(3, .ip 3 [tbV t] 0 0), (6, .ptr (some (b6, 0)))] → isDoneBy t i n = false → K st' ((b6, [.int .i64 0, .int .i64 0, .lst 0 [] true]) :: H) := by
    intro st' e1 e2 e3
    refine hK _ _ (ifT e1 (pwp_keep [3, 6] ?_))
    rw [e2]
    refine pwp_sr fun K hK => ?_
    simp [runM_nil, tbV]
    refine hK _ _ (pwp_retT ⟨.inr rfl, _, _, (by simp [runM_nil, resL]; rfl), .cons _ (.refl _), by simp [resV, tbV, loseT, e3], rfl⟩)
  have go : ∀ st' (m : Nat), i = m → argT st' (.t 31) = .bool false → keepL [1, 3, 6] 0 st' = MS 46 [(1, .int .i64 m), (3, .ip 3 [tbV t] 0 0), (6, .ptr (some (b6, 0)))] → m < t.l.length → isDoneBy t i n = true → K st' ((b6, [.int .i64 0, .int .i64 0, .lst 0 [] true]) :: H) := by
    intro st' m e0 e1 e2 hm e3
    subst e0
    refine hK _ _ (ifF e1 (pwp_skip (pwp_keep [1, 3, 6] ?_)))
    rw [e2]
    have hwith := with_ok t m (loseK t.l[m]) hs
    have hlt : loseT t m n = setT t m (loseK t.l[m]) := by simp [loseT, e3, chgT, hm]
    generalize hkk : t.l[m] = k at *
    simp only [tbV, tkV, loseK] at hwith
    refine pwp_sr fun K hK => ?_
    simp [runM_nil, tbV, hm, hkk, tkV]
    intro b8 h8
    obtain ⟨n68, h8⟩ := hget_cons_none.1 h8
    refine hK _ _ (pwp_sr fun K hK => ?_)
    simp [runM_nil, n68, Ne.symm n68, tbV]
    refine useP hwith ?_
    simp [runM_nil, setT, n68, Ne.symm n68]
    refine hK _ _ (pwp_ret ⟨.inr rfl, _, _, (by simp [runM_nil, resL, n68, Ne.symm n68]; rfl), .cons _ (.cons _ (.refl _)), by rw [hlt]; simp [resV, tbV, setT, loseK, e3], rfl⟩)
  rcases lose_cases t i n with h1 | ⟨h3, h4⟩ | ⟨m, hm, ⟨h1, e⟩ | ⟨h1, h2, e⟩ | ⟨h1, h2, e⟩⟩
  · simp [runM_nil, h1]
    exact no _ (by simp [runM_nil]) (by simp [keepL_MS, keepA, getS, tbV]) (doneBy_out (.inl h1))
  · simp [runM_nil, tbV, h3, h4]
    exact no _ (by simp [runM_nil]) (by simp [keepL_MS, keepA, getS, tbV]) (doneBy_out (.inr (by omega)))
  · subst e
    have hm2 : ¬ t.l.length ≤ m := by omega
    have hm0 : ¬ ((m : Int) < 0) := by omega
    have hd := doneBy_in hm n
    have h3 : ¬ 0 ≤ n := by omega
    simp [runM_nil, tbV, hm2, hm0, h1]
    exact no _ (by simp [runM_nil]) (by simp [keepL_MS, keepA, getS, tbV]) (by rw [hd]; simp [h3])
  · subst e
    have hm2 : ¬ t.l.length ≤ m := by omega
    have hm0 : ¬ ((m : Int) < 0) := by omega
    have hd := doneBy_in hm n
    generalize hkk : t.l[m] = k at *
    simp [runM_nil, tbV, hm2, hm0, h1, hm, hkk, tkV, h2]
    exact no _ (by simp [runM_nil]) (by simp [keepL_MS, keepA, getS, tbV]) (by rw [hd]; simp [h2])
  · subst e
    have hm2 : ¬ t.l.length ≤ m := by omega
    have hm0 : ¬ ((m : Int) < 0) := by omega
    have hd := doneBy_in hm n
    generalize hkk : t.l[m] = k at *
    have h3 : 0 ≤ n := by omega
    simp [runM_nil, tbV, hm2, hm0, h1, hm, hkk, tkV, h2]
    exact go _ m rfl (by simp [runM_nil]) (by simp [keepL_MS, keepA, getS, tbV]) hm (by rw [hd]; simp [h2, h3])
set_option maxRecDepth 4000 in
theorem refFinish_ok (t : Tb) (i n : Int) (hs : Small t) : PSpec Try.prog 46 [tbV t, .int .i64 i, .int .i64 n] (.tup [tbV (finishT t i n), .bool (isOpenT t i n)]) := by
  intro H
  have hio := is_ok t i n hs
  simp only [tbV] at hio
  refine spec_of t46 (by simp [p46]) ?_
  simp only [p46]
  refine pwp_sr fun K hK => ?_
  simp [runM_nil, tbV]
  intro b6 h6
  refine hK _ _ (pwp_rif fun K hK => ?_)
  simp [runM_nil]
  refine useP hio ?_
  cases hi : isOpenT t i n with
  | false =>
    simp [runM_nil]
    refine hK _ _ (ifT (by simp [runM_nil]) (pwp_sr fun K hK => ?_))
    simp [runM_nil]
    refine hK _ _ (pwp_retT ⟨.inr rfl, _, _, (by simp [runM_nil, resL]; rfl), .cons _ (.refl _), by simp [resV, finishT, hi, tbV], rfl⟩)
  | true =>
    obtain ⟨m, j, hm, hj, rfl, rfl, _⟩ := isOpen_nat hi
    have hks := hs.tr _ (List.getElem_mem hm)
    have hst : finishT t m j = setT t m (finishK t.l[m] j) := by simp [finishT, hi, chgT, hm]
    have hwith := with_ok t m (finishK t.l[m] j) hs
    generalize hkk : t.l[m] = k at *
    simp only [tbV, tkV, finishK] at hwith
    simp [runM_nil]
    refine hK _ _ (ifF (by simp [runM_nil]) (pwp_skip (pwp_sr fun K hK => ?_)))
    simp [runM_nil, tbV, hm, hkk, tkV]
    intro b8 h8
    obtain ⟨n68, h8⟩ := hget_cons_none.1 h8
    refine hK _ _ (pwp_sr fun K hK => ?_)
    simp [runM_nil]
    refine hK _ _ (pwp_seq (pwp_sr fun K hK => ?_))
    simp [runM_nil]
    refine hK _ _ (pwp_block ?_)
    clear hK
    refine pwp_loopU [1, 2, 3, 6, 8, 9, 10] (fun q st H' => ∃ i, i ≤ k.tr.length ∧ q = k.tr.length - i ∧ H' = (b8, [.lst 3 (k.tr.map trV) false, .int .i64 k.dn, .int .i64 k.fl]) :: (b6, [.int .i64 0, .int .i64 0, .lst 0 [] true]) :: H ∧
        st = MS 47 [(1, .int .i64 m), (2, .int .i64 j), (3, .ip 3 [tbV t] 0 0), (6, .ptr (some (b6, 0))), (8, .ptr (some (b8, 0))), (9, .lst 3 (((k.tr.map shut).take i).map trV) true), (10, .int .i64 i)]) (n := k.tr.length)
      ⟨_, _, keep_up (l' := [(1, .int .i64 m), (2, .int .i64 j), (3, .ip 3 [tbV t] 0 0), (6, .ptr (some (b6, 0))), (8, .ptr (some (b8, 0))), (9, .lst 3 [] true), (10, .int .i64 0)]) (by simp [keepA, tbV]), List.Sublist.refl _, 0, Nat.zero_le _, rfl, rfl, rfl⟩ ?_
    rintro q st H2 ⟨i, hi2, rfl, rfl, rfl⟩
    refine pwp_rif fun K hK => ?_
    by_cases hik : i < k.tr.length
    · have hw : IntKind.i64.wrap ((i : Int) + 1) = ((i + 1 : Nat) : Int) := by rw [w64 (by omega) (by omega)]; rfl
      have hacc := map_take_succ trV (k.tr.map shut) i (by simpa using hik)
      rw [List.getElem_map] at hacc
      have hal : (((k.tr.map shut).take i).map trV).length = i := by rw [List.length_map, List.length_take, List.length_map]; omega
      generalize ((k.tr.map shut).take i).map trV = acc at *
      have hby : (acc.length + 1) * 24 ≤ 140737488355328 := by omega
      generalize hxx : k.tr[i] = x at *
      have hcl := closed_ok x
      simp only [trV] at hcl
      simp [runM_nil, hik, n68, Ne.symm n68]
      refine hK _ _ (ifT (by simp [runM_nil]) (pwp_skip (pwp_seq (pwp_block (pwp_regionM fun K hK => ?_)))))
      simp [runM_nil, hik, n68, Ne.symm n68, hxx, trV]
      refine useP hcl ?_
      simp [runM_nil, hby]
      refine hK _ _ (pwp_regionM fun K hK => ?_)
      simp [runM_nil, hw]
      refine hK _ _ ⟨k.tr.length - (i + 1), by omega, _, _, keep_up (l' := [(1, .int .i64 m), (2, .int .i64 j), (3, .ip 3 [tbV t] 0 0), (6, .ptr (some (b6, 0))), (8, .ptr (some (b8, 0))), (9, .lst 3 (((k.tr.map shut).take (i + 1)).map trV) true), (10, .int .i64 (i + 1 : Nat))]) ?_, List.Sublist.refl _, i + 1, by omega, rfl, rfl, rfl⟩
      rw [hacc]
      simp [keepA, tbV, trV]
    · have hil : i = k.tr.length := by omega
      have hfull : ((k.tr.map shut).take i).map trV = (k.tr.map shut).map trV := by rw [List.take_of_length_le (by rw [List.length_map]; omega)]
      rw [hfull]
      generalize (k.tr.map shut).map trV = l2 at *
      simp [runM_nil, hik, n68, Ne.symm n68]
      refine hK _ _ (ifF (by simp [runM_nil]) (pwp_exit (pwp_sr fun K hK => ?_)))
      simp [runM_nil, n68, Ne.symm n68, tbV]
      refine useP hwith ?_
      simp [runM_nil, setT, n68, Ne.symm n68]
      refine hK _ _ (pwp_ret ⟨.inr rfl, _, _, (by simp [runM_nil, resL, n68, Ne.symm n68]; rfl), .cons _ (.cons _ (.refl _)), by rw [hst]; simp [resV, tbV, setT, finishK, hi], rfl⟩)
end Go.Proofs.Ytkjibelcaeanjaa.E
/- The document's Fail and Beat, on plain values. -/
namespace Go.Proofs.Ytkjibelcaeanjaa.E
open Go Go.RowKit Go.Proofs
set_option linter.unusedVariables false
set_option linter.unusedSimpArgs false
set_option maxRecDepth 4000 in
theorem refFail_ok (t : Tb) (i n : Int) (hs : Small t) : PSpec Try.prog 47 [tbV t, .int .i64 i, .int .i64 n] (.tup [tbV (failT t i n), .bool (isOpenT t i n)]) := by
  intro H
  have hio := is_ok t i n hs
  simp only [tbV] at hio
  refine spec_of t47 (by simp [p47]) ?_
  simp only [p47]
  refine pwp_sr fun K hK => ?_
  simp [runM_nil, tbV]
  intro b6 h6
  refine hK _ _ (pwp_rif fun K hK => ?_)
  simp [runM_nil]
  refine useP hio ?_
  cases hi : isOpenT t i n with
  | false =>
    simp [runM_nil]
    refine hK _ _ (ifT (by simp [runM_nil]) (pwp_sr fun K hK => ?_))
    simp [runM_nil]
    refine hK _ _ (pwp_retT ⟨.inr rfl, _, _, (by simp [runM_nil, resL]; rfl), .cons _ (.refl _), by simp [resV, failT, hi, tbV], rfl⟩)
  | true =>
    obtain ⟨m, j, hm, hj, rfl, rfl, _⟩ := isOpen_nat hi
    have hks := hs.tr _ (List.getElem_mem hm)
    have hst : failT t m j = setT t m (failK t.l[m] j) := by simp [failT, hi, chgT, hm]
    have hfk : failK t.l[m] j = ⟨t.l[m].tr.set j (shut t.l[m].tr[j]), t.l[m].dn, IntKind.i64.wrap (t.l[m].fl + 1)⟩ := by simp [failK, hj]
    have hwith := with_ok t m (failK t.l[m] j) hs
    have htr := tries_ok t.l[m] j (shut t.l[m].tr[j]) hks
    have hcl := closed_ok t.l[m].tr[j]
    rw [hfk] at hwith hst
    generalize hkk : t.l[m] = k at *
    generalize hxx : k.tr[j] = x at *
    generalize k.tr.set j (shut x) = l2 at *
    simp only [tbV, tkV] at hwith htr
    simp only [trV] at hcl htr
    simp [runM_nil]
    refine hK _ _ (ifF (by simp [runM_nil]) (pwp_skip (pwp_sr fun K hK => ?_)))
    simp [runM_nil, tbV, hm, hkk, tkV]
    intro b8 h8
    obtain ⟨n68, h8⟩ := hget_cons_none.1 h8
    refine hK _ _ (pwp_ss hmix ?_)
    intro K hK
    simp [runM_nil, planS_nil, n68, Ne.symm n68, tbV, hj, hxx, trV]
    refine useDS hcl ?_
    simp [runM_nil, planS_nil, n68, Ne.symm n68, shut]
    refine useDS htr ?_
    simp [runM_nil, planS_nil, n68, Ne.symm n68]
    refine useDS hwith ?_
    simp [runM_nil, planS_nil, n68, Ne.symm n68, setT]
    refine hK _ _ (pwp_ret ⟨.inr rfl, _, _, (by simp [runM_nil, resL, n68, Ne.symm n68]; rfl), .cons _ (.cons _ (.refl _)), by rw [hst]; simp [resV, tbV, setT, hi], rfl⟩)
set_option maxRecDepth 4000 in
theorem refBeat_ok (t : Tb) (i n now : Int) (hs : Small t) : PSpec Try.prog 45 [tbV t, .int .i64 i, .int .i64 n, .int .i64 now] (.tup [tbV (beatT t i n now), .bool (isOpenT t i n)]) := by
  intro H
  have hio := is_ok t i n hs
  simp only [tbV] at hio
  refine spec_of t45 (by simp [p45]) ?_
  simp only [p45]
  refine pwp_sr fun K hK => ?_
  simp [runM_nil, tbV]
  intro b8 h8
  refine hK _ _ (pwp_rif fun K hK => ?_)
  simp [runM_nil]
  refine useP hio ?_
  cases hi : isOpenT t i n with
  | false =>
    simp [runM_nil]
    refine hK _ _ (ifT (by simp [runM_nil]) (pwp_sr fun K hK => ?_))
    simp [runM_nil]
    refine hK _ _ (pwp_retT ⟨.inr rfl, _, _, (by simp [runM_nil, resL]; rfl), .cons _ (.refl _), by simp [resV, beatT, hi, tbV], rfl⟩)
  | true =>
    obtain ⟨m, j, hm, hj, rfl, rfl, hop⟩ := isOpen_nat hi
    have hks := hs.tr _ (List.getElem_mem hm)
    have hst : beatT t m j now = setT t m (beatK t.l[m] j now) := by simp [beatT, hi, chgT, hm]
    have hfk : beatK t.l[m] j now = ⟨t.l[m].tr.set j ⟨t.l[m].tr[j].w, now, true⟩, t.l[m].dn, t.l[m].fl⟩ := by simp [beatK, hj, setTr, hop]
    have hwith := with_ok t m (beatK t.l[m] j now) hs
    have htr := tries_ok t.l[m] j ⟨t.l[m].tr[j].w, now, true⟩ hks
    rw [hfk] at hwith hst
    generalize hkk : t.l[m] = k at *
    generalize hxx : k.tr[j] = x at *
    generalize k.tr.set j ⟨x.w, now, true⟩ = l2 at *
    simp only [tbV, tkV] at hwith htr
    simp only [trV] at htr
    simp [runM_nil]
    refine hK _ _ (ifF (by simp [runM_nil]) (pwp_skip (pwp_sr fun K hK => ?_)))
    simp [runM_nil, tbV, hm, hkk, tkV]
    intro b10 h10
    obtain ⟨n68, h10⟩ := hget_cons_none.1 h10
    refine hK _ _ (pwp_sd hmix ?_)
    intro K hK
    simp [runM_nil, n68, Ne.symm n68, tbV, hj, hxx, trV]
    refine useD htr ?_
    simp [runM_nil, n68, Ne.symm n68]
    refine hK _ _ (pwp_sr fun K hK => ?_)
    simp [runM_nil, n68, Ne.symm n68]
    refine useP hwith ?_
    simp [runM_nil, n68, Ne.symm n68, setT]
    refine hK _ _ (pwp_ret ⟨.inr rfl, _, _, (by simp [runM_nil, resL, n68, Ne.symm n68]; rfl), .cons _ (.cons _ (.refl _)), by rw [hst]; simp [resV, tbV, setT, hi], rfl⟩)
end Go.Proofs.Ytkjibelcaeanjaa.E
/- The document's Start, on plain values. -/
namespace Go.Proofs.Ytkjibelcaeanjaa.E
open Go Go.RowKit Go.Proofs
set_option linter.unusedVariables false
set_option linter.unusedSimpArgs false
theorem start_out {t : Tb} {i worker now : Int} (h : i < 0 ∨ ¬ i < t.l.length) : startT t i worker now = (t, -1, 1) := by
  have : isTaskT t i = false := by simp [isTaskT, inB]; omega
  unfold startT
  split <;> simp [this]
theorem start_in {t : Tb} {m : Nat} (hm : m < t.l.length) (worker now : Int) : startT t m worker now = if busy t.l[m] worker = true then (t, (-1 : Int), (14 : Int)) else if 500 ≤ t.l[m].tr.length then (t, (-1 : Int), (8 : Int)) else (setT t m (startK t.l[m] worker now), (t.l[m].tr.length : Int), (0 : Int)) := by
  simp [startT, isTask_of hm, hm]
theorem may_at {t : Tb} (hma : mayT t = true) {m : Nat} (hm : m < t.l.length) : mayK t.l[m] = true := by
  simp only [mayT, Bool.and_eq_true, List.all_eq_true] at hma
  exact hma.2.2.2 _ (List.getElem_mem hm)
/-- Whom a task is busy for, as the document asks. -/
theorem busy_cases {k : Tk} (hk : mayK k = true) (worker : Int) :
    (0 ≤ k.dn ∧ busy k worker = true) ∨
    (¬ 0 ≤ k.dn ∧ openIx k.tr = [] ∧ busy k worker = false) ∨
    (∃ (i : Nat) (hi : i < k.tr.length), ¬ 0 ≤ k.dn ∧ openIx k.tr = [i] ∧ k.tr[i].w = worker ∧ busy k worker = true) ∨
    (∃ (i : Nat) (hi : i < k.tr.length), ¬ 0 ≤ k.dn ∧ openIx k.tr = [i] ∧ ¬ k.tr[i].w = worker ∧ busy k worker = false) ∨
    (∃ i j : Nat, ¬ 0 ≤ k.dn ∧ openIx k.tr = [i, j] ∧ busy k worker = true) := by
  simp only [mayK, Bool.and_eq_true, inB, decide_eq_true_eq] at hk
  obtain ⟨_, hd, _, ho, _⟩ := hk
  by_cases h1 : 0 ≤ k.dn
  · have h2 : ¬ k.dn = -1 := by omega
    exact .inl ⟨h1, by simp [busy, h2]⟩
  have h2 : k.dn = -1 := by omega
  rcases openIx_shape k with ⟨ex, eo⟩ | ⟨x0, y0, ex, hx0, eo⟩ | ⟨x0, x1, y0, y1, ex, hx0, hx1, eo⟩ | ⟨hx3, ho3⟩
  · exact .inr (.inl ⟨h1, ex, by simp [busy, h2, eo]⟩)
  · obtain ⟨hl, hg⟩ := List.getElem?_eq_some_iff.1 hx0
    by_cases h3 : y0.w = worker
    · exact .inr (.inr (.inl ⟨x0, hl, h1, ex, by rw [hg]; exact h3, by simp [busy, h2, eo, ownTr, h3]⟩))
    · exact .inr (.inr (.inr (.inl ⟨x0, hl, h1, ex, by rw [hg]; exact h3, by simp [busy, h2, eo, ownTr, h3]⟩)))
  · exact .inr (.inr (.inr (.inr ⟨x0, x1, h1, ex, by simp [busy, h2, eo]⟩)))
  · omega
set_option maxRecDepth 8000 in
set_option maxHeartbeats 1000000 in
theorem refStart_ok (t : Tb) (i worker now : Int) (hs : Small t) (hma : mayT t = true) : PSpec Try.prog 44 [tbV t, .int .i64 i, .int .i64 worker, .int .i64 now] (.tup [tbV (startT t i worker now).1, .int .i64 (startT t i worker now).2.1, .int .i64 (startT t i worker now).2.2]) := by
  intro H
  refine spec_of t44 (by simp [p44]) ?_
  simp only [p44]
  refine pwp_sr fun K hK => ?_
  simp [runM_nil, tbV]
  intro b8 h8
  refine hK _ _ (pwp_rif fun K hK => ?_)
  have no : ∀ st', argT st' (.t 22) = .bool true → keepL [4, 8] 0 st' = MS 84 [(4, .ip 3 [tbV t] 0 0), (8, .ptr (some (b8, 0)))] → startT t i worker now = (t, -1, 1) → K st' ((b8, [.int .i64 0, .int .i64 0, .lst 0 [] true]) :: H) := by
    intro st' e1 e2 e3
    refine hK _ _ (ifT e1 (pwp_keep [4, 8] ?_))
    rw [e2]
    refine pwp_sr fun K hK => ?_
    simp [runM_nil, tbV]
    refine hK _ _ (pwp_retT ⟨.inr rfl, _, _, (by simp [runM_nil, resL]; rfl), .cons _ (.refl _), by rw [e3]; simp [resV, tbV], rfl⟩)
  rcases nat3 i t.l.length with h1 | ⟨h1, h2⟩ | ⟨m, e, hm⟩
  · simp [runM_nil, h1]
    exact no _ (by simp [runM_nil]) (by simp [keepL_MS, keepA, getS, tbV]) (start_out (.inl h1))
  · have h3 : ¬ i < 0 := by omega
    have h4 : (t.l.length : Int) ≤ i := by omega
    simp [runM_nil, tbV, h3, h4]
    exact no _ (by simp [runM_nil]) (by simp [keepL_MS, keepA, getS, tbV]) (start_out (.inr h2))
  subst e
  have hm2 : ¬ t.l.length ≤ m := by omega
  have hm0 : ¬ ((m : Int) < 0) := by omega
  have hst := start_in hm worker now
  have hmk := may_at hma hm
  have hks := hs.tr _ (List.getElem_mem hm)
  have hwith := with_ok t m (startK t.l[m] worker now) hs
  generalize hkk : t.l[m] = k at *
  have hop := refOpen_ok k hks
  simp only [tkV] at hop
  simp only [startK] at hwith hst
  generalize setT t m ⟨k.tr ++ [⟨worker, now, true⟩], k.dn, k.fl⟩ = u at *
  simp only [tbV, tkV, List.map_append, List.map_cons, List.map_nil, trV] at hwith
  simp [runM_nil, tbV, hm2, hm0]
  refine hK _ _ (ifF (by simp [runM_nil]) (pwp_skip (pwp_sr fun K hK => ?_)))
  clear no
  simp [runM_nil, tbV, hm, hkk, tkV]
  intro b11 h11
  obtain ⟨n811, h11⟩ := hget_cons_none.1 h11
  refine hK _ _ (pwp_sr fun K hK => ?_)
  simp [runM_nil]
  refine useP hop ?_
  simp [runM_nil]
  refine hK _ _ (pwp_kept (keep := [1, 2, 3, 4, 8, 11, 12]) (l' := [(1, .int .i64 m), (2, .int .i64 worker), (3, .int .i64 now), (4, .ip 3 [tbV t] 0 0), (8, .ptr (some (b8, 0))), (11, .ptr (some (b11, 0))), (12, .lst 1 (natsV (openIx k.tr)) true)]) (by simp [keepA, getS, tbV]) ?_)
  have hbz := busy_cases hmk worker
  refine pwp_dif hmix ?_
  intro K hK
  have bz : ∀ st', argT st' (.t 55) = .bool true → keepL [4, 8] 0 st' = MS 84 [(4, .ip 3 [tbV t] 0 0), (8, .ptr (some (b8, 0)))] → busy k worker = true → K st' ((b11, [.lst 3 (k.tr.map trV) false, .int .i64 k.dn, .int .i64 k.fl]) :: (b8, [.int .i64 0, .int .i64 0, .lst 0 [] true]) :: H) := by
    intro st' e1 e2 e3
    rw [if_pos e3] at hst
    refine hK _ _ (ifT e1 (pwp_keep [4, 8] ?_))
    rw [e2]
    refine pwp_sr fun K hK => ?_
    simp [runM_nil, tbV, n811, Ne.symm n811]
    refine hK _ _ (pwp_retT ⟨.inr rfl, _, _, (by simp [runM_nil, resL, n811, Ne.symm n811]; rfl), .cons _ (.cons _ (.refl _)), by rw [hst]; simp [resV, tbV], rfl⟩)
  have go : ∀ st', argT st' (.t 55) = .bool false → keepL [1, 2, 3, 4, 8, 11] 0 st' = MS 84 [(1, .int .i64 m), (2, .int .i64 worker), (3, .int .i64 now), (4, .ip 3 [tbV t] 0 0), (8, .ptr (some (b8, 0))), (11, .ptr (some (b11, 0)))] → busy k worker = false → K st' ((b11, [.lst 3 (k.tr.map trV) false, .int .i64 k.dn, .int .i64 k.fl]) :: (b8, [.int .i64 0, .int .i64 0, .lst 0 [] true]) :: H) := by
    intro st' e1 e2 e3
    rw [if_neg (by rw [e3]; simp)] at hst
    refine hK _ _ (ifF e1 (pwp_skip (pwp_keep [1, 2, 3, 4, 8, 11] ?_)))
    rw [e2]
    rcases (show 500 ≤ k.tr.length ∨ ¬ 500 ≤ k.tr.length by omega) with h5 | h5
    · rw [if_pos h5] at hst
      have h5' : (500 : Int) ≤ k.tr.length := by omega
      refine pwp_rif fun K hK => ?_
      simp [runM_nil, tbV, n811, Ne.symm n811, h5']
      refine hK _ _ (ifT (by simp [runM_nil]) (pwp_sr fun K hK => ?_))
      simp [runM_nil, tbV, n811, Ne.symm n811]
      refine hK _ _ (pwp_retT ⟨.inr rfl, _, _, (by simp [runM_nil, resL, n811, Ne.symm n811]; rfl), .cons _ (.cons _ (.refl _)), by rw [hst]; simp [resV, tbV], rfl⟩)
    · rw [if_neg h5] at hst
      have h5' : ¬ (500 : Int) ≤ k.tr.length := by omega
      have hw : IntKind.i64.wrap (k.tr.length : Int) = k.tr.length := w64 (by omega) (by omega)
      have hb1 : k.tr.length * 24 ≤ 140737488355328 := by omega
      have hb2 : (k.tr.length + 1) * 24 ≤ 140737488355328 := by omega
      refine pwp_rif fun K hK => ?_
      simp [runM_nil, tbV, n811, Ne.symm n811, h5']
      refine hK _ _ (ifF (by simp [runM_nil]) (pwp_skip (pwp_sr fun K hK => ?_)))
      simp [runM_nil, tbV, n811, Ne.symm n811, hb1]
      refine hK _ _ (pwp_sr fun K hK => ?_)
      simp [runM_nil, tbV, n811, Ne.symm n811, hb2]
      refine hK _ _ (pwp_sr fun K hK => ?_)
      simp [runM_nil, tbV, n811, Ne.symm n811]
      refine useP hwith ?_
      simp [runM_nil, n811, Ne.symm n811, hw]
      refine hK _ _ (pwp_ret ⟨.inr rfl, _, _, (by simp [runM_nil, resL, n811, Ne.symm n811]; rfl), .cons _ (.cons _ (.refl _)), by rw [hst]; simp [resV, tbV], rfl⟩)
  rcases hbz with ⟨h1, hb⟩ | ⟨h1, h2, hb⟩ | ⟨i, hi, h1, h2, h3, hb⟩ | ⟨i, hi, h1, h2, h3, hb⟩ | ⟨i, j, h1, h2, hb⟩
  · simp [runM_nil, tbV, n811, Ne.symm n811, h1]
    exact bz _ (by simp [runM_nil]) (by simp [keepL_MS, keepA, getS, tbV]) hb
  · rw [h2]
    simp [runM_nil, tbV, n811, Ne.symm n811, h1, natsV]
    exact go _ (by simp [runM_nil]) (by simp [keepL_MS, keepA, getS, tbV]) hb
  · rw [h2]
    simp [runM_nil, tbV, n811, Ne.symm n811, h1, natsV, hi, trV, h3]
    exact bz _ (by simp [runM_nil]) (by simp [keepL_MS, keepA, getS, tbV]) hb
  · rw [h2]
    simp [runM_nil, tbV, n811, Ne.symm n811, h1, natsV, hi, trV, h3]
    exact go _ (by simp [runM_nil]) (by simp [keepL_MS, keepA, getS, tbV]) hb
  · rw [h2]
    simp [runM_nil, tbV, n811, Ne.symm n811, h1, natsV]
    exact bz _ (by simp [runM_nil]) (by simp [keepL_MS, keepA, getS, tbV]) hb
end Go.Proofs.Ytkjibelcaeanjaa.E
/- The document's Next, Failed and All, on plain values. -/
namespace Go.Proofs.Ytkjibelcaeanjaa.E
open Go Go.RowKit Go.Proofs
set_option linter.unusedVariables false
set_option linter.unusedSimpArgs false
theorem refAll_ok (t : Tb) (hs : Small t) (hma : mayT t = true) : PSpec Try.prog 22 [tbV t] (.bool (allT t)) := by
  intro H
  have hsl := hs.l
  have hall : allT t = t.l.all (fun k => decide (0 ≤ k.dn)) := by
    unfold allT
    apply Bool.eq_iff_iff.2
    simp only [List.all_eq_true]
    constructor <;> intro h k hk
    all_goals
      obtain ⟨i, hi, rfl⟩ := List.getElem_of_mem hk
      have h1 := h _ hk
      have h2 := may_at hma hi
      simp only [mayK, Bool.and_eq_true, inB, decide_eq_true_eq] at h2
      simp [notDone] at h1 ⊢
      omega
  refine spec_of t22 (by simp [p22]) ?_
  simp only [p22]
  refine pwp_sr fun K hK => ?_
  simp [runM_nil, tbV]
  refine hK _ _ (pwp_seq (pwp_sr fun K hK => ?_))
  simp [runM_nil]
  refine hK _ _ (pwp_block ?_)
  clear hK
  refine pwp_loopU [1, 3] (fun m st H' => ∃ i, i ≤ t.l.length ∧ m = t.l.length - i ∧ H' = H ∧ (t.l.take i).all (fun k => decide (0 ≤ k.dn)) = true ∧ st = MS 18 [(1, .ip 3 [tbV t] 0 0), (3, .int .i64 i)]) (n := t.l.length)
    ⟨_, H, keep_up (l' := [(1, .ip 3 [tbV t] 0 0), (3, .int .i64 0)]) (by simp [keepA, tbV]), List.Sublist.refl _, 0, Nat.zero_le _, rfl, rfl, by simp, rfl⟩ ?_
  rintro m st H2 ⟨i, hi, rfl, rfl, hle, rfl⟩
  refine pwp_rif fun K hK => ?_
  by_cases hik : i < t.l.length
  · have hw : IntKind.i64.wrap ((i : Int) + 1) = ((i + 1 : Nat) : Int) := by rw [w64 (by omega) (by omega)]; rfl
    have hno : decide (0 ≤ t.l[i].dn) = false → allT t = false := fun h => by rw [hall]; exact all_false hik h
    have hyes : decide (0 ≤ t.l[i].dn) = true → (t.l.take (i + 1)).all (fun k => decide (0 ≤ k.dn)) = true := fun h => all_take_succ hle hik h
    generalize hkk : t.l[i] = k at *
    simp [runM_nil, tbV, hik]
    refine hK _ _ (ifT (by simp [runM_nil]) (pwp_skip (pwp_seq (pwp_block ?_))))
    rcases (show k.dn < 0 ∨ ¬ k.dn < 0 by omega) with h1 | h1
    · have h2 : ¬ 0 ≤ k.dn := by omega
      refine pwp_rifE fun K hK => ?_
      simp [runM_nil, hik, hkk, tkV, h1]
      refine hK _ _ (ifT (by simp [runM_nil, h1]) (pwp_sr fun K hK => ?_))
      simp [runM_nil]
      refine hK _ _ (pwp_ret ⟨.inr rfl, _, _, (by simp [runM_nil, resL]; rfl), .refl _, by simp [resV, hno (by simp [h2])], rfl⟩)
    · have h2 : 0 ≤ k.dn := by omega
      refine pwp_rifE fun K hK => ?_
      simp [runM_nil, hik, hkk, tkV, h1]
      refine hK _ _ (ifF (by simp [runM_nil, h1]) (pwp_skip (pwp_regionM fun K hK => ?_)))
      simp [runM_nil, hw]
      exact hK _ _ ⟨t.l.length - (i + 1), by omega, _, _, keep_up (l' := [(1, .ip 3 [tbV t] 0 0), (3, .int .i64 (i + 1 : Nat))]) (by simp [keepA, tbV]), List.Sublist.refl _, i + 1, by omega, rfl, rfl, hyes (by simp [h2]), rfl⟩
  · have hil : i = t.l.length := by omega
    rw [hil, List.take_length] at hle
    simp [runM_nil, tbV, hik]
    refine hK _ _ (ifF (by simp [runM_nil]) (pwp_exit (pwp_sr fun K hK => ?_)))
    simp [runM_nil]
    refine hK _ _ (pwp_ret ⟨.inr rfl, _, _, (by simp [runM_nil, resL]; rfl), .refl _, by simp only [resV, hall, hle], rfl⟩)
theorem refFailed_ok (t : Tb) (hs : Small t) : PSpec Try.prog 20 [tbV t] (.tup [.int .i64 (if idxOf (failedAt t) t.l < 0 then 0 else idxOf (failedAt t) t.l), .bool (decide (0 ≤ idxOf (failedAt t) t.l))]) := by
  intro H
  have hsl := hs.l
  refine spec_of t20 (by simp [p20]) ?_
  simp only [p20]
  refine pwp_sr fun K hK => ?_
  simp [runM_nil, tbV]
  refine hK _ _ (pwp_seq (pwp_sr fun K hK => ?_))
  simp [runM_nil]
  refine hK _ _ (pwp_block ?_)
  clear hK
  refine pwp_loopU [1, 4] (fun m st H' => ∃ i, i ≤ t.l.length ∧ m = t.l.length - i ∧ H' = H ∧ (∀ j, (hj : j < i) → (hj2 : j < t.l.length) → failedAt t t.l[j] = false) ∧ st = MS 22 [(1, .ip 3 [tbV t] 0 0), (4, .int .i64 i)]) (n := t.l.length)
    ⟨_, H, keep_up (l' := [(1, .ip 3 [tbV t] 0 0), (4, .int .i64 0)]) (by simp [keepA, tbV]), List.Sublist.refl _, 0, Nat.zero_le _, rfl, rfl, fun j hj => absurd hj (Nat.not_lt_zero _), rfl⟩ ?_
  rintro m st H2 ⟨i, hi, rfl, rfl, hno, rfl⟩
  refine pwp_rif fun K hK => ?_
  by_cases hik : i < t.l.length
  · have hw : IntKind.i64.wrap ((i : Int) + 1) = ((i + 1 : Nat) : Int) := by rw [w64 (by omega) (by omega)]; rfl
    have hyes : failedAt t t.l[i] = true → idxOf (failedAt t) t.l = i := fun h => idxOf_some hik (fun j hj => hno j hj (by omega)) h
    have hno2 : failedAt t t.l[i] = false → ∀ j, (hj : j < i + 1) → (hj2 : j < t.l.length) → failedAt t t.l[j] = false := fun h j hj hj2 => by
      rcases Nat.lt_or_ge j i with h' | h'
      · exact hno j h' hj2
      · obtain rfl : j = i := by omega
        exact h
    generalize hkk : t.l[i] = k at *
    simp [runM_nil, tbV, hik]
    refine hK _ _ (ifT (by simp [runM_nil]) (pwp_skip (pwp_seq (pwp_block ?_))))
    rcases (show t.cap ≤ k.fl ∨ ¬ t.cap ≤ k.fl by omega) with h1 | h1
    · have h2 := hyes (by simp [failedAt, h1])
      refine pwp_difE hmix ?_
      intro K hK
      simp [runM_nil, hik, hkk, tkV, h1]
      refine hK _ _ (ifT (by simp [runM_nil, h1]) (pwp_sr fun K hK => ?_))
      simp [runM_nil]
      refine hK _ _ (pwp_ret ⟨.inr rfl, _, _, (by simp [runM_nil, resL]; rfl), .refl _, ?_, rfl⟩)
      rw [h2]
      have h3 : ¬ ((i : Int) < 0) := by omega
      simp [resV, h3]
    · have h2 := hno2 (by simp [failedAt, h1])
      refine pwp_difE hmix ?_
      intro K hK
      simp [runM_nil, hik, hkk, tkV, h1]
      refine hK _ _ (ifF (by simp [runM_nil, h1]) (pwp_skip (pwp_regionM fun K hK => ?_)))
      simp [runM_nil, hw]
      exact hK _ _ ⟨t.l.length - (i + 1), by omega, _, _, keep_up (l' := [(1, .ip 3 [tbV t] 0 0), (4, .int .i64 (i + 1 : Nat))]) (by simp [keepA, tbV]), List.Sublist.refl _, i + 1, by omega, rfl, rfl, h2, rfl⟩
  · have h2 : idxOf (failedAt t) t.l = -1 := idxOf_none fun x hx => by
      obtain ⟨j, hj, rfl⟩ := List.getElem_of_mem hx
      exact hno j (by omega) hj
    simp [runM_nil, tbV, hik]
    refine hK _ _ (ifF (by simp [runM_nil]) (pwp_exit (pwp_sr fun K hK => ?_)))
    simp [runM_nil]
    refine hK _ _ (pwp_ret ⟨.inr rfl, _, _, (by simp [runM_nil, resL]; rfl), .refl _, ?_, rfl⟩)
    rw [h2]
    simp [resV]
end Go.Proofs.Ytkjibelcaeanjaa.E
/- The document's Next and New, on plain values. -/
namespace Go.Proofs.Ytkjibelcaeanjaa.E
open Go Go.RowKit Go.Proofs
set_option linter.unusedVariables false
set_option linter.unusedSimpArgs false
theorem idle_cases {k : Tk} (hk : mayK k = true) :
    (¬ k.dn < 0 ∧ idle k = false) ∨ (k.dn < 0 ∧ (openIx k.tr).length ≠ 0 ∧ idle k = false) ∨ (k.dn < 0 ∧ openIx k.tr = [] ∧ ¬ k.tr.length < 500 ∧ idle k = false) ∨ (k.dn < 0 ∧ openIx k.tr = [] ∧ k.tr.length < 500 ∧ idle k = true) := by
  simp only [mayK, Bool.and_eq_true, inB, decide_eq_true_eq] at hk
  obtain ⟨_, hd, _, ho, _⟩ := hk
  by_cases h1 : k.dn < 0
  · have h2 : k.dn = -1 := by omega
    rcases openIx_shape k with ⟨ex, eo⟩ | ⟨x0, y0, ex, hx0, eo⟩ | ⟨x0, x1, y0, y1, ex, hx0, hx1, eo⟩ | ⟨hx3, ho3⟩
    · by_cases h3 : k.tr.length < 500
      · exact .inr (.inr (.inr ⟨h1, ex, h3, by simp [idle, h2, eo]; omega⟩))
      · exact .inr (.inr (.inl ⟨h1, ex, h3, by simp [idle, h2, eo]; omega⟩))
    · exact .inr (.inl ⟨h1, by rw [ex]; simp, by simp [idle, h2, eo]⟩)
    · exact .inr (.inl ⟨h1, by rw [ex]; simp, by simp [idle, h2, eo]⟩)
    · omega
  · have h2 : ¬ k.dn = -1 := by omega
    exact .inl ⟨h1, by simp [idle, h2]⟩
theorem slow_cases {k : Tk} (hk : mayK k = true) (w now tm : Int) :
    (¬ k.dn < 0 ∧ slow w now tm k = false) ∨ (k.dn < 0 ∧ (openIx k.tr).length ≠ 1 ∧ slow w now tm k = false) ∨
    (∃ (i : Nat) (hi : i < k.tr.length), k.dn < 0 ∧ openIx k.tr = [i] ∧ ¬ k.tr.length < 500 ∧ slow w now tm k = false) ∨
    (∃ (i : Nat) (hi : i < k.tr.length), k.dn < 0 ∧ openIx k.tr = [i] ∧ k.tr.length < 500 ∧ k.tr[i].w = w ∧ slow w now tm k = false) ∨
    (∃ (i : Nat) (hi : i < k.tr.length), k.dn < 0 ∧ openIx k.tr = [i] ∧ k.tr.length < 500 ∧ ¬ k.tr[i].w = w ∧ ¬ tm ≤ 2 * (now - k.tr[i].b) ∧ slow w now tm k = false) ∨
    (∃ (i : Nat) (hi : i < k.tr.length), k.dn < 0 ∧ openIx k.tr = [i] ∧ k.tr.length < 500 ∧ ¬ k.tr[i].w = w ∧ tm ≤ 2 * (now - k.tr[i].b) ∧ slow w now tm k = true) := by
  simp only [mayK, Bool.and_eq_true, inB, decide_eq_true_eq] at hk
  obtain ⟨_, hd, _, ho, _⟩ := hk
  by_cases h1 : k.dn < 0
  · have h2 : k.dn = -1 := by omega
    rcases openIx_shape k with ⟨ex, eo⟩ | ⟨x0, y0, ex, hx0, eo⟩ | ⟨x0, x1, y0, y1, ex, hx0, hx1, eo⟩ | ⟨hx3, ho3⟩
    · exact .inr (.inl ⟨h1, by rw [ex]; simp, by simp [slow, eo, slowTr]⟩)
    · obtain ⟨hl, hg⟩ := List.getElem?_eq_some_iff.1 hx0
      by_cases h3 : k.tr.length < 500
      · have h3' : (k.tr.length : Int) < 500 := by omega
        by_cases h4 : y0.w = w
        · exact .inr (.inr (.inr (.inl ⟨x0, hl, h1, ex, h3, by rw [hg]; exact h4, by simp [slow, eo, slowTr, h4]⟩)))
        · by_cases h5 : tm ≤ 2 * (now - y0.b)
          · exact .inr (.inr (.inr (.inr (.inr ⟨x0, hl, h1, ex, h3, by rw [hg]; exact h4, by rw [hg]; exact h5, by simp [slow, eo, slowTr, h4, h5, h2, h3']⟩))))
          · exact .inr (.inr (.inr (.inr (.inl ⟨x0, hl, h1, ex, h3, by rw [hg]; exact h4, by rw [hg]; exact h5, by simp [slow, eo, slowTr, h5]⟩))))
      · have h3' : ¬ (k.tr.length : Int) < 500 := by omega
        exact .inr (.inr (.inl ⟨x0, hl, h1, ex, h3, by simp [slow, h3']⟩))
    · exact .inr (.inl ⟨h1, by rw [ex]; simp, by simp [slow, eo, slowTr]⟩)
    · omega
  · have h2 : ¬ k.dn = -1 := by omega
    exact .inl ⟨h1, by simp [slow, h2]⟩
set_option maxRecDepth 8000 in
set_option maxHeartbeats 4000000 in
theorem refNext_ok (t : Tb) (worker now : Int) (hs : Small t) (hma : mayT t = true) (hn : 0 ≤ now ∧ now ≤ 1000000000) (hb : ∀ k ∈ t.l, ∀ x ∈ k.tr, 0 ≤ x.b ∧ x.b ≤ 1000000000) :
    PSpec Try.prog 43 [tbV t, .int .i64 worker, .int .i64 now] (.tup [.int .i64 (nextT t worker now).1, .bool (nextT t worker now).2]) := by
  intro H
  have hsl := hs.l
  refine spec_of t43 (by simp [p43]) ?_
  simp only [p43]
  refine pwp_sr fun K hK => ?_
  simp [runM_nil, tbV]
  refine hK _ _ (pwp_seq (pwp_sr fun K hK => ?_))
  simp [runM_nil]
  refine hK _ _ (pwp_block ?_)
  clear hK
  refine pwp_loopU [1, 2, 3, 8] (fun m st H' => ∃ i, i ≤ t.l.length ∧ m = t.l.length - i ∧ H' = H ∧ (∀ j, (hj : j < i) → (hj2 : j < t.l.length) → idle t.l[j] = false) ∧ st = MS 98 [(1, .int .i64 worker), (2, .int .i64 now), (3, .ip 3 [tbV t] 0 0), (8, .int .i64 i)]) (n := t.l.length)
    ⟨_, H, keep_up (l' := [(1, .int .i64 worker), (2, .int .i64 now), (3, .ip 3 [tbV t] 0 0), (8, .int .i64 0)]) (by simp [keepA, tbV]), List.Sublist.refl _, 0, Nat.zero_le _, rfl, rfl, fun j hj => absurd hj (Nat.not_lt_zero _), rfl⟩ ?_
  rintro m st H2 ⟨i, hi, rfl, rfl, hno, rfl⟩
  refine pwp_rif fun K hK => ?_
  by_cases hik : i < t.l.length
  · have hw : IntKind.i64.wrap ((i : Int) + 1) = ((i + 1 : Nat) : Int) := by rw [w64 (by omega) (by omega)]; rfl
    have hyes : idle t.l[i] = true → nextT t worker now = ((i : Int), true) := fun h => by
      have h1 := idxOf_some hik (fun j hj => hno j hj (by omega)) h
      unfold nextT
      rw [h1, if_pos (by omega)]
    have hno2 : idle t.l[i] = false → ∀ j, (hj : j < i + 1) → (hj2 : j < t.l.length) → idle t.l[j] = false := fun h j hj hj2 => by
      rcases Nat.lt_or_ge j i with h' | h'
      · exact hno j h' hj2
      · obtain rfl : j = i := by omega
        exact h
    have hmk := may_at hma hik
    have hks := hs.tr _ (List.getElem_mem hik)
    have hc := idle_cases hmk
    generalize hkk : t.l[i] = k at *
    have hop := refOpen_ok k hks
    simp only [tkV] at hop
    simp [runM_nil, tbV, hik]
    refine hK _ _ (ifT (by simp [runM_nil]) (pwp_skip (pwp_seq (pwp_block (pwp_sr fun K hK => ?_)))))
    simp [runM_nil, hik, hkk, tkV]
    intro b9 h9
    refine hK _ _ ?_
    refine pwp_kept (keep := [1, 2, 3, 8, 9]) (l' := [(1, .int .i64 worker), (2, .int .i64 now), (3, .ip 3 [tbV t] 0 0), (8, .int .i64 i), (9, .ptr (some (b9, 0)))]) (by simp [keepA, getS, tbV]) ?_
    refine pwp_rifE fun K hK => ?_
    have next : ∀ st', argT st' (.t 39) = .bool false → keepL [1, 2, 3, 8] 0 st' = MS 98 [(1, .int .i64 worker), (2, .int .i64 now), (3, .ip 3 [tbV t] 0 0), (8, .int .i64 i)] → idle k = false → K st' ((b9, [.lst 3 (k.tr.map trV) false, .int .i64 k.dn, .int .i64 k.fl]) :: H2) := by
      intro st' e1 e2 e3
      refine hK _ _ (ifF e1 (pwp_skip (pwp_keep [1, 2, 3, 8] ?_)))
      rw [e2]
      refine pwp_regionM fun K hK => ?_
      simp [runM_nil, hw]
      exact hK _ _ ⟨t.l.length - (i + 1), by omega, _, _, keep_up (l' := [(1, .int .i64 worker), (2, .int .i64 now), (3, .ip 3 [tbV t] 0 0), (8, .int .i64 (i + 1 : Nat))]) (by simp [keepA, tbV]), .cons _ (.refl _), i + 1, by omega, rfl, rfl, hno2 e3, rfl⟩
    rcases hc with ⟨h1, h2⟩ | ⟨h1, h3, h2⟩ | ⟨h1, h3, h4, h2⟩ | ⟨h1, h3, h4, h2⟩
    · simp [runM_nil, h1]
      exact next _ (by simp [runM_nil]) (by simp [keepL_MS, keepA, getS, tbV]) h2
    · have h5 : ¬ natsV (openIx k.tr) = [] := by
        intro e
        simp only [natsV, List.map_eq_nil_iff] at e
        exact h3 (by rw [e]; rfl)
      simp [runM_nil, h1]
      refine useP hop ?_
      simp [runM_nil, h5]
      exact next _ (by simp [runM_nil]) (by simp [keepL_MS, keepA, getS, tbV]) h2
    · have h5 : ¬ ((k.tr.length : Int) < 500) := by omega
      rw [h3] at hop
      simp [runM_nil, h1]
      refine useP hop ?_
      simp [runM_nil, natsV, h5]
      exact next _ (by simp [runM_nil]) (by simp [keepL_MS, keepA, getS, tbV]) h2
    · have h5 : (k.tr.length : Int) < 500 := by omega
      rw [h3] at hop
      simp [runM_nil, h1]
      refine useP hop ?_
      simp [runM_nil, natsV, h5]
      refine hK _ _ (ifT (by simp [runM_nil]) (pwp_sr fun K hK => ?_))
      simp [runM_nil]
      refine hK _ _ (pwp_ret ⟨.inr rfl, _, _, (by simp [runM_nil, resL]; rfl), .cons _ (.refl _), by rw [hyes h2]; simp [resV], rfl⟩)
  · have hni : idxOf idle t.l = -1 := idxOf_none fun x hx => by
      obtain ⟨j, hj, rfl⟩ := List.getElem_of_mem hx
      exact hno j (by omega) hj
    clear hno
    simp [runM_nil, tbV, hik]
    refine hK _ _ (ifF (by simp [runM_nil]) (pwp_exit (pwp_seq (pwp_sr fun K hK => ?_))))
    simp [runM_nil]
    refine hK _ _ (pwp_block ?_)
    clear hK hik
    refine pwp_loopU [1, 2, 3, 10] (fun m st H' => ∃ i, i ≤ t.l.length ∧ m = t.l.length - i ∧ H' = H2 ∧ (∀ j, (hj : j < i) → (hj2 : j < t.l.length) → slow worker now t.tm t.l[j] = false) ∧ st = MS 98 [(1, .int .i64 worker), (2, .int .i64 now), (3, .ip 3 [tbV t] 0 0), (10, .int .i64 i)]) (n := t.l.length)
      ⟨_, H2, keep_up (l' := [(1, .int .i64 worker), (2, .int .i64 now), (3, .ip 3 [tbV t] 0 0), (10, .int .i64 0)]) (by simp [keepA, tbV]), List.Sublist.refl _, 0, Nat.zero_le _, rfl, rfl, fun j hj => absurd hj (Nat.not_lt_zero _), rfl⟩ ?_
    rintro m st H3 ⟨i, hi, rfl, rfl, hno, rfl⟩
    refine pwp_rif fun K hK => ?_
    by_cases hik : i < t.l.length
    · have hw : IntKind.i64.wrap ((i : Int) + 1) = ((i + 1 : Nat) : Int) := by rw [w64 (by omega) (by omega)]; rfl
      have hyes : slow worker now t.tm t.l[i] = true → nextT t worker now = ((i : Int), true) := fun h => by
        have h1 := idxOf_some hik (fun j hj => hno j hj (by omega)) h
        unfold nextT
        rw [hni, h1, if_neg (by omega), if_pos (by omega)]
      have hno2 : slow worker now t.tm t.l[i] = false → ∀ j, (hj : j < i + 1) → (hj2 : j < t.l.length) → slow worker now t.tm t.l[j] = false := fun h j hj hj2 => by
        rcases Nat.lt_or_ge j i with h' | h'
        · exact hno j h' hj2
        · obtain rfl : j = i := by omega
          exact h
      have hmk := may_at hma hik
      have hks := hs.tr _ (List.getElem_mem hik)
      have hbk := hb _ (List.getElem_mem hik)
      have hc := slow_cases hmk worker now t.tm
      generalize hkk : t.l[i] = k at *
      have hop := refOpen_ok k hks
      simp only [tkV] at hop
      simp [runM_nil, tbV, hik]
      refine hK _ _ (ifT (by simp [runM_nil]) (pwp_skip (pwp_seq (pwp_block (pwp_sr fun K hK => ?_)))))
      simp [runM_nil, hik, hkk, tkV]
      intro b11 h11
      refine hK _ _ (pwp_sr fun K hK => ?_)
      simp [runM_nil]
      refine useP hop ?_
      simp [runM_nil]
      refine hK _ _ ?_
      refine pwp_kept (keep := [1, 2, 3, 10, 11, 12]) (l' := [(1, .int .i64 worker), (2, .int .i64 now), (3, .ip 3 [tbV t] 0 0), (10, .int .i64 i), (11, .ptr (some (b11, 0))), (12, .lst 1 (natsV (openIx k.tr)) true)]) (by simp [keepA, getS, tbV]) ?_
      refine pwp_difE hmix ?_
      intro K hK
      have next : ∀ st', argT st' (.t 96) = .bool false → keepL [1, 2, 3, 10] 0 st' = MS 98 [(1, .int .i64 worker), (2, .int .i64 now), (3, .ip 3 [tbV t] 0 0), (10, .int .i64 i)] → slow worker now t.tm k = false → K st' ((b11, [.lst 3 (k.tr.map trV) false, .int .i64 k.dn, .int .i64 k.fl]) :: H3) := by
        intro st' e1 e2 e3
        refine hK _ _ (ifF e1 (pwp_skip (pwp_keep [1, 2, 3, 10] ?_)))
        rw [e2]
        refine pwp_regionM fun K hK => ?_
        simp [runM_nil, hw]
        exact hK _ _ ⟨t.l.length - (i + 1), by omega, _, _, keep_up (l' := [(1, .int .i64 worker), (2, .int .i64 now), (3, .ip 3 [tbV t] 0 0), (10, .int .i64 (i + 1 : Nat))]) (by simp [keepA, tbV]), .cons _ (.refl _), i + 1, by omega, rfl, rfl, hno2 e3, rfl⟩
      rcases hc with ⟨h1, h2⟩ | ⟨h1, h3, h2⟩ | ⟨j, hj, h1, h3, h4, h2⟩ | ⟨j, hj, h1, h3, h4, h5, h2⟩ | ⟨j, hj, h1, h3, h4, h5, h6, h2⟩ | ⟨j, hj, h1, h3, h4, h5, h6, h2⟩
      · simp [runM_nil, h1]
        exact next _ (by simp [runM_nil]) (by simp [keepL_MS, keepA, getS, tbV]) h2
      · have h5 : ¬ ((natsV (openIx k.tr)).length : Int) = 1 := by simp only [natsV, List.length_map]; omega
        have h6 : ¬ (natsV (openIx k.tr)).length = 1 := by omega
        simp [runM_nil, h1, h5, h6]
        exact next _ (by simp [runM_nil]) (by simp [keepL_MS, keepA, getS, tbV]) h2
      · have h5 : ¬ ((k.tr.length : Int) < 500) := by omega
        rw [h3]
        simp [runM_nil, h1, natsV, h5]
        exact next _ (by simp [runM_nil]) (by simp [keepL_MS, keepA, getS, tbV]) h2
      · have h6 : (k.tr.length : Int) < 500 := by omega
        rw [h3]
        simp [runM_nil, h1, natsV, h6, hj, trV, h5]
        exact next _ (by simp [runM_nil]) (by simp [keepL_MS, keepA, getS, tbV]) h2
      · have h7 : (k.tr.length : Int) < 500 := by omega
        have hbj := hbk _ (List.getElem_mem hj)
        generalize hxx : k.tr[j] = x at *
        have w1 : IntKind.i64.wrap (now - x.b) = now - x.b := w64 (by omega) (by omega)
        have w2 : IntKind.i64.wrap (2 * (now - x.b)) = 2 * (now - x.b) := w64 (by omega) (by omega)
        rw [h3]
        simp [runM_nil, tbV, h1, natsV, h7, hj, hxx, trV, h5, w1, w2, h6]
        exact next _ (by simp [runM_nil]) (by simp [keepL_MS, keepA, getS, tbV]) h2
      · have h7 : (k.tr.length : Int) < 500 := by omega
        have hbj := hbk _ (List.getElem_mem hj)
        generalize hxx : k.tr[j] = x at *
        have w1 : IntKind.i64.wrap (now - x.b) = now - x.b := w64 (by omega) (by omega)
        have w2 : IntKind.i64.wrap (2 * (now - x.b)) = 2 * (now - x.b) := w64 (by omega) (by omega)
        rw [h3]
        simp [runM_nil, tbV, h1, natsV, h7, hj, hxx, trV, h5, w1, w2, h6]
        refine hK _ _ (ifT (by simp [runM_nil]) (pwp_sr fun K hK => ?_))
        simp [runM_nil]
        refine hK _ _ (pwp_ret ⟨.inr rfl, _, _, (by simp [runM_nil, resL]; rfl), .cons _ (.refl _), by rw [hyes h2]; simp [resV], rfl⟩)
    · have hns : idxOf (slow worker now t.tm) t.l = -1 := idxOf_none fun x hx => by
        obtain ⟨j, hj, rfl⟩ := List.getElem_of_mem hx
        exact hno j (by omega) hj
      have hnx : nextT t worker now = (0, false) := by
        unfold nextT
        rw [hni, hns]
        simp
      simp [runM_nil, tbV, hik]
      refine hK _ _ (ifF (by simp [runM_nil]) (pwp_exit (pwp_sr fun K hK => ?_)))
      simp [runM_nil]
      refine hK _ _ (pwp_ret ⟨.inr rfl, _, _, (by simp [runM_nil, resL]; rfl), .refl _, by rw [hnx]; simp [resV], rfl⟩)
end Go.Proofs.Ytkjibelcaeanjaa.E
/- The document's New, on plain values. -/
namespace Go.Proofs.Ytkjibelcaeanjaa.E
open Go Go.RowKit Go.Proofs
set_option linter.unusedVariables false
set_option linter.unusedSimpArgs false
def nt0 : PV := .agg [.lst 0 [] false, .int .i64 (-1), .int .i64 0]
theorem nt0_up : ∀ n : Nat, UpL false (List.replicate n nt0) ((List.replicate n (⟨[], -1, 0⟩ : Tk)).map tkV)
  | 0 => rfl
  | n + 1 => ⟨_, _, rfl, by simp [nt0, keepA, tkV], nt0_up n⟩
theorem new_cases (n most tm : Int) : (n < 0 ∧ newT n most tm = (⟨0, 0, []⟩, 1)) ∨ (¬ n < 0 ∧ 200 < n ∧ newT n most tm = (⟨0, 0, []⟩, 1)) ∨ (¬ n < 0 ∧ ¬ 200 < n ∧ most < 1 ∧ newT n most tm = (⟨0, 0, []⟩, 1)) ∨
    (¬ n < 0 ∧ ¬ 200 < n ∧ ¬ most < 1 ∧ 10 < most ∧ newT n most tm = (⟨0, 0, []⟩, 1)) ∨ (¬ n < 0 ∧ ¬ 200 < n ∧ ¬ most < 1 ∧ ¬ 10 < most ∧ tm < 1 ∧ newT n most tm = (⟨0, 0, []⟩, 1)) ∨
    (¬ n < 0 ∧ ¬ 200 < n ∧ ¬ most < 1 ∧ ¬ 10 < most ∧ ¬ tm < 1 ∧ 1000 < tm ∧ newT n most tm = (⟨0, 0, []⟩, 1)) ∨
    (¬ n < 0 ∧ ¬ 200 < n ∧ ¬ most < 1 ∧ ¬ 10 < most ∧ ¬ tm < 1 ∧ ¬ 1000 < tm ∧ newT n most tm = (⟨most, tm, List.replicate n.toNat ⟨[], -1, 0⟩⟩, 0)) := by
  unfold newT
  simp only [inB, decide_eq_true_eq]
  by_cases h : (0 ≤ n ∧ n ≤ 200) ∧ (1 ≤ most ∧ most ≤ 10) ∧ 1 ≤ tm ∧ tm ≤ 1000
  · rw [if_pos h]
    simp only [and_true]
    omega
  · rw [if_neg h]
    simp only [and_true]
    omega
set_option maxRecDepth 4000 in
theorem refNew_ok (n most timeout : Int) : PSpec Try.prog 16 [.int .i64 n, .int .i64 most, .int .i64 timeout] (.tup [tbV (newT n most timeout).1, .int .i64 (newT n most timeout).2]) := by
  intro H
  refine spec_ofU t16n (by simp [p16n]) ?_
  simp only [p16n]
  refine pwp_sr fun K hK => ?_
  simp [runM_nil]
  intro b6 h6
  refine hK _ _ (pwp_rif fun K hK => ?_)
  have no : ∀ st', argT st' (.t 31) = .bool true → keepL [6] 0 st' = MS 48 [(6, .ptr (some (b6, 0)))] → (newT n most timeout) = (⟨0, 0, []⟩, 1) →
      K st' ((b6, [.int .i64 0, .int .i64 0, .lst 0 [] true]) :: H) := by
    intro st' e1 e2 hd
    refine hK _ _ (ifT e1 (pwp_keep [6] ?_))
    rw [e2]
    refine pwp_sr fun K hK => ?_
    simp [runM_nil]
    refine hK _ _ (pwp_retT ⟨.inr rfl, _, _, _, (by simp [runM_nil, resL]; rfl), .cons _ (.refl _), ?_, rfl, rfl⟩)
    simp [keepA, resV, hd, tbV]
  rcases new_cases n most timeout with ⟨h1, e⟩ | ⟨h1, h2, e⟩ | ⟨h1, h2, h3, e⟩ | ⟨h1, h2, h3, h4, e⟩ | ⟨h1, h2, h3, h4, h5, e⟩ | ⟨h1, h2, h3, h4, h5, h6, e⟩ | ⟨h1, h2, h3, h4, h5, h6, e⟩
  · simp [runM_nil, h1]
    exact no _ (by simp [runM_nil]) (by simp [keepL_MS, keepA, getS]) e
  · simp [runM_nil, h1, h2]
    exact no _ (by simp [runM_nil]) (by simp [keepL_MS, keepA, getS]) e
  · simp [runM_nil, h1, h2, h3]
    exact no _ (by simp [runM_nil]) (by simp [keepL_MS, keepA, getS]) e
  · simp [runM_nil, h1, h2, h3, h4]
    exact no _ (by simp [runM_nil]) (by simp [keepL_MS, keepA, getS]) e
  · simp [runM_nil, h1, h2, h3, h4, h5]
    exact no _ (by simp [runM_nil]) (by simp [keepL_MS, keepA, getS]) e
  · simp [runM_nil, h1, h2, h3, h4, h5, h6]
    exact no _ (by simp [runM_nil]) (by simp [keepL_MS, keepA, getS]) e
  clear no
  simp [runM_nil, h1, h2, h3, h4, h5, h6]
  refine hK _ _ (ifF (by simp [runM_nil]) (pwp_skip (pwp_sr fun K hK => ?_)))
  simp [runM_nil]
  intro b8 h8
  obtain ⟨n68, h8⟩ := hget_cons_none.1 h8
  refine hK _ _ (pwp_seq (pwp_sr fun K hK => ?_))
  obtain ⟨m, rfl⟩ : ∃ m : Nat, n = m := ⟨n.toNat, by omega⟩
  simp [runM_nil]
  refine hK _ _ (pwp_block ?_)
  clear hK
  refine pwp_loopV [0, 6, 8, 9] (fun q st H' => ∃ i, i ≤ m ∧ q = m - i ∧ H' = (b8, [.int .i64 most, .int .i64 timeout, .lst 3 (List.replicate i nt0) true]) :: (b6, [.int .i64 0, .int .i64 0, .lst 0 [] true]) :: H ∧
      st = MS 48 [(0, .int .i64 m), (6, .ptr (some (b6, 0))), (8, .ptr (some (b8, 0))), (9, .int .i64 i)]) (n := m)
    ⟨_, _, _, keep_up (l' := [(0, .int .i64 m), (6, .ptr (some (b6, 0))), (8, .ptr (some (b8, 0))), (9, .int .i64 0)]) (by simp [keepA]), List.Sublist.refl _, ?_, 0, Nat.zero_le _, rfl, rfl, rfl⟩ ?_
  · simp [HUp, HUp_refl, keepA]
  rintro q st H2 ⟨i, hi, rfl, rfl, rfl⟩
  by_cases hik : i < m
  · have hw : IntKind.i64.wrap ((i : Int) + 1) = ((i + 1 : Nat) : Int) := by rw [w64 (by omega) (by omega)]; rfl
    have hacc : List.replicate (i + 1) nt0 = List.replicate i nt0 ++ [nt0] := List.replicate_succ' ..
    have hal : (List.replicate i nt0).length = i := List.length_replicate
    generalize List.replicate i nt0 = acc at *
    have hby : (acc.length + 1) * 40 ≤ 140737488355328 := by omega
    refine pwp_rif fun K hK => ?_
    simp [runM_nil, hik]
    refine hK _ _ (ifT (by simp [runM_nil]) (pwp_skip (pwp_seq (pwp_block (pwp_regionM fun K hK => ?_)))))
    simp [runM_nil, n68, Ne.symm n68, hby]
    refine hK _ _ (pwp_regionM fun K hK => ?_)
    simp [runM_nil, hw]
    refine hK _ _ ⟨m - (i + 1), by omega, _, _, _, keep_up (l' := [(0, .int .i64 m), (6, .ptr (some (b6, 0))), (8, .ptr (some (b8, 0))), (9, .int .i64 (i + 1 : Nat))]) (by simp [keepA]), List.Sublist.refl _, HUp_refl _, i + 1, by omega, rfl, ?_, rfl⟩
    rw [hacc]
    rfl
  · have hil : i = m := by omega
    subst hil
    generalize hrr : List.replicate i nt0 = rr at *
    refine pwp_rif fun K hK => ?_
    simp [runM_nil]
    refine hK _ _ (ifF (by simp [runM_nil]) (pwp_exit (pwp_sr fun K hK => ?_)))
    simp [runM_nil, n68, Ne.symm n68]
    refine hK _ _ (pwp_ret ⟨.inr rfl, _, _, _, (by simp [runM_nil, resL, n68, Ne.symm n68]; rfl), .cons _ (.cons _ (.refl _)), ?_, rfl, rfl⟩)
    rw [e]
    have hup := nt0_up i
    rw [hrr] at hup
    simp only [List.map_replicate] at hup
    simp [keepA, resV, tbV, hup]
end Go.Proofs.Ytkjibelcaeanjaa.E
/- The document's Same of a table with itself, on plain values. -/
namespace Go.Proofs.Ytkjibelcaeanjaa.E
open Go Go.RowKit Go.Proofs
set_option linter.unusedVariables false
set_option linter.unusedSimpArgs false
set_option maxRecDepth 8000 in
set_option maxHeartbeats 2000000 in
theorem refSame_ok (t : Tb) (hs : Small t) : PSpec Try.prog 17 [tbV t, tbV t] (.bool true) := by
  intro H
  have hsl := hs.l
  refine spec_of t17 (by simp [p17]) ?_
  simp only [p17]
  refine pwp_sr fun K hK => ?_
  simp [runM_nil, tbV]
  refine hK _ _ (pwp_rif fun K hK => ?_)
  simp [runM_nil]
  refine hK _ _ (ifF (by simp [runM_nil]) (pwp_skip ?_))
  refine pwp_seq (pwp_sr fun K hK => ?_)
  simp [runM_nil]
  refine hK _ _ (pwp_block ?_)
  clear hK
  refine pwp_loopU [2, 3, 5] (fun m st H' => ∃ i, i ≤ t.l.length ∧ m = t.l.length - i ∧ H' = H ∧ st = MS 86 [(2, .ip 3 [tbV t] 0 0), (3, .ip 3 [tbV t] 0 0), (5, .int .i64 i)]) (n := t.l.length)
    ⟨_, H, keep_up (l' := [(2, .ip 3 [tbV t] 0 0), (3, .ip 3 [tbV t] 0 0), (5, .int .i64 0)]) (by simp [keepA, tbV]), List.Sublist.refl _, 0, Nat.zero_le _, rfl, rfl, rfl⟩ ?_
  rintro m st H2 ⟨i, hi, rfl, rfl, rfl⟩
  refine pwp_rif fun K hK => ?_
  by_cases hik : i < t.l.length
  · have hw : IntKind.i64.wrap ((i : Int) + 1) = ((i + 1 : Nat) : Int) := by rw [w64 (by omega) (by omega)]; rfl
    have hks := hs.tr _ (List.getElem_mem hik)
    generalize hkk : t.l[i] = k at *
    simp [runM_nil, tbV, hik]
    refine hK _ _ (ifT (by simp [runM_nil]) (pwp_skip (pwp_seq (pwp_block (pwp_sn hmix (by simp [MS_length]) fun K hK => ?_)))))
    simp [runM_nil, planS_nil, hik, hkk, tkV]
    intro b6 h6 b7 h7
    obtain ⟨n67, h7⟩ := ite_none h7
    refine hK _ _ (pwp_rif fun K hK => ?_)
    simp [runM_nil, n67, Ne.symm n67]
    refine hK _ _ (ifF (by simp [runM_nil]) (pwp_skip ?_))
    refine pwp_sr fun K hK => ?_
    simp [runM_nil]
    refine hK _ _ (pwp_block ?_)
    clear hK
    refine pwp_loopU [2, 3, 5, 6, 7, 8] (fun m st H' => ∃ j, j ≤ k.tr.length ∧ m = k.tr.length - j ∧ H' = (b7, [.lst 3 (k.tr.map trV) false, .int .i64 k.dn, .int .i64 k.fl]) :: (b6, [.lst 3 (k.tr.map trV) false, .int .i64 k.dn, .int .i64 k.fl]) :: H2 ∧
        st = MS 86 [(2, .ip 3 [tbV t] 0 0), (3, .ip 3 [tbV t] 0 0), (5, .int .i64 i), (6, .ptr (some (b6, 0))), (7, .ptr (some (b7, 0))), (8, .int .i64 j)]) (n := k.tr.length)
      ⟨_, _, keep_up (l' := [(2, .ip 3 [tbV t] 0 0), (3, .ip 3 [tbV t] 0 0), (5, .int .i64 i), (6, .ptr (some (b6, 0))), (7, .ptr (some (b7, 0))), (8, .int .i64 0)]) (by simp [keepA, tbV]), List.Sublist.refl _, 0, Nat.zero_le _, rfl, rfl, rfl⟩ ?_
    rintro m st H3 ⟨j, hj, rfl, rfl, rfl⟩
    refine pwp_rif fun K hK => ?_
    by_cases hjk : j < k.tr.length
    · have hw2 : IntKind.i64.wrap ((j : Int) + 1) = ((j + 1 : Nat) : Int) := by rw [w64 (by omega) (by omega)]; rfl
      generalize hxx : k.tr[j] = x at *
      simp [runM_nil, n67, Ne.symm n67, hjk]
      refine hK _ _ (ifT (by simp [runM_nil]) (pwp_skip ?_))
      refine pwp_seq (pwp_block ?_)
      refine pwp_difE hmix ?_
      intro K hK
      simp [runM_nil, n67, Ne.symm n67, hjk, hxx, trV]
      refine hK _ _ (ifF (by simp [runM_nil]) (pwp_skip (pwp_regionM fun K hK => ?_)))
      simp [runM_nil, hw2]
      exact hK _ _ ⟨k.tr.length - (j + 1), by omega, _, _, keep_up (l' := [(2, .ip 3 [tbV t] 0 0), (3, .ip 3 [tbV t] 0 0), (5, .int .i64 i), (6, .ptr (some (b6, 0))), (7, .ptr (some (b7, 0))), (8, .int .i64 (j + 1 : Nat))]) (by simp [keepA, tbV]), List.Sublist.refl _, j + 1, by omega, rfl, rfl, rfl⟩
    · simp [runM_nil, n67, Ne.symm n67, hjk]
      refine hK _ _ (ifF (by simp [runM_nil]) (pwp_exit (pwp_regionM fun K hK => ?_)))
      simp [runM_nil, hw]
      exact hK _ _ ⟨t.l.length - (i + 1), by omega, _, H2, keep_up (l' := [(2, .ip 3 [tbV t] 0 0), (3, .ip 3 [tbV t] 0 0), (5, .int .i64 (i + 1 : Nat))]) (by simp [keepA, tbV]), .cons _ (.cons _ (.refl _)), i + 1, by omega, rfl, rfl, rfl⟩
  · simp [runM_nil, tbV, hik]
    refine hK _ _ (ifF (by simp [runM_nil]) (pwp_exit (pwp_sr fun K hK => ?_)))
    simp [runM_nil]
    refine hK _ _ (pwp_ret ⟨.inr rfl, _, _, (by simp [runM_nil, resL]; rfl), .refl _, by simp [resV], rfl⟩)
end Go.Proofs.Ytkjibelcaeanjaa.E
/- What Expire does, in plain terms. -/
namespace Go.Proofs.Ytkjibelcaeanjaa.E
open Go Go.RowKit Go.Proofs
set_option linter.unusedVariables false
set_option linter.unusedSimpArgs false
/-- Too long without a word. -/
def lateX (tm now : Int) (x : Tr) : Bool := x.o && decide (tm ≤ now - x.b)
def expX (tm now : Int) (x : Tr) : Tr := if lateX tm now x = true then shut x else x
def expK (tm now : Int) (k : Tk) : Tk := ⟨k.tr.map (expX tm now), k.dn, k.fl⟩
def expN (tm now : Int) (k : Tk) : Nat := (k.tr.filter (lateX tm now)).length
def expT (t : Tb) (now : Int) : Tb := ⟨t.cap, t.tm, t.l.map (expK t.tm now)⟩
def expC (t : Tb) (now : Int) : Nat := (t.l.map (expN t.tm now)).sum
/-- One open attempt is closed, if it is late. -/
def stepX (tm now : Int) (l : List Tr) (o : Nat) : List Tr := match l[o]? with
  | some x => if tm ≤ now - x.b then l.set o (shut x) else l
  | none => l
theorem stepX_len (tm now : Int) (l : List Tr) (o : Nat) : (stepX tm now l o).length = l.length := by
  unfold stepX
  split
  · split <;> simp
  · rfl
theorem foldX_len (tm now : Int) : ∀ (ixs : List Nat) (l : List Tr), (ixs.foldl (stepX tm now) l).length = l.length
  | [], l => rfl
  | o :: ixs, l => by rw [List.foldl_cons, foldX_len tm now ixs, stepX_len]
theorem stepX_get (tm now : Int) (l : List Tr) (o p : Nat) : (stepX tm now l o)[p]? = (l[p]?).map (fun x => if p = o ∧ tm ≤ now - x.b then shut x else x) := by
  unfold stepX
  cases ho : l[o]? with
  | none =>
    by_cases hp : p = o
    · subst hp; rw [ho]; rfl
    · simp [hp]
  | some x =>
    have hol : o < l.length := (List.getElem?_eq_some_iff.1 ho).1
    by_cases hp : p = o
    · subst hp
      have hgx : l[p] = x := (List.getElem?_eq_some_iff.1 ho).2
      rw [ho]
      by_cases hx : tm ≤ now - x.b <;> simp [hx, hol, hgx]
    · have hp2 : ¬ o = p := fun e => hp e.symm
      by_cases hx : tm ≤ now - x.b <;> simp [hx, hp, List.getElem?_set, hp2]
theorem foldX_get (tm now : Int) : ∀ (ixs : List Nat) (l : List Tr) (p : Nat), ixs.Nodup → (ixs.foldl (stepX tm now) l)[p]? = (l[p]?).map (fun x => if p ∈ ixs ∧ tm ≤ now - x.b then shut x else x)
  | [], l, p, _ => by simp
  | o :: ixs, l, p, hn => by
    rw [List.foldl_cons, foldX_get tm now ixs _ p (List.nodup_cons.1 hn).2, stepX_get, Option.map_map]
    congr 1
    funext x
    have hno := (List.nodup_cons.1 hn).1
    by_cases hp : p = o
    · subst hp
      simp [hno]
    · simp [hp]
theorem openIx_nodup (l : List Tr) : (openIx l).Nodup := List.Pairwise.filter _ List.nodup_range
theorem foldX_all (tm now : Int) (l : List Tr) : (openIx l).foldl (stepX tm now) l = l.map (expX tm now) := by
  apply List.ext_getElem?
  intro p
  rw [foldX_get tm now _ l p (openIx_nodup l), List.getElem?_map]
  cases hp : l[p]? with
  | none => rfl
  | some x =>
    have hpl : p < l.length := (List.getElem?_eq_some_iff.1 hp).1
    have hgx : l[p] = x := (List.getElem?_eq_some_iff.1 hp).2
    have hm : p ∈ openIx l ↔ x.o = true := by simp [openIx, isO, hpl, hgx]
    simp only [Option.map_some, hm, expX, lateX, Bool.and_eq_true, decide_eq_true_eq]
/-- How many of these places are late. -/
def lateAt (tm now : Int) (l : List Tr) (o : Nat) : Bool := match l[o]? with
  | some x => decide (tm ≤ now - x.b)
  | none => false
theorem lateAt_count (tm now : Int) (l : List Tr) : ∀ i, i ≤ l.length → (((List.range i).filter (isO l)).filter (lateAt tm now l)).length = ((l.take i).filter (lateX tm now)).length
  | 0, _ => by simp
  | i + 1, h => by
    have hi : i < l.length := by omega
    have hg : l[i]? = some l[i] := List.getElem?_eq_getElem hi
    rw [range_filter_succ, List.filter_append, List.length_append, lateAt_count tm now l i (by omega), take_filter_succ _ _ _ hi, List.length_append]
    congr 1
    have ho : isO l i = l[i].o := by simp [isO, hg]
    have hl : lateAt tm now l i = decide (tm ≤ now - l[i].b) := by simp [lateAt, hg]
    rw [ho]
    generalize l[i] = y at *
    cases ho2 : y.o <;> by_cases hx : tm ≤ now - y.b <;> simp [lateX, hl, hx, ho2, List.filter_cons]
theorem lateAt_all (tm now : Int) (k : Tk) : ((openIx k.tr).filter (lateAt tm now k.tr)).length = expN tm now k := by
  have := lateAt_count tm now k.tr k.tr.length (Nat.le_refl _)
  rwa [List.take_length] at this
end Go.Proofs.Ytkjibelcaeanjaa.E
/- The document's Expire, on plain values. -/
namespace Go.Proofs.Ytkjibelcaeanjaa.E
open Go Go.RowKit Go.Proofs
set_option linter.unusedVariables false
set_option linter.unusedSimpArgs false
theorem sum_le {α : Type} (f : α → Nat) (B : Nat) : ∀ l : List α, (∀ k ∈ l, f k ≤ B) → (l.map f).sum ≤ l.length * B
  | [], _ => by simp
  | k :: l, h => by
    have h1 := h k (List.mem_cons_self ..)
    have h2 := sum_le f B l fun x hx => h x (List.mem_cons_of_mem _ hx)
    simp only [List.map_cons, List.sum_cons, List.length_cons, Nat.succ_mul]
    omega
theorem sum_take_succ {α : Type} (f : α → Nat) (l : List α) (i : Nat) (hi : i < l.length) : ((l.take (i + 1)).map f).sum = ((l.take i).map f).sum + f l[i] := by
  rw [List.take_succ_eq_append_getElem hi, List.map_append, List.sum_append]
  simp
/-- A table of which the first ones are gone through. -/
def upToL (f : Tk → Tk) (l : List Tk) (i : Nat) : List Tk := (l.take i).map f ++ l.drop i
theorem upToL_len (f : Tk → Tk) (l : List Tk) (i : Nat) : (upToL f l i).length = l.length := by
  simp only [upToL, List.length_append, List.length_map, List.length_take, List.length_drop]
  omega
theorem upToL_at (f : Tk → Tk) (l : List Tk) (i : Nat) (hi : i < l.length) : (upToL f l i)[i]'(by rw [upToL_len]; exact hi) = l[i] := by
  simp only [upToL]
  rw [List.getElem_append_right (by simp; omega)]
  simp [Nat.min_eq_left (Nat.le_of_lt hi)]
theorem upToL_set (f : Tk → Tk) (l : List Tk) (i : Nat) (hi : i < l.length) : (upToL f l i).set i (f l[i]) = upToL f l (i + 1) := by
  have h1 : ((l.take i).map f).length = i := by rw [List.length_map, List.length_take]; omega
  have h2 : (l.take (i + 1)).map f = (l.take i).map f ++ [f l[i]] := by rw [List.take_succ_eq_append_getElem hi, List.map_append]; rfl
  simp only [upToL]
  rw [List.set_append_right _ _ (by omega), h1, Nat.sub_self, List.drop_eq_getElem_cons hi, h2]
  simp only [List.set_cons_zero, List.append_assoc, List.singleton_append]
theorem upToL_all (f : Tk → Tk) (l : List Tk) : upToL f l l.length = l.map f := by simp [upToL]
theorem upToL_zero (f : Tk → Tk) (l : List Tk) : upToL f l 0 = l := by simp [upToL]
theorem upToL_small {f : Tk → Tk} {t : Tb} (hs : Small t) (hf : ∀ k, (f k).tr.length = k.tr.length) (i : Nat) : Small ⟨t.cap, t.tm, upToL f t.l i⟩ := by
  refine ⟨by rw [upToL_len]; exact hs.l, fun k hk => ?_⟩
  rcases List.mem_append.1 hk with hk | hk
  · obtain ⟨y, hy, rfl⟩ := List.mem_map.1 hk
    rw [hf]
    exact hs.tr _ (List.mem_of_mem_take hy)
  · exact hs.tr _ (List.mem_of_mem_drop hk)
set_option maxRecDepth 8000 in
set_option maxHeartbeats 4000000 in
theorem refExpire_ok (t : Tb) (now : Int) (hs : Small t) (hn : 0 ≤ now ∧ now ≤ 1000000000) (hb : ∀ k ∈ t.l, ∀ x ∈ k.tr, 0 ≤ x.b ∧ x.b ≤ 1000000000) :
    PSpec Try.prog 49 [tbV t, .int .i64 now] (.tup [tbV (expT t now), .int .i64 (expC t now : Nat)]) := by
  intro H
  have hsl := hs.l
  have hf : ∀ k, (expK t.tm now k).tr.length = k.tr.length := fun k => by simp [expK]
  refine spec_of t49 (by simp [p49]) ?_
  simp only [p49]
  refine pwp_sr fun K hK => ?_
  simp [runM_nil, tbV]
  intro b2 h2 b4 h4
  obtain ⟨n24, h4⟩ := ite_none h4
  refine hK _ _ (pwp_sr fun K hK => ?_)
  simp [runM_nil]
  refine hK _ _ (pwp_seq (pwp_sr fun K hK => ?_))
  simp [runM_nil]
  refine hK _ _ (pwp_block ?_)
  clear hK
  refine pwp_loopU [1, 2, 4, 6, 7] (fun m st H' => ∃ i, i ≤ t.l.length ∧ m = t.l.length - i ∧ H' = (b4, [.int .i64 0, .int .i64 0, .lst 0 [] true]) :: (b2, [.int .i64 t.cap, .int .i64 t.tm, .lst 3 ((upToL (expK t.tm now) t.l i).map tkV) false]) :: H ∧
      st = MS 73 [(1, .int .i64 now), (2, .ptr (some (b2, 0))), (4, .ptr (some (b4, 0))), (6, .int .i64 (((t.l.take i).map (expN t.tm now)).sum : Nat)), (7, .int .i64 i)]) (n := t.l.length)
    ⟨_, _, keep_up (l' := [(1, .int .i64 now), (2, .ptr (some (b2, 0))), (4, .ptr (some (b4, 0))), (6, .int .i64 0), (7, .int .i64 0)]) (by simp [keepA]), List.Sublist.refl _, 0, Nat.zero_le _, rfl, by rw [upToL_zero], rfl⟩ ?_
  rintro m st H2 ⟨i, hi, rfl, rfl, rfl⟩
  have hsum := fun h : i < t.l.length => sum_take_succ (expN t.tm now) t.l i h
  have hcb : ((t.l.take i).map (expN t.tm now)).sum ≤ i * 400000 := by
    have h1 := sum_le (expN t.tm now) 400000 (t.l.take i) fun k hk => Nat.le_trans (List.length_filter_le _ _) (hs.tr _ (List.mem_of_mem_take hk))
    rw [List.length_take, Nat.min_eq_left hi] at h1
    exact h1
  have hll := upToL_len (expK t.tm now) t.l i
  have hsml := upToL_small hs hf i
  have hstt := upToL_set (expK t.tm now) t.l i
  have hat : ∀ h : i < t.l.length, (upToL (expK t.tm now) t.l i)[i]? = some t.l[i] := fun h => by rw [List.getElem?_eq_getElem (by rw [upToL_len]; exact h), upToL_at _ _ _ h]
  have hend : i = t.l.length → tbV (expT t now) = .agg [.int .i64 t.cap, .int .i64 t.tm, .lst 3 ((upToL (expK t.tm now) t.l i).map tkV) false] ∧ expC t now = ((t.l.take i).map (expN t.tm now)).sum := fun e => by
    subst e
    exact ⟨by simp only [tbV, expT, upToL_all], by simp only [expC, List.take_length]⟩
  generalize upToL (expK t.tm now) t.l i = L at *
  generalize ((t.l.take i).map (expN t.tm now)).sum = c at *
  refine pwp_rif fun K hK => ?_
  by_cases hik : i < t.l.length
  · have hw : IntKind.i64.wrap ((i : Int) + 1) = ((i + 1 : Nat) : Int) := by rw [w64 (by omega) (by omega)]; rfl
    have hks := hs.tr _ (List.getElem_mem hik)
    have hbk := hb _ (List.getElem_mem hik)
    obtain ⟨hiL, hLi⟩ := List.getElem?_eq_some_iff.1 (hat hik)
    have hstt := hstt hik
    have hsum := hsum hik
    generalize hkk : t.l[i] = k at *
    have hop := refOpen_ok k hks
    simp only [tkV] at hop
    simp [runM_nil, n24, Ne.symm n24, hiL]
    refine hK _ _ (ifT (by simp [runM_nil]) (pwp_skip (pwp_seq (pwp_block (pwp_sr fun K hK => ?_)))))
    simp [runM_nil, n24, Ne.symm n24, hiL, hLi, tkV]
    intro b8 h8
    obtain ⟨n48, h8⟩ := ite_none h8
    obtain ⟨n28, h8⟩ := ite_none h8
    refine hK _ _ (pwp_sr fun K hK => ?_)
    simp [runM_nil]
    refine useP hop ?_
    simp [runM_nil]
    refine hK _ _ (pwp_seq (pwp_sr fun K hK => ?_))
    simp [runM_nil]
    refine hK _ _ (pwp_block ?_)
    clear hK
    have hnd := openIx_nodup k.tr
    have hlt := fun o (h : o ∈ openIx k.tr) => openIx_lt h
    have hall := foldX_all t.tm now k.tr
    have hcnt := lateAt_all t.tm now k
    have hle : (openIx k.tr).length ≤ 400000 := Nat.le_trans (List.length_filter_le _ _) (by rw [List.length_range]; exact hks)
    generalize openIx k.tr = ix at *
    have hnl : (natsV ix).length = ix.length := by simp [natsV]
    refine pwp_loopU [1, 2, 4, 6, 7, 8, 9, 10] (fun m st H' => ∃ j, j ≤ ix.length ∧ m = ix.length - j ∧ H' = (b8, [.lst 3 (((ix.take j).foldl (stepX t.tm now) k.tr).map trV) false, .int .i64 k.dn, .int .i64 k.fl]) :: (b4, [.int .i64 0, .int .i64 0, .lst 0 [] true]) :: (b2, [.int .i64 t.cap, .int .i64 t.tm, .lst 3 (L.map tkV) false]) :: H ∧
        st = MS 73 [(1, .int .i64 now), (2, .ptr (some (b2, 0))), (4, .ptr (some (b4, 0))), (6, .int .i64 ((c + ((ix.take j).filter (lateAt t.tm now k.tr)).length : Nat))), (7, .int .i64 i), (8, .ptr (some (b8, 0))), (9, .lst 1 (natsV ix) true), (10, .int .i64 j)]) (n := ix.length)
      ⟨_, _, keep_up (l' := [(1, .int .i64 now), (2, .ptr (some (b2, 0))), (4, .ptr (some (b4, 0))), (6, .int .i64 c), (7, .int .i64 i), (8, .ptr (some (b8, 0))), (9, .lst 1 (natsV ix) true), (10, .int .i64 0)]) (by simp [keepA]), List.Sublist.refl _, 0, Nat.zero_le _, rfl, rfl, rfl⟩ ?_
    rintro m st H3 ⟨j, hj, rfl, rfl, rfl⟩
    have hfl := foldX_len t.tm now (ix.take j) k.tr
    have hst2 : j < ix.length → ∃ (o : Nat) (ho : o < k.tr.length), ix[j]? = some o ∧ ((ix.take j).foldl (stepX t.tm now) k.tr)[o]? = some k.tr[o] ∧ (ix.take (j + 1)).foldl (stepX t.tm now) k.tr = stepX t.tm now ((ix.take j).foldl (stepX t.tm now) k.tr) o ∧
        ((ix.take (j + 1)).filter (lateAt t.tm now k.tr)).length = ((ix.take j).filter (lateAt t.tm now k.tr)).length + (if t.tm ≤ now - k.tr[o].b then 1 else 0) := fun h => by
      have ho := hlt _ (List.getElem_mem h)
      have hdr := List.drop_eq_getElem_cons h
      have hnd2 := hnd
      rw [← List.take_append_drop j ix] at hnd2
      obtain ⟨d1, _, d3⟩ := List.nodup_append.1 hnd2
      have hnot : ix[j] ∉ ix.take j := fun hm => d3 _ hm _ (by rw [hdr]; exact List.mem_cons_self ..) rfl
      refine ⟨ix[j], ho, List.getElem?_eq_getElem h, ?_, ?_, ?_⟩
      · rw [foldX_get _ _ _ _ _ d1, List.getElem?_eq_getElem ho]
        simp [hnot]
      · rw [List.take_succ_eq_append_getElem h, List.foldl_append]
        rfl
      · rw [take_filter_succ _ _ _ h, List.length_append]
        have : lateAt t.tm now k.tr ix[j] = decide (t.tm ≤ now - k.tr[ix[j]].b) := by simp [lateAt, ho]
        rw [this]
        by_cases hx : t.tm ≤ now - k.tr[ix[j]].b <;> simp [hx]
    have hfin : j = ix.length → (ix.take j).foldl (stepX t.tm now) k.tr = k.tr.map (expX t.tm now) ∧ ((ix.take j).filter (lateAt t.tm now k.tr)).length = expN t.tm now k := fun e => by
      subst e
      rw [List.take_length]
      exact ⟨hall, hcnt⟩
    have hel : ((ix.take j).filter (lateAt t.tm now k.tr)).length ≤ 400000 := Nat.le_trans (List.length_filter_le _ _) (by rw [List.length_take]; omega)
    generalize (ix.take j).foldl (stepX t.tm now) k.tr = F at *
    generalize ((ix.take j).filter (lateAt t.tm now k.tr)).length = e at *
    by_cases hjk : j < ix.length
    · have hw2 : IntKind.i64.wrap ((j : Int) + 1) = ((j + 1 : Nat) : Int) := by rw [w64 (by omega) (by omega)]; rfl
      obtain ⟨o, ho, hixj, hFo, hs1, hs2⟩ := hst2 hjk
      obtain ⟨hoF, hFx⟩ := List.getElem?_eq_some_iff.1 hFo
      obtain ⟨_, hixo⟩ := List.getElem?_eq_some_iff.1 hixj
      have hbj := hbk _ (List.getElem_mem ho)
      generalize hxx : k.tr[o] = x at *
      have w1 : IntKind.i64.wrap (now - x.b) = now - x.b := w64 (by omega) (by omega)
      have hc3 : c ≤ 160000000000 := Nat.le_trans hcb (by have : i ≤ 400000 := by omega
                                                          omega)
      rcases (show t.tm ≤ now - x.b ∨ ¬ t.tm ≤ now - x.b by omega) with hx | hx
      · rw [if_pos hx] at hs2
        have hs3 : stepX t.tm now F o = F.set o (shut x) := by simp [stepX, hFo, hx]
        have htr := tries_ok ⟨F, k.dn, k.fl⟩ o (shut x) (by rw [hfl]; exact hks)
        have hcl := closed_ok x
        rw [← hs3, ← hs1] at htr
        obtain ⟨F2, hF2⟩ : ∃ F2, F2 = (ix.take (j + 1)).foldl (stepX t.tm now) k.tr := ⟨_, rfl⟩
        rw [← hF2] at htr
        simp only [tkV, trV] at htr hcl
        have w3 : IntKind.i64.wrap ((c : Int) + e + 1) = (c : Int) + e + 1 := w64 (by omega) (by omega)
        refine pwp_rif fun K hK => ?_
        simp [runM_nil, hnl, hjk]
        refine hK _ _ (ifT (by simp [runM_nil]) (pwp_skip (pwp_seq (pwp_block ?_))))
        refine pwp_difE hmix ?_
        intro K hK
        simp [runM_nil, natsV, hjk, hixo, hoF, hFx, trV, n48, Ne.symm n48, n28, Ne.symm n28, n24, Ne.symm n24, w1, hx]
        refine hK _ _ (ifT (by simp [runM_nil, hx]) (pwp_ss hmix ?_))
        intro K hK
        simp [runM_nil, planS_nil, hjk, hixo, hoF, hFx, trV, n48, Ne.symm n48, n28, Ne.symm n28, n24, Ne.symm n24]
        refine useDS hcl ?_
        simp [runM_nil, planS_nil, n48, Ne.symm n48, n28, Ne.symm n28, shut]
        refine useDS htr ?_
        simp [runM_nil, planS_nil, n48, Ne.symm n48, n28, Ne.symm n28]
        refine hK _ _ (pwp_regionM fun K hK => ?_)
        simp [runM_nil, w3]
        refine hK _ _ (pwp_regionM fun K hK => ?_)
        simp [runM_nil, hw2]
        refine hK _ _ ⟨ix.length - (j + 1), by omega, _, _, keep_up (l' := [(1, .int .i64 now), (2, .ptr (some (b2, 0))), (4, .ptr (some (b4, 0))), (6, .int .i64 ((c + (e + 1) : Nat))), (7, .int .i64 i), (8, .ptr (some (b8, 0))), (9, .lst 1 (natsV ix) true), (10, .int .i64 (j + 1 : Nat))]) ?_, List.Sublist.refl _, j + 1, by omega, rfl, ?_, by rw [hs2]⟩
        · simp [keepA, natsV, Int.add_assoc]
        · rw [← hF2]
      · rw [if_neg hx] at hs2
        have hs3 : stepX t.tm now F o = F := by simp [stepX, hFo, hx]
        rw [hs3] at hs1
        refine pwp_rif fun K hK => ?_
        simp [runM_nil, hnl, hjk]
        refine hK _ _ (ifT (by simp [runM_nil]) (pwp_skip (pwp_seq (pwp_block ?_))))
        refine pwp_difE hmix ?_
        intro K hK
        simp [runM_nil, natsV, hjk, hixo, hoF, hFx, trV, n48, Ne.symm n48, n28, Ne.symm n28, n24, Ne.symm n24, w1, hx]
        refine hK _ _ (ifF (by simp [runM_nil, hx]) (pwp_skip (pwp_regionM fun K hK => ?_)))
        simp [runM_nil, hw2]
        refine hK _ _ ⟨ix.length - (j + 1), by omega, _, _, keep_up (l' := [(1, .int .i64 now), (2, .ptr (some (b2, 0))), (4, .ptr (some (b4, 0))), (6, .int .i64 ((c + e : Nat))), (7, .int .i64 i), (8, .ptr (some (b8, 0))), (9, .lst 1 (natsV ix) true), (10, .int .i64 (j + 1 : Nat))]) ?_, List.Sublist.refl _, j + 1, by omega, rfl, ?_, by rw [hs2]; rfl⟩
        · simp [keepA, natsV]
        · rw [hs1]
    · have hjl : j = ix.length := by omega
      obtain ⟨f1, f2⟩ := hfin hjl
      have hwith := with_ok ⟨t.cap, t.tm, L⟩ i (expK t.tm now k) hsml
      simp only [setT] at hwith
      rw [hstt] at hwith
      have hex : tkV (expK t.tm now k) = .agg [.lst 3 (F.map trV) false, .int .i64 k.dn, .int .i64 k.fl] := by rw [f1]; rfl
      rw [hex] at hwith
      obtain ⟨L2, hL2⟩ : ∃ L2, L2 = upToL (expK t.tm now) t.l (i + 1) := ⟨_, rfl⟩
      rw [← hL2] at hwith
      simp only [tbV] at hwith
      refine pwp_rif fun K hK => ?_
      simp [runM_nil, hnl, hjk]
      refine hK _ _ (ifF (by simp [runM_nil]) (pwp_exit (pwp_regionM fun K hK => ?_)))
      simp [runM_nil, n48, Ne.symm n48, n28, Ne.symm n28, n24, Ne.symm n24]
      refine useP hwith ?_
      simp [runM_nil, n48, Ne.symm n48, n28, Ne.symm n28, n24, Ne.symm n24]
      refine hK _ _ (pwp_regionM fun K hK => ?_)
      simp [runM_nil, hw]
      refine hK _ _ ⟨t.l.length - (i + 1), by omega, _, _, keep_up (l' := [(1, .int .i64 now), (2, .ptr (some (b2, 0))), (4, .ptr (some (b4, 0))), (6, .int .i64 ((c + e : Nat))), (7, .int .i64 (i + 1 : Nat))]) (by simp [keepA]), .cons _ (.refl _), i + 1, by omega, rfl, ?_, by rw [hsum, f2]⟩
      rw [← hL2]
  · have hil : i = t.l.length := by omega
    obtain ⟨e1, e2⟩ := hend hil
    have hiL : ¬ i < L.length := by omega
    simp [runM_nil, n24, Ne.symm n24, hiL]
    refine hK _ _ (ifF (by simp [runM_nil]) (pwp_exit (pwp_sr fun K hK => ?_)))
    simp [runM_nil, n24, Ne.symm n24]
    refine hK _ _ (pwp_ret ⟨.inr rfl, _, _, (by simp [runM_nil, resL, n24, Ne.symm n24]; rfl), .cons _ (.cons _ (.refl _)), by rw [e1, e2]; simp [resV], rfl⟩)
end Go.Proofs.Ytkjibelcaeanjaa.E
/- Expire, on plain values. -/
namespace Go.Proofs.Ytkjibelcaeanjaa.E
open Go Go.RowKit Go.Proofs
set_option linter.unusedVariables false
set_option linter.unusedSimpArgs false
theorem close_chg2 (k : Tk) (j : Nat) (hj : j < k.tr.length) (hk : k.tr.length ≤ 400000) : ChgA 69 [capI j] k ⟨k.tr.set j (shut k.tr[j]), k.dn, k.fl⟩ := by
  have h := close_chg (k.tr.take j) (k.tr.drop (j + 1)) k.tr[j] k.dn k.fl (by rw [← split_at]; exact hk)
  rw [← split_at, List.length_take, Nat.min_eq_left (by omega), ← set_split _ _ hj] at h
  exact h
/-- Attempts of which the first ones are gone through. -/
def upX (f : Tr → Tr) (l : List Tr) (i : Nat) : List Tr := (l.take i).map f ++ l.drop i
theorem upX_len (f : Tr → Tr) (l : List Tr) (i : Nat) : (upX f l i).length = l.length := by
  simp only [upX, List.length_append, List.length_map, List.length_take, List.length_drop]
  omega
theorem upX_at (f : Tr → Tr) (l : List Tr) (i : Nat) (hi : i < l.length) : (upX f l i)[i]? = some l[i] := by
  simp only [upX]
  rw [List.getElem?_append_right (by simp; omega)]
  simp [Nat.min_eq_left (Nat.le_of_lt hi), hi]
theorem upX_set (f : Tr → Tr) (l : List Tr) (i : Nat) (hi : i < l.length) : (upX f l i).set i (f l[i]) = upX f l (i + 1) := by
  have h1 : ((l.take i).map f).length = i := by rw [List.length_map, List.length_take]; omega
  have h2 : (l.take (i + 1)).map f = (l.take i).map f ++ [f l[i]] := by rw [List.take_succ_eq_append_getElem hi, List.map_append]; rfl
  simp only [upX]
  rw [List.set_append_right _ _ (by omega), h1, Nat.sub_self, List.drop_eq_getElem_cons hi, h2]
  simp only [List.set_cons_zero, List.append_assoc, List.singleton_append]
theorem upX_all (f : Tr → Tr) (l : List Tr) : upX f l l.length = l.map f := by simp [upX]
theorem upX_zero (f : Tr → Tr) (l : List Tr) : upX f l 0 = l := by simp [upX]
set_option maxRecDepth 8000 in
set_option maxHeartbeats 4000000 in
theorem Expire_ok (t : Tb) (now : Int) (hs : Small t) (hn : 0 ≤ now ∧ now ≤ 1000000000) (hb : ∀ k ∈ t.l, ∀ x ∈ k.tr, 0 ≤ x.b ∧ x.b ≤ 1000000000) :
    PSpec Try.prog 48 [tbV t, .int .i64 now] (.tup [tbV (expT t now), .int .i64 (expC t now : Nat)]) := by
  intro H
  have hsl := hs.l
  have hf : ∀ k, (expK t.tm now k).tr.length = k.tr.length := fun k => by simp [expK]
  refine spec_of t48 (by simp [p48]) ?_
  simp only [p48]
  refine pwp_sr fun K hK => ?_
  simp [runM_nil, tbV]
  intro b2 h2 b4 h4
  obtain ⟨n24, h4⟩ := ite_none h4
  refine hK _ _ (pwp_sr fun K hK => ?_)
  simp [runM_nil]
  refine hK _ _ (pwp_seq (pwp_sr fun K hK => ?_))
  simp [runM_nil, n24, Ne.symm n24]
  refine hK _ _ (pwp_block ?_)
  clear hK
  refine pwp_loopU [1, 2, 4, 6, 12, 13, 14] (fun m st H' => ∃ i, i ≤ t.l.length ∧ m = t.l.length - i ∧ H' = (b4, [.int .i64 0, .int .i64 0, .lst 0 [] true]) :: (b2, [.int .i64 t.cap, .int .i64 t.tm, .lst 3 ((upToL (expK t.tm now) t.l i).map tkV) false]) :: H ∧
      st = MS 48 [(1, .int .i64 now), (2, .ptr (some (b2, 0))), (4, .ptr (some (b4, 0))), (6, .int .i64 (((t.l.take i).map (expN t.tm now)).sum : Nat)), (12, .lst 3 (t.l.map tkV) false), (13, .int .i64 t.l.length), (14, .int .i64 i)]) (n := t.l.length)
    ⟨_, _, keep_up (l' := [(1, .int .i64 now), (2, .ptr (some (b2, 0))), (4, .ptr (some (b4, 0))), (6, .int .i64 0), (12, .lst 3 (t.l.map tkV) false), (13, .int .i64 t.l.length), (14, .int .i64 0)]) (by simp [keepA]), List.Sublist.refl _, 0, Nat.zero_le _, rfl, by rw [upToL_zero], rfl⟩ ?_
  rintro m st H2 ⟨i, hi, rfl, rfl, rfl⟩
  have hsum := fun h : i < t.l.length => sum_take_succ (expN t.tm now) t.l i h
  have hcb : ((t.l.take i).map (expN t.tm now)).sum ≤ i * 400000 := by
    have h1 := sum_le (expN t.tm now) 400000 (t.l.take i) fun k hk => Nat.le_trans (List.length_filter_le _ _) (hs.tr _ (List.mem_of_mem_take hk))
    rw [List.length_take, Nat.min_eq_left hi] at h1
    exact h1
  have hll := upToL_len (expK t.tm now) t.l i
  have hsml := upToL_small hs hf i
  have hstt := upToL_set (expK t.tm now) t.l i
  have hat : ∀ h : i < t.l.length, (upToL (expK t.tm now) t.l i)[i]? = some t.l[i] := fun h => by rw [List.getElem?_eq_getElem (by rw [upToL_len]; exact h), upToL_at _ _ _ h]
  have hend : i = t.l.length → tbV (expT t now) = .agg [.int .i64 t.cap, .int .i64 t.tm, .lst 3 ((upToL (expK t.tm now) t.l i).map tkV) false] ∧ expC t now = ((t.l.take i).map (expN t.tm now)).sum := fun e => by
    subst e
    exact ⟨by simp only [tbV, expT, upToL_all], by simp only [expC, List.take_length]⟩
  generalize upToL (expK t.tm now) t.l i = L at *
  generalize ((t.l.take i).map (expN t.tm now)).sum = c at *
  refine pwp_sr fun K hK => ?_
  by_cases hik : i < t.l.length
  · have hw : IntKind.i64.wrap ((i : Int) + 1) = ((i + 1 : Nat) : Int) := by rw [w64 (by omega) (by omega)]; rfl
    have hks := hs.tr _ (List.getElem_mem hik)
    have hbk := hb _ (List.getElem_mem hik)
    obtain ⟨hiL, hLi⟩ := List.getElem?_eq_some_iff.1 (hat hik)
    have hstt := hstt hik
    have hsum := hsum hik
    generalize hkk : t.l[i] = k at *
    simp [runM_nil, hik]
    refine hK _ _ (pwp_sT (by simp [runM_nil]) (pwp_seq (pwp_block (pwp_sr fun K hK => ?_))))
    simp [runM_nil, hik, hkk, tkV]
    intro b8 h8
    refine hK _ _ (pwp_sr fun K hK => ?_)
    simp [runM_nil]
    refine hK _ _ (pwp_block ?_)
    clear hK
    have hbd : c + k.tr.length ≤ 170000000000 := by
      have : i ≤ 400000 := by omega
      omega
    refine pwp_loopU [1, 2, 4, 6, 7, 12, 13, 14, 20, 21, 22] (fun m st H' => ∃ j, j ≤ k.tr.length ∧ m = k.tr.length - j ∧ H' = (b4, [.int .i64 0, .int .i64 0, .lst 0 [] true]) :: (b2, [.int .i64 t.cap, .int .i64 t.tm, .lst 3 ((L.set i ⟨upX (expX t.tm now) k.tr j, k.dn, k.fl⟩).map tkV) false]) :: H ∧
        st = MS 48 [(1, .int .i64 now), (2, .ptr (some (b2, 0))), (4, .ptr (some (b4, 0))), (6, .int .i64 ((c + ((k.tr.take j).filter (lateX t.tm now)).length : Nat))), (7, .int .i64 i), (12, .lst 3 (t.l.map tkV) false), (13, .int .i64 t.l.length), (14, .int .i64 i), (20, .lst 3 (k.tr.map trV) false), (21, .int .i64 k.tr.length), (22, .int .i64 j)]) (n := k.tr.length)
      ⟨_, _, keep_up (l' := [(1, .int .i64 now), (2, .ptr (some (b2, 0))), (4, .ptr (some (b4, 0))), (6, .int .i64 c), (7, .int .i64 i), (12, .lst 3 (t.l.map tkV) false), (13, .int .i64 t.l.length), (14, .int .i64 i), (20, .lst 3 (k.tr.map trV) false), (21, .int .i64 k.tr.length), (22, .int .i64 0)]) (by simp [keepA]), .cons _ (.refl _), 0, Nat.zero_le _, rfl, ?_, rfl⟩ ?_
    · have : L.set i ⟨upX (expX t.tm now) k.tr 0, k.dn, k.fl⟩ = L := by
        rw [upX_zero]
        have e : (⟨k.tr, k.dn, k.fl⟩ : Tk) = L[i] := by rw [hLi]
        rw [e, List.set_getElem_self]
      rw [this]
    rintro m st H3 ⟨j, hj, rfl, rfl, rfl⟩
    have hfin : j = k.tr.length → upX (expX t.tm now) k.tr j = (expK t.tm now k).tr ∧ ((k.tr.take j).filter (lateX t.tm now)).length = expN t.tm now k := fun e => by
      subst e
      exact ⟨upX_all _ _, by rw [List.take_length]; rfl⟩
    have hfil : ∀ h : j < k.tr.length, ((k.tr.take (j + 1)).filter (lateX t.tm now)).length = ((k.tr.take j).filter (lateX t.tm now)).length + (if lateX t.tm now k.tr[j] = true then 1 else 0) := fun h => by
      rw [take_filter_succ _ _ _ h, List.length_append]
      cases lateX t.tm now k.tr[j] <;> simp
    have hat2 := fun h => upX_at (expX t.tm now) k.tr j h
    have hst2 := fun h => upX_set (expX t.tm now) k.tr j h
    have hlx := upX_len (expX t.tm now) k.tr j
    have hfl : ((k.tr.take j).filter (lateX t.tm now)).length ≤ k.tr.length := Nat.le_trans (List.length_filter_le _ _) (by rw [List.length_take]; omega)
    generalize upX (expX t.tm now) k.tr j = X at *
    generalize ((k.tr.take j).filter (lateX t.tm now)).length = e at *
    rcases Nat.lt_or_ge j k.tr.length with hjk | hjk
    · have hw2 : IntKind.i64.wrap ((j : Int) + 1) = ((j + 1 : Nat) : Int) := by rw [w64 (by omega) (by omega)]; rfl
      have w3 : IntKind.i64.wrap ((c : Int) + e + 1) = (c : Int) + e + 1 := w64 (by omega) (by omega)
      obtain ⟨hjX, hXj⟩ := List.getElem?_eq_some_iff.1 (hat2 hjk)
      have hst2 := hst2 hjk
      have hfil := hfil hjk
      have hbj := hbk _ (List.getElem_mem hjk)
      generalize hxx : k.tr[j] = x at *
      have w1 : IntKind.i64.wrap (now - x.b) = now - x.b := w64 (by omega) (by omega)
      refine pwp_sr fun K hK => ?_
      simp [runM_nil, hjk]
      refine hK _ _ (pwp_sT (by simp [runM_nil]) (pwp_seq (pwp_block (pwp_sr fun K hK => ?_))))
      simp [runM_nil, hjk, hxx, trV]
      intro b9 h9 b10 h10
      obtain ⟨n910, h10⟩ := ite_none h10
      obtain ⟨n410, h10⟩ := ite_none h10
      obtain ⟨n210, h10⟩ := ite_none h10
      obtain ⟨n49, h9⟩ := ite_none h9
      obtain ⟨n29, h9⟩ := ite_none h9
      simp [runM_nil, n910, Ne.symm n910]
      refine hK _ _ ?_
      have hxc : (x.o = false ∧ lateX t.tm now x = false) ∨ (x.o = true ∧ ¬ t.tm ≤ now - x.b ∧ lateX t.tm now x = false) ∨ (x.o = true ∧ t.tm ≤ now - x.b ∧ lateX t.tm now x = true) := by
        cases ho : x.o
        · exact .inl ⟨rfl, by simp [lateX, ho]⟩
        · by_cases hx : t.tm ≤ now - x.b
          · exact .inr (.inr ⟨rfl, hx, by simp [lateX, ho, hx]⟩)
          · exact .inr (.inl ⟨rfl, hx, by simp [lateX, hx]⟩)
      refine pwp_rifE fun K hK => ?_
      have nx : ∀ st' (b : Bool), argT st' (.t 37) = .bool false → keepL [1, 2, 4, 6, 7, 12, 13, 14, 20, 21, 22] 0 st' = MS 48 [(1, .int .i64 now), (2, .ptr (some (b2, 0))), (4, .ptr (some (b4, 0))), (6, .int .i64 ((c + e : Nat))), (7, .int .i64 i), (12, .lst 3 (t.l.map tkV) false), (13, .int .i64 t.l.length), (14, .int .i64 i), (20, .lst 3 (k.tr.map trV) false), (21, .int .i64 k.tr.length), (22, .int .i64 j)] → lateX t.tm now x = false →
          K st' ((b10, [.int .i64 x.w, .int .i64 x.b, .bool b]) :: (b9, [.int .i64 j]) :: (b4, [.int .i64 0, .int .i64 0, .lst 0 [] true]) :: (b2, [.int .i64 t.cap, .int .i64 t.tm, .lst 3 ((L.map tkV).set i (tkV ⟨X, k.dn, k.fl⟩)) false]) :: H) := by
        intro st' b e1 e2 e3
        have hX : X.set j (expX t.tm now x) = X := by
          simp only [expX, e3]
          rw [← hXj]
          exact List.set_getElem_self ..
        refine hK _ _ (ifF e1 (pwp_skip (pwp_keep [1, 2, 4, 6, 7, 12, 13, 14, 20, 21, 22] ?_)))
        rw [e2]
        refine pwp_regionM fun K hK => ?_
        simp [runM_nil, hw2]
        refine hK _ _ ⟨k.tr.length - (j + 1), by omega, _, _, keep_up (l' := [(1, .int .i64 now), (2, .ptr (some (b2, 0))), (4, .ptr (some (b4, 0))), (6, .int .i64 ((c + e : Nat))), (7, .int .i64 i), (12, .lst 3 (t.l.map tkV) false), (13, .int .i64 t.l.length), (14, .int .i64 i), (20, .lst 3 (k.tr.map trV) false), (21, .int .i64 k.tr.length), (22, .int .i64 (j + 1 : Nat))]) (by simp [keepA]), .cons _ (.cons _ (.refl _)), j + 1, by omega, rfl, ?_, by rw [hfil, e3]; rfl⟩
        rw [← hst2, hX, List.map_set]
      rcases hxc with ⟨h1, h2⟩ | ⟨h1, h3, h2⟩ | ⟨h1, h3, h2⟩
      · simp [runM_nil, n910, Ne.symm n910, h1]
        exact nx _ _ (by simp [runM_nil]) (by simp [keepL_MS, keepA, getS]) h2
      · simp [runM_nil, n910, Ne.symm n910, n410, Ne.symm n410, n210, Ne.symm n210, n49, Ne.symm n49, n29, Ne.symm n29, n24, Ne.symm n24, h1, w1, h3]
        exact nx _ _ (by simp [runM_nil, h3]) (by simp [keepL_MS, keepA, getS]) h2
      · simp [runM_nil, n910, Ne.symm n910, n410, Ne.symm n410, n210, Ne.symm n210, n49, Ne.symm n49, n29, Ne.symm n29, n24, Ne.symm n24, h1, w1, h3]
        refine hK _ _ (ifT (by simp [runM_nil, h3]) ?_)
        have hsT : Small ⟨t.cap, t.tm, L.set i ⟨X, k.dn, k.fl⟩⟩ := small_set (t := ⟨t.cap, t.tm, L⟩) (i := i) (k := ⟨X, k.dn, k.fl⟩) hsml (by show X.length ≤ 400000; omega)
        have hXne : X ≠ [] := fun e => by rw [e] at hjX; simp at hjX
        have hcc := close_chg2 ⟨X, k.dn, k.fl⟩ j hjX (by show X.length ≤ 400000; omega)
        have hexp : expX t.tm now x = shut x := by simp [expX, h2]
        have hiS : i < (L.set i (⟨X, k.dn, k.fl⟩ : Tk)).length := by rw [List.length_set]; exact hiL
        have hw36 := withA_set ⟨t.cap, t.tm, L.set i ⟨X, k.dn, k.fl⟩⟩ i hiS ⟨X.set j (shut x), k.dn, k.fl⟩ 69 [capI j] hsT
          (by show ((L.set i (⟨X, k.dn, k.fl⟩ : Tk))[i]'hiS).tr ≠ []; rw [List.getElem_set_self]; exact hXne) (by simp [capI, lendL, lend])
          (by show ChgA 69 [capI j] ((L.set i (⟨X, k.dn, k.fl⟩ : Tk))[i]'hiS) _; rw [List.getElem_set_self]; simp only [hXj] at hcc; exact hcc)
        simp only [setT, List.set_set, tbV, List.map_set, capI] at hw36
        refine pwp_freeze (b := b9) 1 false [] (by simp [hget, n910, Ne.symm n910]; rfl) ?_
        have hfr := fun f q => frzH_id (b := b9) (f := f) (q := q) (L := []) h9 (fun x hx => by cases hx)
        simp [planS_nil, ptrL, rowL, lendL, lend, n910, Ne.symm n910, n49, Ne.symm n49, n29, Ne.symm n29]
        rw [hfr]
        refine pwp_sr fun K hK => ?_
        simp [runM_nil, n210, Ne.symm n210, n24, Ne.symm n24, n410, Ne.symm n410]
        refine useP hw36 ?_
        simp [runM_nil, n210, Ne.symm n210, n24, Ne.symm n24, n410, Ne.symm n410]
        refine hK _ _ (pwp_regionM fun K hK => ?_)
        simp [runM_nil, w3]
        refine hK _ _ (pwp_regionM fun K hK => ?_)
        simp [runM_nil, hw2]
        refine hK _ _ ⟨k.tr.length - (j + 1), by omega, _, keep_up (l' := [(1, .int .i64 now), (2, .ptr (some (b2, 0))), (4, .ptr (some (b4, 0))), (6, .int .i64 ((c + (e + 1) : Nat))), (7, .int .i64 i), (12, .lst 3 (t.l.map tkV) false), (13, .int .i64 t.l.length), (14, .int .i64 i), (20, .lst 3 (k.tr.map trV) false), (21, .int .i64 k.tr.length), (22, .int .i64 (j + 1 : Nat))]) (by simp [keepA, Int.add_assoc]), _, .cons _ (.refl _), j + 1, by omega, rfl, ?_, by rw [hfil, h2]; rfl⟩
        rw [← hst2, hexp]
    · have hjl : j = k.tr.length := by omega
      obtain ⟨f1, f2⟩ := hfin hjl
      have hjk2 : ¬ j < k.tr.length := by omega
      refine pwp_sr fun K hK => ?_
      simp [runM_nil, hjk2]
      refine hK _ _ (pwp_seq (pwp_cF (by simp [runM_nil]) (pwp_exit (pwp_regionM fun K hK => ?_))))
      simp [runM_nil, hw]
      refine hK _ _ ⟨t.l.length - (i + 1), by omega, _, _, keep_up (l' := [(1, .int .i64 now), (2, .ptr (some (b2, 0))), (4, .ptr (some (b4, 0))), (6, .int .i64 ((c + e : Nat))), (12, .lst 3 (t.l.map tkV) false), (13, .int .i64 t.l.length), (14, .int .i64 (i + 1 : Nat))]) (by simp [keepA]), .refl _, i + 1, by omega, rfl, ?_, by rw [hsum, f2]⟩
      rw [← hstt, f1, List.map_set]
      rfl
  · have hil : i = t.l.length := by omega
    obtain ⟨e1, e2⟩ := hend hil
    simp [runM_nil, hik]
    refine hK _ _ (pwp_seq (pwp_cF (by simp [runM_nil]) (pwp_exit (pwp_sr fun K hK => ?_))))
    simp [runM_nil, n24, Ne.symm n24]
    refine hK _ _ (pwp_ret ⟨.inr rfl, _, _, (by simp [runM_nil, resL, n24, Ne.symm n24]; rfl), .cons _ (.cons _ (.refl _)), by rw [e1, e2]; simp [resV], rfl⟩)
end Go.Proofs.Ytkjibelcaeanjaa.E
/- What each act keeps, in plain terms. -/
namespace Go.Proofs.Ytkjibelcaeanjaa.E
open Go Go.RowKit Go.Proofs
set_option linter.unusedVariables false
set_option linter.unusedSimpArgs false
theorem may_small {t : Tb} (hma : mayT t = true) : Small t := by
  simp only [mayT, Bool.and_eq_true, List.all_eq_true, decide_eq_true_eq] at hma
  refine ⟨by omega, fun k hk => ?_⟩
  have := hma.2.2.2 k hk
  simp only [mayK, Bool.and_eq_true, decide_eq_true_eq] at this
  omega
theorem may_set {t : Tb} (hma : mayT t = true) (i : Nat) {k : Tk} (hk : mayK k = true) : mayT (setT t i k) = true := by
  simp only [mayT, Bool.and_eq_true, setT, List.length_set] at hma ⊢
  obtain ⟨h1, h2, h3, h4⟩ := hma
  refine ⟨h1, h2, h3, ?_⟩
  rw [List.all_eq_true] at h4 ⊢
  intro x hx
  rcases List.mem_or_eq_of_mem_set hx with hx | rfl
  · exact h4 x hx
  · exact hk
theorem timed_set {t : Tb} (ht : timedT t = true) (i : Nat) {k : Tk} (hk : k.tr.all okB = true) : timedT (setT t i k) = true := by
  simp only [timedT, setT] at ht ⊢
  rw [List.all_eq_true] at ht ⊢
  intro x hx
  rcases List.mem_or_eq_of_mem_set hx with hx | rfl
  · exact ht x hx
  · exact hk
theorem busy_may {k : Tk} {worker : Int} (hk : mayK k = true) (hb : busy k worker = false) (hl : k.tr.length < 500) : mayStart k worker := by
  simp only [mayK, Bool.and_eq_true, decide_eq_true_eq] at hk
  obtain ⟨_, _, _, ho, _⟩ := hk
  simp only [busy, Bool.or_eq_false_iff, decide_eq_false_iff_not] at hb
  obtain ⟨h1, h2, h3⟩ := hb
  refine ⟨by omega, hl, ?_⟩
  generalize opn k = l at *
  match l, ho, h2, h3 with
  | [], _, _, _ => exact .inl rfl
  | [x], _, _, h3 => exact .inr ⟨x, rfl, by simpa [ownTr] using h3⟩
  | x :: y :: [], _, h2, _ => exact absurd rfl h2
  | x :: y :: z :: l, ho, _, _ => simp at ho; omega
theorem start_keeps {t : Tb} (hma : mayT t = true) (ht : timedT t = true) (i worker now : Int) (hn : 0 ≤ now ∧ now ≤ 1000000000) : mayT (startT t i worker now).1 = true ∧ timedT (startT t i worker now).1 = true := by
  rcases nat3 i t.l.length with h | ⟨_, h⟩ | ⟨m, rfl, hm⟩
  · rw [start_out (.inl h)]; exact ⟨hma, ht⟩
  · rw [start_out (.inr h)]; exact ⟨hma, ht⟩
  · rw [start_in hm]
    cases hb : busy t.l[m] worker with
    | true => exact ⟨hma, ht⟩
    | false =>
      by_cases hl : 500 ≤ t.l[m].tr.length
      · simp only [hl, if_true]; exact ⟨hma, ht⟩
      · have hk := busy_may (may_at hma hm) hb (by omega)
        simp only [hl, if_false]
        refine ⟨may_start hm hma hk, timed_set ht m ?_⟩
        have h1 : t.l[m].tr.all okB = true := List.all_eq_true.1 ht _ (List.getElem_mem hm)
        simp [startK, h1, okB, hn]
theorem finish_keeps {t : Tb} (hma : mayT t = true) (ht : timedT t = true) (i n : Int) : mayT (finishT t i n) = true ∧ timedT (finishT t i n) = true := by
  cases ho : isOpenT t i n with
  | false =>
    have e : finishT t i n = t := by simp [finishT, ho]
    rw [e]; exact ⟨hma, ht⟩
  | true =>
    obtain ⟨m, j, hm, hj, rfl, rfl, _⟩ := isOpen_nat ho
    have e : finishT t m j = setT t m (finishK t.l[m] j) := by simp [finishT, ho, chgT, hm]
    rw [e]
    have hk := may_at hma hm
    have h1 : t.l[m].tr.all okB = true := List.all_eq_true.1 ht _ (List.getElem_mem hm)
    generalize t.l[m] = k at *
    have h0 : opn (finishK k j) = [] := by
      simp only [opn, finishK, List.filter_eq_nil_iff, List.mem_map]
      rintro x ⟨y, _, rfl⟩
      simp [shut]
    refine ⟨may_set hma m ?_, timed_set ht m ?_⟩
    · unfold mayK at hk ⊢
      rw [h0]
      simp only [Bool.and_eq_true, decide_eq_true_eq, inB] at hk ⊢
      refine ⟨by simp only [finishK, List.length_map]; omega, by simp only [finishK, List.length_map]; omega, hk.2.2.1, by simp, by simp [twice], by simp⟩
    · simp only [finishK, List.all_map]
      rw [List.all_eq_true] at h1 ⊢
      intro x hx
      exact h1 x hx
theorem lose_keeps {t : Tb} (hma : mayT t = true) (ht : timedT t = true) (i n : Int) : mayT (loseT t i n) = true ∧ timedT (loseT t i n) = true := by
  cases ho : isDoneBy t i n with
  | false =>
    have e : loseT t i n = t := by simp [loseT, ho]
    rw [e]; exact ⟨hma, ht⟩
  | true =>
    rcases nat3 i t.l.length with h | ⟨_, h⟩ | ⟨m, rfl, hm⟩
    · rw [doneBy_out (.inl h)] at ho; cases ho
    · rw [doneBy_out (.inr h)] at ho; cases ho
    have e : loseT t m n = setT t m (loseK t.l[m]) := by simp [loseT, ho, chgT, hm]
    rw [e]
    have hk := may_at hma hm
    have h1 : t.l[m].tr.all okB = true := List.all_eq_true.1 ht _ (List.getElem_mem hm)
    generalize t.l[m] = k at *
    have h0 : mayK (loseK k) = (decide ((k.tr.length : Int) ≤ 500) && (inB (-1) (-1) (k.tr.length - 1) && (decide (0 ≤ k.fl) && (decide (((opn k).length : Int) ≤ 2) && (!twice (opn k) && (decide (opn k = []) || decide ((-1 : Int) = -1))))))) := rfl
    refine ⟨may_set hma m ?_, timed_set ht m h1⟩
    rw [h0]
    unfold mayK at hk
    simp only [Bool.and_eq_true, decide_eq_true_eq, inB] at hk ⊢
    exact ⟨hk.1, by omega, hk.2.2.1, hk.2.2.2.1, hk.2.2.2.2.1, by simp⟩
theorem twice_iff (l : List Tr) : twice l = true ↔ ∃ a, l.map (·.w) = [a, a] := by
  match l with
  | [] => simp [twice]
  | [x] => simp [twice]
  | [x, y] => simp [twice]; exact ⟨fun h => h.symm, fun h => h.symm⟩
  | x :: y :: z :: l => simp [twice]
theorem may_shrink {k k' : Tk} (hk : mayK k = true) (hl : k'.tr.length = k.tr.length) (hd : k'.dn = k.dn) (hf : 0 ≤ k'.fl) (ho : ((opn k').map (·.w)).Sublist ((opn k).map (·.w))) : mayK k' = true := by
  unfold mayK at hk ⊢
  rw [hl, hd]
  simp only [Bool.and_eq_true, decide_eq_true_eq, Bool.not_eq_true', Bool.or_eq_true] at hk ⊢
  obtain ⟨a1, a2, a3, a4, a5, a6⟩ := hk
  have hle := ho.length_le
  simp only [List.length_map] at hle
  refine ⟨a1, a2, hf, by omega, ?_, ?_⟩
  · cases ht : twice (opn k') with
    | false => rfl
    | true =>
      obtain ⟨a, e⟩ := (twice_iff _).1 ht
      have h2 : ((opn k').map (·.w)).length = 2 := by rw [e]; rfl
      have h3 := ho.eq_of_length_le (by rw [h2, List.length_map]; omega)
      rw [(twice_iff _).2 ⟨a, by rw [← h3, e]⟩] at a5
      cases a5
  · rcases a6 with h | h
    · left
      rw [h] at hle
      exact List.eq_nil_of_length_eq_zero (by simpa using hle)
    · exact .inr h
theorem open_set (l : List Tr) (j : Nat) (hj : j < l.length) (x : Tr) (hw : x.w = l[j].w) (ho : x.o = true → l[j].o = true) : (((l.set j x).filter (·.o)).map (·.w)).Sublist ((l.filter (·.o)).map (·.w)) := by
  have h1 := split_at l j hj
  have h2 := set_split l j hj x
  generalize l[j] = y at *
  rw [h2]
  conv => rhs; rw [h1]
  simp only [List.filter_append, List.map_append]
  refine List.Sublist.append (List.Sublist.refl _) ?_
  simp only [List.filter_cons]
  cases hx : x.o <;> cases hy : y.o
  · simp
  · simp
  · rw [ho hx] at hy; cases hy
  · simp [hw]
theorem open_map (f : Tr → Tr) (hf : ∀ x, (f x).w = x.w ∧ ((f x).o = true → x.o = true)) : ∀ l : List Tr, (((l.map f).filter (·.o)).map (·.w)).Sublist ((l.filter (·.o)).map (·.w))
  | [] => by simp
  | x :: l => by
    have ih := open_map f hf l
    obtain ⟨h1, h2⟩ := hf x
    simp only [List.map_cons, List.filter_cons]
    cases hx : (f x).o <;> cases hy : x.o
    · simpa using ih
    · simpa using ih.cons _
    · rw [h2 hx] at hy; cases hy
    · simp only [if_true, List.map_cons, h1]
      exact ih.cons_cons _
/-- No task has failed oftener than this. -/
def failsT (t : Tb) (n : Int) : Prop := ∀ k ∈ t.l, k.fl ≤ n
theorem fl_pos {k : Tk} (hk : mayK k = true) : 0 ≤ k.fl := by
  simp only [mayK, Bool.and_eq_true, decide_eq_true_eq] at hk
  exact hk.2.2.1
theorem set_fails {t : Tb} {n n' : Int} (h : failsT t n) (hn : n ≤ n') (i : Nat) {k : Tk} (hk : k.fl ≤ n') : failsT (setT t i k) n' := fun x hx => by
  rcases List.mem_or_eq_of_mem_set hx with hx | rfl
  · exact Int.le_trans (h x hx) hn
  · exact hk
theorem all_set {l : List Tr} (h : l.all okB = true) (j : Nat) {x : Tr} (hx : okB x = true) : (l.set j x).all okB = true := by
  rw [List.all_eq_true] at h ⊢
  intro y hy
  rcases List.mem_or_eq_of_mem_set hy with hy | rfl
  · exact h y hy
  · exact hx
theorem beat_keeps {t : Tb} (hma : mayT t = true) (ht : timedT t = true) (i n now : Int) (hn : 0 ≤ now ∧ now ≤ 1000000000) : mayT (beatT t i n now) = true ∧ timedT (beatT t i n now) = true := by
  cases ho : isOpenT t i n with
  | false =>
    have e : beatT t i n now = t := by simp [beatT, ho]
    rw [e]; exact ⟨hma, ht⟩
  | true =>
    obtain ⟨m, j, hm, hj, rfl, rfl, _⟩ := isOpen_nat ho
    have e : beatT t m j now = setT t m (beatK t.l[m] j now) := by simp [beatT, ho, chgT, hm]
    rw [e]
    have hk := may_at hma hm
    have h1 : t.l[m].tr.all okB = true := List.all_eq_true.1 ht _ (List.getElem_mem hm)
    generalize t.l[m] = k at *
    have e2 : beatK k j now = ⟨k.tr.set j ⟨k.tr[j].w, now, k.tr[j].o⟩, k.dn, k.fl⟩ := by simp [beatK, hj, setTr]
    rw [e2]
    exact ⟨may_set hma m (may_shrink hk (List.length_set ..) rfl (by show (0 : Int) ≤ k.fl; exact fl_pos hk) (open_set k.tr j hj _ rfl (fun h => h))), timed_set ht m (all_set h1 j (by simp [okB, hn]))⟩
theorem fail_keeps {t : Tb} (hma : mayT t = true) (ht : timedT t = true) (i n : Int) {b : Int} (hfl : failsT t b) (hb : b ≤ 1000) : mayT (failT t i n) = true ∧ timedT (failT t i n) = true ∧ failsT (failT t i n) (b + 1) := by
  cases ho : isOpenT t i n with
  | false =>
    have e : failT t i n = t := by simp [failT, ho]
    rw [e]; exact ⟨hma, ht, fun k hk => by have := hfl k hk; omega⟩
  | true =>
    obtain ⟨m, j, hm, hj, rfl, rfl, _⟩ := isOpen_nat ho
    have e : failT t m j = setT t m (failK t.l[m] j) := by simp [failT, ho, chgT, hm]
    rw [e]
    have hk := may_at hma hm
    have h1 : t.l[m].tr.all okB = true := List.all_eq_true.1 ht _ (List.getElem_mem hm)
    have h2 := hfl _ (List.getElem_mem hm)
    generalize t.l[m] = k at *
    have h3 := fl_pos hk
    have hw : IntKind.i64.wrap (k.fl + 1) = k.fl + 1 := w64 (by omega) (by omega)
    have e2 : failK k j = ⟨k.tr.set j (shut k.tr[j]), k.dn, k.fl + 1⟩ := by simp [failK, hj, hw]
    rw [e2]
    have h4 : okB k.tr[j] = true := List.all_eq_true.1 h1 _ (List.getElem_mem hj)
    have h5 : okB (shut k.tr[j]) = true := h4
    exact ⟨may_set hma m (may_shrink hk (List.length_set ..) rfl (by show (0 : Int) ≤ k.fl + 1; omega) (open_set k.tr j hj _ rfl (fun h => by cases h))), timed_set ht m (all_set h1 j h5), set_fails hfl (by omega) m (by show k.fl + 1 ≤ b + 1; omega)⟩
theorem chg_fails {t : Tb} {n : Int} (h : failsT t n) (i : Int) {f : Tk → Tk} (hf : ∀ k, (f k).fl = k.fl) : failsT (chgT t i f) n := by
  unfold chgT
  cases he : t.l[i.toNat]? with
  | none => exact h
  | some k => exact set_fails h (Int.le_refl _) _ (by rw [hf]; exact h _ (List.mem_of_getElem? he))
theorem beat_fails {t : Tb} {b : Int} (h : failsT t b) (i n now : Int) : failsT (beatT t i n now) b := by
  unfold beatT
  split
  · exact chg_fails h i fun k => by unfold beatK; split <;> rfl
  · exact h
theorem finish_fails {t : Tb} {b : Int} (h : failsT t b) (i n : Int) : failsT (finishT t i n) b := by
  unfold finishT
  split
  · exact chg_fails h i fun k => rfl
  · exact h
theorem lose_fails {t : Tb} {b : Int} (h : failsT t b) (i n : Int) : failsT (loseT t i n) b := by
  unfold loseT
  split
  · exact chg_fails h i fun k => rfl
  · exact h
theorem start_fails {t : Tb} {b : Int} (h : failsT t b) (i worker now : Int) : failsT (startT t i worker now).1 b := by
  unfold startT
  cases he : t.l[i.toNat]? with
  | none => exact h
  | some k =>
    have hk := h _ (List.mem_of_getElem? he)
    by_cases h1 : isTaskT t i = true
    · by_cases h2 : busy k worker = true
      · simp only [h1, h2, if_true]; exact h
      · by_cases h3 : 500 ≤ k.tr.length
        · simp only [h1, h2, h3, if_true]; exact h
        · simp only [h1, h2, h3, if_true, if_false]
          exact set_fails h (Int.le_refl _) _ hk
    · simp only [h1]; exact h
theorem expire_keeps {t : Tb} (hma : mayT t = true) (ht : timedT t = true) (now : Int) {b : Int} (hfl : failsT t b) : mayT (expT t now) = true ∧ timedT (expT t now) = true ∧ failsT (expT t now) b := by
  have hx : ∀ x, okB (expX t.tm now x) = okB x := fun x => by unfold expX; split <;> rfl
  have hmt : ∀ x, (expX t.tm now x).w = x.w ∧ ((expX t.tm now x).o = true → x.o = true) := fun x => by
    unfold expX
    split
    · exact ⟨rfl, fun h => by cases h⟩
    · exact ⟨rfl, fun h => h⟩
  refine ⟨?_, ?_, ?_⟩
  · have h0 := hma
    simp only [mayT, Bool.and_eq_true, expT, List.length_map] at hma ⊢
    refine ⟨hma.1, hma.2.1, hma.2.2.1, ?_⟩
    rw [List.all_eq_true]
    intro k' hk'
    obtain ⟨k, hk, rfl⟩ := List.mem_map.1 hk'
    have h1 := List.all_eq_true.1 hma.2.2.2 k hk
    exact may_shrink h1 (List.length_map ..) rfl (by show (0 : Int) ≤ k.fl; exact fl_pos h1) (open_map _ hmt k.tr)
  · simp only [timedT, expT] at ht ⊢
    rw [List.all_eq_true] at ht ⊢
    intro k' hk'
    obtain ⟨k, hk, rfl⟩ := List.mem_map.1 hk'
    have h1 := ht k hk
    simp only [expK]
    rw [List.all_eq_true] at h1 ⊢
    intro y hy
    obtain ⟨x, hx2, rfl⟩ := List.mem_map.1 hy
    rw [hx]
    exact h1 x hx2
  · intro k' hk'
    obtain ⟨k, hk, rfl⟩ := List.mem_map.1 hk'
    exact hfl k hk
end Go.Proofs.Ytkjibelcaeanjaa.E
