import Derived.Test.YtmpomnnaoggdkaaLBundleScan
import Derived.Test.YtmpomnnaoggdkaaGBundleFind
-- bundles: what was written is read; what is read, written again
set_option linter.unusedVariables false
set_option linter.unusedSimpArgs false
set_option linter.unusedSectionVars false
namespace Go.Proofs.Ytmpomnnaoggdkaa.Pure
open Go.RowKit Go.Proofs.Ytmpomnnaoggdkaa.PA Go.Proofs.YtmpomnnaoggdkaaW.PrintWords Go.Proofs.YtmpomnnaoggdkaaW.PrintLast Go.Proofs.YtmpomnnaoggdkaaW.PrintMore
def eB (x : List ByteArray) : List Nat := frm (fld x 0) ++ vb (fld x 1).size
def dB (x : List ByteArray) : List Nat := sealed tbl (nats (fld x 1))
def asc : Option ByteArray → List (List ByteArray) → Prop
  | _, [] => True
  | p, x :: l => fileOk x ∧ after p (fld x 0) = true ∧ asc (some (fld x 0)) l
theorem bw_yes : ∀ (l : List (List ByteArray)) (p : Option ByteArray) (inn dat : List Nat), asc p l → bw p inn dat l = some (inn ++ l.flatMap eB, dat ++ l.flatMap dB)
  | [], p, inn, dat, _ => by simp [bw]
  | x :: l, p, inn, dat, h => by
    obtain ⟨h1, h2, h3⟩ := h
    unfold bw
    rw [if_pos ⟨h1, h2⟩, bw_yes l _ _ _ h3]
    simp [eB, dB, List.append_assoc]
theorem bw_asc : ∀ (l : List (List ByteArray)) (p : Option ByteArray) (inn dat : List Nat) (r : List Nat × List Nat), bw p inn dat l = some r → asc p l
  | [], p, inn, dat, r, _ => trivial
  | x :: l, p, inn, dat, r, h => by
    unfold bw at h
    split at h
    · rename_i hh
      exact ⟨hh.1, hh.2, bw_asc l _ _ _ r h⟩
    · cases h
theorem strs_nats_eq (s : ByteArray) : strOfNums (ci (nats s)) = s := by rw [← bytesOf_nats, strs_bytes]
theorem asc_ok : ∀ (l : List (List ByteArray)) (p : Option ByteArray), asc p l → ∀ x ∈ l, fileOk x
  | x :: l, p, h, y, hy => by
    rcases List.mem_cons.1 hy with rfl | hy
    · exact h.1
    · exact asc_ok l _ h.2.2 y hy
/-! there -/
theorem vframe_there {x : List ByteArray} (h : fileOk x) (r : List Nat) : vframe (eB x ++ r) 100 = (fld x 0, vb (fld x 1).size ++ r, 0) := by
  rw [eB, List.append_assoc, vframe_frm (by have := h.2.2.1; omega) (by omega), strs_nats_eq]
theorem vtake_there {x : List ByteArray} (h : fileOk x) (r : List Nat) : vtake (vb (fld x 1).size ++ r) = ((fld x 1).size, r, 0) := vtake_vb (by have := h.2.2.2; omega) r
def ensOf (base : Int) : List (List ByteArray) → List En
  | [] => []
  | x :: l => (⟨base - (((x :: l).flatMap eB).length : Int), fld x 0, ((fld x 1).size : Int)⟩ : En) :: ensOf base l
theorem ensOf_length (base : Int) : ∀ l, (ensOf base l).length = l.length
  | [] => rfl
  | x :: l => by simp [ensOf, ensOf_length base l]
theorem lastN_snoc (acc : List En) (e : En) : lastN (acc ++ [e]) = some e.f1 := by unfold lastN; simp
theorem ents_there (base : Int) : ∀ (l : List (List ByteArray)) (acc : List En), asc (lastN acc) l → ents base l.length (l.flatMap eB) acc = some (acc ++ ensOf base l)
  | [], acc, _ => by simp [ents, ensOf]
  | x :: l, acc, h => by
    obtain ⟨h1, h2, h3⟩ := h
    have hv := vframe_there h1 (l.flatMap eB)
    have ht := vtake_there h1 (l.flatMap eB)
    have hk : takeOk (eB x ++ l.flatMap eB) := by
      unfold takeOk
      rw [hv]
      dsimp only
      rw [ht]
      exact ⟨rfl, h1.2.1, rfl, h1.2.2.2⟩
    rw [List.length_cons, List.flatMap_cons]
    unfold ents
    rw [if_pos ⟨hk, by rw [hv]; exact h2⟩, hv]
    dsimp only
    rw [ht]
    dsimp only
    rw [ents_there base l _ (by rw [lastN_snoc]; exact h3)]
    simp [ensOf]
def pcsOf (base : Int) : List (List ByteArray) → List Pc
  | [] => []
  | x :: l => (⟨base - (((x :: l).flatMap eB).length : Int), [x]⟩ : Pc) :: pcsOf base l
theorem pcsOf_length (base : Int) : ∀ l, (pcsOf base l).length = l.length
  | [] => rfl
  | x :: l => by simp [pcsOf, pcsOf_length base l]
theorem pcsOf_at (base : Int) : ∀ (l : List (List ByteArray)) (i : Nat) (h : i < l.length) (h' : i < (pcsOf base l).length), (pcsOf base l)[i].f1 = [l[i]]
  | x :: l, 0, _, _ => rfl
  | x :: l, i + 1, h, h' => by
    simp only [pcsOf, List.getElem_cons_succ]
    exact pcsOf_at base l i (by simpa using h) _
theorem pcsOf_all (base : Int) : ∀ l, (pcsOf base l).flatMap (fun p => p.f1) = l
  | [] => rfl
  | x :: l => by simp [pcsOf, pcsOf_all base l]
theorem two_eq {x : List ByteArray} (h : x.length = 2) : [fld x 0, fld x 1] = x := by
  match x, h with
  | [a, b], _ => rfl
theorem scn_there {b : List Nat} (base : Int) : ∀ (l : List (List ByteArray)) (at' : Nat) (out : List Pc), (∀ x ∈ l, fileOk x) → at' ≤ b.length → b.drop at' = l.flatMap dB → scn b (ensOf base l) at' out = (out ++ pcsOf base l, (b.length : Int), 0)
  | [], at', out, _, hat, h => by
    have : b.length ≤ at' := by
      have := congrArg List.length h
      simp at this; omega
    simp only [ensOf, scn, pcsOf, List.append_nil]
    rw [if_neg (by omega), show at' = b.length by omega]
  | x :: l, at', out, hx, hat, h => by
    have hf := hx x (by simp)
    rw [List.flatMap_cons] at h
    have hdl : (dB x).length = (fld x 1).size + 4 := by rw [dB, sealed_length, nats_length]
    have hlen := congrArg List.length h
    rw [List.length_drop, List.length_append, hdl] at hlen
    have hpc : (b.take (at' + (fld x 1).size + 4)).drop at' = dB x := by
      rw [List.drop_take, h, List.take_append_of_le_length (by omega), List.take_of_length_le (by omega)]
    have hop : opened tbl (dB x) = (nats (fld x 1), 0) := open_sealed tbl _
    have hdr : b.drop (at' + (fld x 1).size + 4) = l.flatMap dB := by
      rw [Nat.add_assoc, ← List.drop_drop, h, ← hdl, List.drop_left]
    unfold ensOf scn
    simp only [Int.toNat_natCast]
    rw [hpc, hop, if_pos ⟨by omega, rfl⟩, scn_there base l _ _ (fun y hy => hx y (by simp [hy])) (by omega) hdr, pcOf, strs_nats_eq, two_eq hf.1]
    simp [pcsOf]
theorem all_lt_flat {f : List ByteArray → List Nat} (hf : ∀ x, ∀ y ∈ f x, y < 256) (l : List (List ByteArray)) : ∀ y ∈ l.flatMap f, y < 256 := by
  intro y hy
  obtain ⟨x, _, h⟩ := List.mem_flatMap.1 hy
  exact hf x y h
theorem eB_lt (x : List ByteArray) : ∀ y ∈ eB x, y < 256 := all_lt_append (frm_lt _) (vb_lt _)
theorem dB_lt (x : List ByteArray) : ∀ y ∈ dB x, y < 256 := sealed_lt tbl (nats_lt _)
def innOf (l : List (List ByteArray)) : List Nat := vb l.length ++ l.flatMap eB
theorem innOf_lt (l : List (List ByteArray)) : ∀ y ∈ innOf l, y < 256 := all_lt_append (vb_lt _) (all_lt_flat eB_lt l)
theorem bundled_yes {l : List (List ByteArray)} (h : asc none l) (hl : l.length ≤ 1000) : bundled l = (vb (sealed tbl (innOf l)).length ++ sealed tbl (innOf l) ++ l.flatMap dB, 0) := by
  unfold bundled
  rw [if_neg (by omega), bw_yes l none _ _ h]
  simp [bwEnd, innOf]
theorem bundled_asc {l : List (List ByteArray)} (h : (bundled l).2 = 0) : asc none l ∧ l.length ≤ 1000 := by
  unfold bundled at h
  split at h
  · exact absurd h (by decide)
  · refine ⟨?_, by omega⟩
    cases hb : bw none (vb l.length) [] l with
    | none => rw [hb] at h; exact absurd h (by decide)
    | some r => exact bw_asc l none _ _ r hb
theorem eB_length {x : List ByteArray} (h : fileOk x) : (eB x).length ≤ 120 := by
  have h1 := frm_length (fld x 0) (by have := h.2.2.1; omega)
  have h2 := vb_length_le10 (n := (fld x 1).size) (by have := h.2.2.2; omega)
  have := h.2.2.1
  rw [eB, List.length_append]; omega
theorem flat_eB_length : ∀ (l : List (List ByteArray)), (∀ x ∈ l, fileOk x) → (l.flatMap eB).length ≤ l.length * 120
  | [], _ => by simp
  | x :: l, h => by
    have := eB_length (h x (by simp))
    have ih := flat_eB_length l (fun y hy => h y (by simp [hy]))
    rw [List.flatMap_cons, List.length_append, List.length_cons, Nat.succ_mul]; omega
theorem listOf_there {l : List (List ByteArray)} (h : asc none l) (hl : l.length ≤ 1000) : ∃ base : Int, listOf (bundled l).1 = (ensOf base l, (((vb (sealed tbl (innOf l)).length).length + (sealed tbl (innOf l)).length : Nat) : Int), 0) := by
  rw [bundled_yes h hl]
  have he := flat_eB_length l (asc_ok l none h)
  have hv := vb_length_le10 (n := l.length) (by omega)
  have hs : (sealed tbl (innOf l)).length ≤ 200000 := by rw [sealed_length, innOf, List.length_append]; omega
  generalize hS : sealed tbl (innOf l) = S at *
  have ht : vtake (vb S.length ++ S ++ l.flatMap dB) = (S.length, S ++ l.flatMap dB, 0) := by
    rw [List.append_assoc]; exact vtake_vb (by omega) _
  have ho : opened tbl S = (innOf l, 0) := by rw [← hS]; exact open_sealed tbl _
  have hk : listOk (vb S.length ++ S ++ l.flatMap dB) := by
    unfold listOk
    rw [ht]
    dsimp only
    rw [List.take_left, ho]
    exact ⟨rfl, by rw [List.length_append]; omega, rfl⟩
  have hen : ∀ f0, ∃ base : Int, entsOf f0 (innOf l) = some (ensOf base l) := by
    intro f0
    have hvt : vtake (innOf l) = (l.length, l.flatMap eB, 0) := vtake_vb (by omega) _
    unfold entsOf
    rw [hvt]
    refine ⟨(f0 : Int) + ((innOf l).length : Int), ?_⟩
    rw [if_pos ⟨rfl, hl⟩, ents_there _ l [] (by exact h), List.nil_append]
  obtain ⟨base, hb⟩ := hen ((vb S.length ++ S ++ l.flatMap dB).length - (S ++ l.flatMap dB).length)
  refine ⟨base, ?_⟩
  unfold listOf
  rw [if_pos hk, ht]
  dsimp only
  rw [List.take_left, ho]
  dsimp only
  rw [hb]
  have e : (vb S.length ++ S ++ l.flatMap dB).length - (S ++ l.flatMap dB).length = (vb S.length).length := by
    rw [List.append_assoc, List.length_append]; omega
  rw [e]
  rfl
theorem scanOf_there {l : List (List ByteArray)} (h : asc none l) (hl : l.length ≤ 1000) : ∃ base : Int, listOf (bundled l).1 = (ensOf base l, (((vb (sealed tbl (innOf l)).length).length + (sealed tbl (innOf l)).length : Nat) : Int), 0) ∧ scanOf (bundled l).1 = (pcsOf base l, ((bundled l).1.length : Int), 0) := by
  obtain ⟨base, hb⟩ := listOf_there h hl
  refine ⟨base, hb, ?_⟩
  unfold scanOf
  rw [hb]
  dsimp only
  rw [if_pos rfl, Int.toNat_natCast, scn_there base l _ [] (asc_ok l none h) ?_ ?_, List.nil_append]
  · rw [bundled_yes h hl]; simp only [List.length_append]; omega
  · rw [bundled_yes h hl, ← List.length_append, List.drop_left]
/-! each file is found -/
theorem bytes_less_eq : ∀ (x y : List UInt8), Op.bytesLess x y = decide (x < y)
  | [], [] => by simp [Op.bytesLess]
  | _ :: _, [] => by simp [Op.bytesLess]
  | [], _ :: _ => by simp [Op.bytesLess]
  | a :: x, b :: y => by
    rw [Op.bytesLess, bytes_less_eq x y]
    simp only [List.cons_lt_cons_iff]
    by_cases h1 : a < b <;> by_cases h2 : a = b <;> by_cases h3 : x < y <;> simp [h1, h2, h3]
theorem bytesLess_trans {a b c : List UInt8} (h1 : Op.bytesLess a b = true) (h2 : Op.bytesLess b c = true) : Op.bytesLess a c = true := by
  rw [bytes_less_eq, decide_eq_true_iff] at h1 h2 ⊢
  exact List.lt_trans h1 h2
theorem bytesLess_irrefl (a : List UInt8) : Op.bytesLess a a = false := by
  rw [bytes_less_eq, decide_eq_false_iff_not]
  exact List.lt_irrefl a
theorem asc_after : ∀ (l : List (List ByteArray)) (t : ByteArray), asc (some t) l → ∀ x ∈ l, Op.bytesLess t.toList (fld x 0).toList = true
  | x :: l, t, h, y, hy => by
    rcases List.mem_cons.1 hy with rfl | hy
    · exact h.2.1
    · exact bytesLess_trans h.2.1 (asc_after l _ h.2.2 y hy)
theorem findIdx_there (base : Int) : ∀ (l : List (List ByteArray)) (p : Option ByteArray), asc p l → ∀ (i : Nat) (h : i < l.length), (ensOf base l).findIdx (isName (fld l[i] 0)) = i
  | x :: l, p, ha, 0, h => by
    simp only [ensOf, List.findIdx_cons, List.getElem_cons_zero, isName]
    simp
  | x :: l, p, ha, i + 1, h => by
    have hi : i < l.length := by simpa using h
    have hlt := asc_after l _ ha.2.2 l[i] (List.getElem_mem hi)
    have ih := findIdx_there base l _ ha.2.2 i hi
    simp only [ensOf, List.findIdx_cons, List.getElem_cons_succ]
    have hne : isName (fld l[i] 0) (⟨base - (((x :: l).flatMap eB).length : Int), fld x 0, ((fld x 1).size : Int)⟩ : En) = false := by
      unfold isName
      rw [beq_eq_false_iff_ne]
      intro he
      dsimp only at he
      rw [he, bytesLess_irrefl] at hlt
      exact absurd hlt (by decide)
    rw [hne, ih]
    rfl
theorem find_there {l : List (List ByteArray)} (h : asc none l) (hl : l.length ≤ 1000) (hb : (bundled l).1.length ≤ 1000000) (hb2 : ∀ x ∈ (bundled l).1, x < 256) (i : Nat) (hi : i < l.length) :
    Ev (fun k => bundle_Find.f k (ci (bundled l).1) (fld l[i] 0)) (fld l[i] 1, 0) := by
  obtain ⟨base, h1, h2⟩ := scanOf_there h hl
  have hf := asc_ok l none h l[i] (List.getElem_mem hi)
  have hidx : idxE (ensOf base l) (fld l[i] 0) = (i : Int) := by
    unfold idxE
    rw [findIdx_there base l none h i hi, if_pos (by rw [ensOf_length]; exact hi)]
  have hP : i < (pcsOf base l).length := by rw [pcsOf_length]; exact hi
  have e1 : (rd_T45 (pcsOf base l) (i : Int)).f1 = [l[i]] := by rw [rdP_at _ i hP]; exact pcsOf_at base l i hi hP
  have e2 : rd_L1 [l[i]] 0 = l[i] := rfl
  have h2' := hf.1
  simp only [bundle_Find.f]
  refine Ev.bind (list_ev hb2 hb) ?_
  rw [h1]
  refine Ev.pos rfl (Ev.bind (scan_ev hb2 hb) ?_)
  rw [h2]
  dsimp only
  rw [hidx, e1, e2]
  refine Ev.neg (by omega) (Ev.neg (by omega) (Ev.pos (by simp) (Ev.pos (by omega) (Ev.done ?_))))
  rfl
/-! back -/
theorem opened_ok {t s : List Nat} (h : (opened t s).2 = 0) : s = sealed t (opened t s).1 := by
  unfold opened at h ⊢
  split at h
  · exact absurd h (by decide)
  · rename_i h1
    split at h
    · rename_i h2
      rw [if_neg h1, if_pos h2, sealed, h2, List.take_append_drop]
    · exact absurd h (by decide)
theorem vframe_small {s : List Nat} {k : Nat} (h : (vframe s (k : Int)).2.2 = 0) : (vframe s (k : Int)).1.size ≤ k := by
  unfold vframe at h ⊢
  split
  · rename_i h0
    rw [if_pos h0] at h
    split
    · exact Nat.zero_le _
    · rename_i h1
      rw [if_neg h1] at h
      split
      · exact Nat.zero_le _
      · rw [strs_sz, ci_length, List.length_take]
        omega
  · exact Nat.zero_le _
def Fits : List En → List (List ByteArray) → Prop
  | [], [] => True
  | e :: L, x :: l => (x.length = 2 ∧ fld x 0 = e.f1 ∧ ((fld x 1).size : Int) = e.f2) ∧ Fits L l
  | _, _ => False
theorem Fits.length : ∀ {L : List En} {l : List (List ByteArray)}, Fits L l → l.length = L.length
  | [], [], _ => rfl
  | e :: L, x :: l, h => by rw [List.length_cons, List.length_cons, Fits.length h.2]
theorem ents_back (base : Int) : ∀ (n : Nat) (r : List Nat) (acc L' : List En), (∀ x ∈ r, x < 256) → ents base n r acc = some L' → ∃ L, L' = acc ++ L ∧ L.length = n ∧ ∀ l, Fits L l → asc (lastN acc) l ∧ r = l.flatMap eB
  | 0, r, acc, L', hr, h => by
    unfold ents at h
    split at h
    · rename_i h0
      cases h
      refine ⟨[], by simp, rfl, fun l hl => ?_⟩
      cases l with
      | nil => exact ⟨trivial, by rw [h0]; rfl⟩
      | cons x l => exact hl.elim
    · cases h
  | n + 1, r, acc, L', hr, h => by
    unfold ents at h
    split at h
    · rename_i hk
      obtain ⟨⟨k1, k2, k3, k4⟩, k5⟩ := hk
      obtain ⟨h1, h2⟩ := rest_take hr
      obtain ⟨L, e1, e2, e3⟩ := ents_back base n _ _ L' h1 h
      have hv := vframe_ok hr k1
      have hvr := (vframe_rest r 100).2
      have ht := (vtake_ok (s := (vframe r 100).2.1) (fun x hx => hr x (hvr x hx)) k3).2
      have hsm := vframe_small (s := r) (k := 100) k1
      refine ⟨_ :: L, by rw [e1, List.append_assoc]; rfl, by rw [List.length_cons, e2], fun l hl => ?_⟩
      cases l with
      | nil => exact hl.elim
      | cons x l =>
        obtain ⟨⟨f1, f2, f3⟩, f4⟩ := hl
        obtain ⟨g1, g2⟩ := e3 l f4
        rw [lastN_snoc] at g1
        dsimp only at f2 f3 g1
        have f3' : (fld x 1).size = (vtake (vframe r 100).2.1).1 := by omega
        refine ⟨⟨⟨f1, by rw [f2]; exact k2, by rw [f2]; exact hsm, by omega⟩, by rw [f2]; exact k5, by rw [f2]; exact g1⟩, ?_⟩
        rw [List.flatMap_cons, ← g2, eB, f2, f3', List.append_assoc, ht, hv]
    · cases h
theorem scn_back {b : List Nat} (hb : ∀ x ∈ b, x < 256) : ∀ (L : List En) (at' : Nat) (out P : List Pc) (g : Int), (∀ x ∈ L, 0 ≤ x.f2 ∧ x.f2 ≤ 1000) → at' ≤ b.length → scn b L at' out = (P, g, 0) →
    ∃ l, P.flatMap (fun p => p.f1) = out.flatMap (fun p => p.f1) ++ l ∧ Fits L l ∧ b.drop at' = l.flatMap dB
  | [], at', out, P, g, _, hat, h => by
    simp only [scn, Prod.mk.injEq] at h
    obtain ⟨rfl, _, h3⟩ := h
    refine ⟨[], by simp, trivial, ?_⟩
    have : ¬ at' < b.length := by
      intro hlt
      rw [if_pos hlt] at h3
      exact absurd h3 (by decide)
    rw [List.drop_eq_nil_of_le (by omega)]
    rfl
  | e :: L, at', out, P, g, hL, hat, h => by
    obtain ⟨he0, he1⟩ := hL e (by simp)
    unfold scn at h
    split at h
    · rename_i hh
      obtain ⟨h1, h2⟩ := hh
      obtain ⟨l, g1, g2, g3⟩ := scn_back hb L _ _ P g (fun x hx => hL x (by simp [hx])) h1 h
      have hop := opened_ok h2
      have hpl : ((b.take (at' + e.f2.toNat + 4)).drop at').length = e.f2.toNat + 4 := by rw [List.length_drop, List.length_take]; omega
      have hlt : ∀ x ∈ (opened tbl ((b.take (at' + e.f2.toNat + 4)).drop at')).1, x < 256 := fun x hx => hb x (List.mem_of_mem_take (List.mem_of_mem_drop ((opened_rest _ _).2 x hx)))
      generalize hs : (opened tbl ((b.take (at' + e.f2.toNat + 4)).drop at')).1 = s at *
      have hsl : s.length = e.f2.toNat := by
        have := congrArg List.length hop
        rw [hpl, sealed_length] at this
        omega
      refine ⟨[e.f1, strOfNums (ci s)] :: l, ?_, ⟨⟨rfl, rfl, ?_⟩, g2⟩, ?_⟩
      · rw [g1]; simp [pcOf]
      · show ((strOfNums (ci s)).size : Int) = e.f2
        rw [strs_size hlt, hsl]; omega
      · rw [List.flatMap_cons, ← g3]
        have : dB [e.f1, strOfNums (ci s)] = sealed tbl s := by
          show sealed tbl (nats (strOfNums (ci s))) = _
          rw [nats_strs hlt]
        rw [this, ← hop, List.drop_take, Nat.add_assoc, ← List.drop_drop]
        rw [show at' + (e.f2.toNat + 4) - at' = e.f2.toNat + 4 by omega]
        exact (List.take_append_drop _ _).symm
    · simp only [Prod.mk.injEq] at h
      exact absurd h.2.2 (by decide)
theorem scan_back {b : List Nat} (hb : ∀ x ∈ b, x < 256) (h : (scanOf b).2.2 = 0) : asc none ((scanOf b).1.flatMap (fun p => p.f1)) ∧ ((scanOf b).1.flatMap (fun p => p.f1)).length ≤ 1000 ∧ bundled ((scanOf b).1.flatMap (fun p => p.f1)) = (b, 0) := by
  obtain ⟨hL1, hL2⟩ := listOf_ok b
  unfold scanOf at h ⊢
  by_cases h0 : (listOf b).2.2 = 0
  · rw [if_pos h0] at h ⊢
    have hk : listOk b := by
      unfold listOf at h0
      split at h0
      · assumption
      · exact absurd h0 (by simp)
    have e : listOf b = ((entRes (entsOf (b.length - (vtake b).2.1.length) (opened tbl ((vtake b).2.1.take (vtake b).1)).1)).1, ((b.length - (vtake b).2.1.length + (vtake b).1 : Nat) : Int), (entRes (entsOf (b.length - (vtake b).2.1.length) (opened tbl ((vtake b).2.1.take (vtake b).1)).1)).2) := by unfold listOf; rw [if_pos hk]
    obtain ⟨k1, k2, k3⟩ := hk
    obtain ⟨hv1, hv2⟩ := vtake_ok hb k1
    have hvr := vtake_rest (s := b)
    have hop := opened_ok k3
    have hilt : ∀ x ∈ (opened tbl ((vtake b).2.1.take (vtake b).1)).1, x < 256 := fun x hx => hb x (hvr.2 x (List.mem_of_mem_take ((opened_rest _ _).2 x hx)))
    rw [e] at h0 h hL1 hL2 ⊢
    dsimp only at h0 h hL1 hL2 ⊢
    generalize hinn : (opened tbl ((vtake b).2.1.take (vtake b).1)).1 = inn at *
    generalize hrest : (vtake b).2.1 = rest at *
    generalize hn : (vtake b).1 = n at *
    cases he : entsOf (b.length - rest.length) inn with
    | none => rw [he] at h0; exact absurd h0 (by decide)
    | some L =>
      rw [he] at h hL1 hL2
      simp only [entRes] at h hL1 hL2 ⊢
      rw [Int.toNat_natCast] at h ⊢
      unfold entsOf at he
      split at he
      · rename_i hc
        obtain ⟨hi1, hi2⟩ := vtake_ok hilt hc.1
        have hir := (vtake_rest (s := inn)).2
        obtain ⟨L', q1, q2, q3⟩ := ents_back _ _ _ _ _ (fun x hx => hilt x (hir x hx)) he
        rw [List.nil_append] at q1
        subst q1
        obtain ⟨P, g, hs⟩ : ∃ P g, scn b L (b.length - rest.length + n) [] = (P, g, 0) := ⟨_, _, Prod.ext rfl (Prod.ext rfl h)⟩
        obtain ⟨l, w1, w2, w3⟩ := scn_back hb L _ _ P g hL1 (by omega) hs
        rw [hs]
        dsimp only
        rw [w1, List.flatMap_nil, List.nil_append]
        obtain ⟨z1, z2⟩ := q3 l w2
        have hll := w2.length
        have hl : l.length ≤ 1000 := by omega
        refine ⟨z1, hl, ?_⟩
        rw [bundled_yes z1 hl]
        have einn : innOf l = inn := by
          unfold innOf
          rw [hll, q2, ← z2]; exact hi2
        have eS : sealed tbl inn = rest.take n := hop.symm
        rw [einn, eS, List.length_take, Nat.min_eq_left k2]
        congr 1
        have hbl : b.length - rest.length = (vb n).length := by
          have := congrArg List.length hv2
          rw [List.length_append] at this
          omega
        rw [hbl] at w3
        have w4 : rest.drop n = l.flatMap dB := by
          rw [← w3]
          conv => rhs; rw [← hv2]
          rw [← List.drop_drop, List.drop_left]
        rw [← w4, List.append_assoc, List.take_append_drop]
        exact hv2
      · cases he
  · rw [if_neg h0] at h
    exact absurd h h0
end Go.Proofs.Ytmpomnnaoggdkaa.Pure
