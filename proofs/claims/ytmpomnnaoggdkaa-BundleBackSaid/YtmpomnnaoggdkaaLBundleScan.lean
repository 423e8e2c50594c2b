import Derived.Test.YtmpomnnaoggdkaaLBundle
import Derived.Test.YtmpomnnaoggdkaaLText
import Derived.Test.YtmpomnnaoggdkaaPAx6
import Derived.Test.YtmpomnnaoggdkaaPAx7
import Derived.Test.YtmpomnnaoggdkaaPAx12
import Derived.Test.YtmpomnnaoggdkaaPAx5
import Derived.Test.YtmpomnnaoggdkaaPAx4
-- bundles, read
set_option linter.unusedVariables false
set_option linter.unusedSimpArgs false
set_option linter.unusedSectionVars false
namespace Go.Proofs.Ytmpomnnaoggdkaa.Pure
open Go.RowKit Go.Proofs.Ytmpomnnaoggdkaa.PA Go.Proofs.YtmpomnnaoggdkaaW.PrintWords Go.Proofs.YtmpomnnaoggdkaaW.PrintLast Go.Proofs.YtmpomnnaoggdkaaW.PrintMore
abbrev En := S61
abbrev Pc := S45
theorem rdE_at (l : List En) (i : Nat) (h : i < l.length) : rd_T61 l (i : Int) = l[i] := by
  unfold rd_T61
  rw [Int.toNat_natCast, List.getD_eq_getElem?_getD, List.getElem?_eq_getElem h]; rfl
theorem rdP_at (l : List Pc) (i : Nat) (h : i < l.length) : rd_T45 l (i : Int) = l[i] := by
  unfold rd_T45
  rw [Int.toNat_natCast, List.getD_eq_getElem?_getD, List.getElem?_eq_getElem h]; rfl
theorem Ev.ip {α : Type} {c : Prop} [Decidable c] {f : Nat → Option α} {a b : α} (h : c) (k : Ev f a) : Ev f (if c then a else b) := by rw [if_pos h]; exact k
theorem Ev.im {α : Type} {c : Prop} [Decidable c] {f : Nat → Option α} {a b : α} (h : ¬ c) (k : Ev f b) : Ev f (if c then a else b) := by rw [if_neg h]; exact k
/-! an entry -/
def takeOk (r : List Nat) : Prop := (vframe r 100).2.2 = 0 ∧ 1 ≤ (vframe r 100).1.size ∧ (vtake (vframe r 100).2.1).2.2 = 0 ∧ (vtake (vframe r 100).2.1).1 ≤ 1000
instance (r : List Nat) : Decidable (takeOk r) := by unfold takeOk; infer_instance
theorem takeE_ev {r : List Nat} (hr : ∀ x ∈ r, x < 256) (hl : r.length ≤ 1000000) :
    Ev (fun k => bundle_take.f k (ci r)) (if takeOk r then (0, (vframe r 100).1, ((vtake (vframe r 100).2.1).1 : Int), ci (vtake (vframe r 100).2.1).2.1, 0) else (0, (⟨#[]⟩ : ByteArray), 0, [], 3)) := by
  obtain ⟨h1, h2⟩ := vframe_rest r 100
  have h3 := vtake_lt (s := (vframe r 100).2.1) (fun x hx => hr x (h2 x hx))
  have bad : ∀ (x : List Int) (s : ByteArray), Ev (fun k => bundle_take.j0 k x s true) (0, (⟨#[]⟩ : ByteArray), 0, [], 3) := fun x s => Ev.succ (by
    simp only [bundle_take.j0]; exact Ev.pos trivial (Ev.now _))
  simp only [bundle_take.f]
  refine Ev.bind (takeFrame_ev hr (by omega) (k := 100) (by omega) (by omega)) ?_
  dsimp only
  by_cases e0 : (vframe r 100).2.2 = 0
  · refine Ev.pos (by omega) ?_
    by_cases e1 : (vframe r 100).1.size = 0
    · rw [show ((vframe r 100).1.toList == []) = true by rw [(empty_iff _).2 e1]; rfl]
      exact Ev.im (fun h => by have := h.2.1; omega) (bad _ _)
    · rw [show ((vframe r 100).1.toList == []) = false by rw [beq_eq_false_iff_ne]; exact fun h => e1 ((empty_iff _).1 h)]
      refine Ev.succ ?_
      simp only [bundle_take.j0]
      refine Ev.neg (by decide) (Ev.bind (take_ev (fun x hx => hr x (h2 x hx)) (by omega)) ?_)
      dsimp only
      by_cases e2 : (vtake (vframe r 100).2.1).2.2 = 0
      · refine Ev.pos (by omega) ?_
        by_cases e3 : (vtake (vframe r 100).2.1).1 ≤ 1000
        · refine Ev.ip ⟨e0, by omega, e2, e3⟩ (Ev.neg (by omega) (Ev.done ?_))
          rw [w64n _ (by omega)]
        · exact Ev.im (fun h => e3 h.2.2.2) (Ev.pos (by omega) (Ev.now _))
      · exact Ev.im (fun h => e2 h.2.2.1) (Ev.neg (by omega) (Ev.now _))
  · exact Ev.im (fun h => e0 h.1) (Ev.neg (by omega) (bad _ _))
/-! the entries -/
def lastN (acc : List En) : Option ByteArray := acc.getLast?.map (fun x => x.f1)
def ents (base : Int) : Nat → List Nat → List En → Option (List En)
  | 0, r, acc => if r = [] then some acc else none
  | n + 1, r, acc => if takeOk r ∧ after (lastN acc) (vframe r 100).1 = true then
      ents base n (vtake (vframe r 100).2.1).2.1 (acc ++ [(⟨base - (r.length : Int), (vframe r 100).1, ((vtake (vframe r 100).2.1).1 : Int)⟩ : En)]) else none
def entRes : Option (List En) → List En × Int
  | none => ([], 3)
  | some L => (L, 0)
theorem lastN_some (acc : List En) (h : 0 < acc.length) : lastN acc = some (acc[acc.length - 1].f1) := by
  unfold lastN
  rw [List.getLast?_eq_getElem?, List.getElem?_eq_getElem (by omega)]; rfl
theorem rest_take {r : List Nat} (hr : ∀ x ∈ r, x < 256) : (∀ x ∈ (vtake (vframe r 100).2.1).2.1, x < 256) ∧ (vtake (vframe r 100).2.1).2.1.length ≤ r.length := by
  obtain ⟨h1, h2⟩ := vframe_rest r 100
  obtain ⟨h3, h4⟩ := vtake_rest (s := (vframe r 100).2.1)
  exact ⟨fun x hx => hr x (h2 x (h4 x hx)), by omega⟩
theorem ents_loop (frm0 all cnt : Nat) (ha : all ≤ 1000000) (hf : frm0 ≤ 1000000) (hc : cnt ≤ 1000) : ∀ (d j : Nat) (r : List Nat) (acc : List En), j + d = cnt → acc.length = j → (∀ x ∈ r, x < 256) → r.length ≤ all →
    Ev (fun k => bundle_entries.l0 k (ci r) (frm0 : Int) (all : Int) acc (cnt : Int) (j : Int)) (entRes (ents ((frm0 : Int) + (all : Int)) d r acc))
  | 0, j, r, acc, hj, hacc, hr, hl => by
    refine Ev.succ ?_
    simp only [bundle_entries.l0, ents, ci_length]
    refine Ev.neg (by omega) ?_
    by_cases h : r = []
    · rw [if_pos h]
      exact Ev.neg (by rw [h]; simp) (Ev.now _)
    · rw [if_neg h]
      have : 0 < r.length := List.length_pos_iff.2 h
      exact Ev.pos (by omega) (Ev.now _)
  | d + 1, j, r, acc, hj, hacc, hr, hl => by
    refine Ev.succ ?_
    simp only [bundle_entries.l0, ci_length]
    unfold ents
    refine Ev.pos (by omega) (Ev.bind (takeE_ev hr (by omega)) ?_)
    by_cases h : takeOk r
    · rw [if_pos h]
      dsimp only
      obtain ⟨h1, h2⟩ := rest_take hr
      have ih := ents_loop frm0 all cnt ha hf hc d (j + 1) (vtake (vframe r 100).2.1).2.1 (acc ++ [(⟨((frm0 : Int) + (all : Int)) - (r.length : Int), (vframe r 100).1, ((vtake (vframe r 100).2.1).1 : Int)⟩ : En)]) (by omega) (by rw [List.length_append, hacc]; rfl) h1 (by omega)
      have hw : wrap64 (wrap64 ((frm0 : Int) + (all : Int)) - (r.length : Int)) = ((frm0 : Int) + (all : Int)) - (r.length : Int) := by
        rw [w64 (x := (frm0 : Int) + (all : Int)) (by omega) (by omega), w64 (by omega) (by omega)]
      have hj1 : IntKind.u64.wrap ((j : Int) + 1) = ((j + 1 : Nat) : Int) := by rw [u64wrap]; omega
      refine Ev.pos rfl ?_
      by_cases h0 : 0 < acc.length
      · refine Ev.pos (by omega) ?_
        have ew : wrap64 ((acc.length : Int) - 1) = ((acc.length - 1 : Nat) : Int) := by rw [w64 (by omega) (by omega)]; omega
        rw [ew, rdE_at acc _ (by omega), lastN_some acc h0, hw, hj1]
        refine Ev.pos (by omega) (Ev.pos (by omega) ?_)
        cases hb : Op.bytesLess (acc[acc.length - 1].f1).toList (vframe r 100).1.toList with
        | true =>
          rw [if_pos ⟨h, hb⟩]
          exact Ev.pos rfl (Ev.pos (by omega) ih)
        | false =>
          rw [if_neg (fun hh => by have := hh.2; simp only [after] at this; rw [hb] at this; exact absurd this (by decide))]
          exact Ev.neg (by decide) (Ev.now _)
      · have hn : acc = [] := List.eq_nil_of_length_eq_zero (by omega)
        rw [if_pos ⟨h, by rw [hn]; rfl⟩, hw, hj1]
        exact Ev.neg (by omega) (Ev.pos (by omega) ih)
    · rw [if_neg h, if_neg (fun hh => h hh.1)]
      exact Ev.neg (by decide) (Ev.now _)
def entsOf (frm0 : Nat) (inn : List Nat) : Option (List En) := if (vtake inn).2.2 = 0 ∧ (vtake inn).1 ≤ 1000 then ents ((frm0 : Int) + (inn.length : Int)) (vtake inn).1 (vtake inn).2.1 [] else none
theorem entries_ev (frm0 : Nat) {inn : List Nat} (hi : ∀ x ∈ inn, x < 256) (hl : inn.length ≤ 1000000) (hf : frm0 ≤ 1000000) : Ev (fun k => bundle_entries.f k (ci inn) (frm0 : Int)) (entRes (entsOf frm0 inn)) := by
  obtain ⟨h1, h2⟩ := vtake_rest (s := inn)
  have bad : ∀ (x : List Int) (a b c : Int), Ev (fun k => bundle_entries.j0 k x a b c true) ([], 3) := fun x a b c => Ev.succ (by
    simp only [bundle_entries.j0]; exact Ev.pos trivial (Ev.now _))
  simp only [bundle_entries.f, ci_length]
  unfold entsOf
  refine Ev.bind (take_ev hi (by omega)) ?_
  dsimp only
  by_cases e0 : (vtake inn).2.2 = 0
  · refine Ev.pos (by omega) ?_
    by_cases e1 : (vtake inn).1 ≤ 1000
    · rw [if_pos ⟨e0, e1⟩, decide_eq_false (by omega)]
      refine Ev.succ ?_
      simp only [bundle_entries.j0]
      exact Ev.neg (by decide) (ents_loop frm0 inn.length (vtake inn).1 hl hf e1 (vtake inn).1 0 (vtake inn).2.1 [] (by omega) rfl (fun x hx => hi x (h2 x hx)) h1)
    · rw [if_neg (fun h => e1 h.2), decide_eq_true (by omega)]
      exact bad _ _ _ _
  · rw [if_neg (fun h => e0 h.1)]
    exact Ev.neg (by omega) (bad _ _ _ _)
/-! the list -/
def listOk (b : List Nat) : Prop := (vtake b).2.2 = 0 ∧ (vtake b).1 ≤ (vtake b).2.1.length ∧ (opened tbl ((vtake b).2.1.take (vtake b).1)).2 = 0
instance (b : List Nat) : Decidable (listOk b) := by unfold listOk; infer_instance
def listOf (b : List Nat) : List En × Int × Int := if listOk b then
    ((entRes (entsOf (b.length - (vtake b).2.1.length) (opened tbl ((vtake b).2.1.take (vtake b).1)).1)).1, ((b.length - (vtake b).2.1.length + (vtake b).1 : Nat) : Int), (entRes (entsOf (b.length - (vtake b).2.1.length) (opened tbl ((vtake b).2.1.take (vtake b).1)).1)).2)
  else ([], 0, 3)
theorem opened_rest (t s : List Nat) : (opened t s).1.length ≤ s.length ∧ ∀ x ∈ (opened t s).1, x ∈ s := by
  unfold opened
  split
  · simp
  · split
    · exact ⟨by rw [List.length_take]; omega, fun x hx => List.mem_of_mem_take hx⟩
    · simp
theorem list_ev {b : List Nat} (hb : ∀ x ∈ b, x < 256) (hl : b.length ≤ 1000000) : Ev (fun k => bundle_list.f k (ci b)) (listOf b) := by
  obtain ⟨h1, h2⟩ := vtake_rest (s := b)
  have h3 := vtake_lt hb
  have bad : ∀ (x y : List Int) (a : Int), Ev (fun k => bundle_list.j0 k x a y true) ([], 0, 3) := fun x y a => Ev.succ (by
    simp only [bundle_list.j0]; exact Ev.pos trivial (Ev.now _))
  simp only [bundle_list.f]
  unfold listOf
  refine Ev.bind (take_ev hb (by omega)) ?_
  dsimp only
  rw [ci_length, wu64, Nat.mod_eq_of_lt (by omega)]
  by_cases e0 : (vtake b).2.2 = 0
  · refine Ev.pos (by omega) ?_
    by_cases e1 : (vtake b).1 ≤ (vtake b).2.1.length
    · rw [decide_eq_false (by omega)]
      refine Ev.succ ?_
      simp only [bundle_list.j0, ci_length]
      have ht : ∀ x ∈ (vtake b).2.1.take (vtake b).1, x < 256 := fun x hx => hb x (h2 x (List.mem_of_mem_take hx))
      have htl : ((vtake b).2.1.take (vtake b).1).length ≤ 1000000 := by rw [List.length_take]; omega
      refine Ev.neg (by decide) (Ev.bind table_ev (Ev.pos (by omega) (Ev.pos (by omega) ?_)))
      rw [Int.toNat_natCast, ci_take]
      refine Ev.bind (open_ev tbl_length tbl_lt ht (by omega)) ?_
      dsimp only
      by_cases e2 : (opened tbl ((vtake b).2.1.take (vtake b).1)).2 = 0
      · rw [if_pos ⟨e0, e1, e2⟩]
        obtain ⟨h4, h5⟩ := opened_rest tbl ((vtake b).2.1.take (vtake b).1)
        have ew : wrap64 ((b.length : Int) - ((vtake b).2.1.length : Int)) = ((b.length - (vtake b).2.1.length : Nat) : Int) := by rw [w64 (by omega) (by omega)]; omega
        have ew2 : wrap64 (((b.length - (vtake b).2.1.length : Nat) : Int) + ((vtake b).1 : Int)) = ((b.length - (vtake b).2.1.length + (vtake b).1 : Nat) : Int) := by rw [w64 (by omega) (by omega)]; omega
        rw [ew, w64n (vtake b).1 (by omega), ew2]
        exact Ev.pos (by omega) (Ev.bind (entries_ev _ (fun x hx => ht x (h5 x hx)) (by omega) (by omega)) (Ev.now _))
      · rw [if_neg (fun h => e2 h.2.2)]
        exact Ev.neg (by omega) (Ev.now _)
    · rw [if_neg (fun h => e1 h.2.1), decide_eq_true (by omega)]
      exact bad _ _ _
  · rw [if_neg (fun h => e0 h.1)]
    exact Ev.neg (by omega) (bad _ _ _)
/-! the pieces -/
def pcOf (x : En) (s : List Nat) : Pc := ⟨x.f0, [[x.f1, strOfNums (ci s)]]⟩
def scn (b : List Nat) : List En → Nat → List Pc → List Pc × Int × Int
  | [], at', out => (out, (at' : Int), if at' < b.length then 3 else 0)
  | x :: l, at', out => if at' + x.f2.toNat + 4 ≤ b.length ∧ (opened tbl ((b.take (at' + x.f2.toNat + 4)).drop at')).2 = 0 then
      scn b l (at' + x.f2.toNat + 4) (out ++ [pcOf x (opened tbl ((b.take (at' + x.f2.toNat + 4)).drop at')).1]) else (out, (at' : Int), 3)
theorem scan_loop {b : List Nat} (hb : ∀ x ∈ b, x < 256) (hl : b.length ≤ 1000000) (L : List En) (hL : L.length ≤ 1000000) (hx : ∀ x ∈ L, 0 ≤ x.f2 ∧ x.f2 ≤ 1000) : ∀ (d i at' : Nat) (out : List Pc), i + d = L.length → at' ≤ b.length → out.length ≤ i →
    Ev (fun k => bundle_Scan.l0 k (ci b) (at' : Int) out (ci tbl) L (L.length : Int) (i : Int)) (scn b (L.drop i) at' out)
  | 0, i, at', out, hi, hat, hout => by
    rw [List.drop_eq_nil_of_le (by omega)]
    refine Ev.succ ?_
    simp only [bundle_Scan.l0, scn, ci_length]
    refine Ev.neg (by omega) ?_
    by_cases h : at' < b.length
    · exact Ev.pos (by omega) (Ev.eq (Ev.now _) (by rw [if_pos h]))
    · exact Ev.neg (by omega) (Ev.eq (Ev.now _) (by rw [if_neg h]))
  | d + 1, i, at', out, hi, hat, hout => by
    have hil : i < L.length := by omega
    obtain ⟨hx0, hx1⟩ := hx _ (List.getElem_mem hil)
    rw [List.drop_eq_getElem_cons hil]
    refine Ev.succ ?_
    simp only [bundle_Scan.l0, ci_length, rdE_at L i hil]
    unfold scn
    obtain ⟨m, hm⟩ : ∃ m : Nat, L[i].f2 = (m : Int) := ⟨L[i].f2.toNat, by omega⟩
    have ew : wrap64 (wrap64 ((at' : Int) + L[i].f2) + 4) = ((at' + L[i].f2.toNat + 4 : Nat) : Int) := by
      rw [w64 (x := (at' : Int) + L[i].f2) (by omega) (by omega), w64 (by omega) (by omega)]; omega
    rw [ew]
    refine Ev.pos (by omega) (Ev.pos (by omega) (Ev.pos (by omega) ?_))
    by_cases h1 : at' + L[i].f2.toNat + 4 ≤ b.length
    · refine Ev.neg (by omega) (Ev.pos (by omega) (Ev.pos (by omega) (Ev.pos (by omega) ?_)))
      rw [Int.toNat_natCast, Int.toNat_natCast, ci_take, ci_drop]
      have ht : ∀ x ∈ (b.take (at' + L[i].f2.toNat + 4)).drop at', x < 256 := fun x hx => hb x (List.mem_of_mem_take (List.mem_of_mem_drop hx))
      have htl : ((b.take (at' + L[i].f2.toNat + 4)).drop at').length ≤ 1000000 := by rw [List.length_drop, List.length_take]; omega
      refine Ev.bind (open_ev tbl_length tbl_lt ht (by omega)) ?_
      dsimp only
      by_cases h2 : (opened tbl ((b.take (at' + L[i].f2.toNat + 4)).drop at')).2 = 0
      · rw [if_pos ⟨h1, h2⟩]
        have ih := scan_loop hb hl L hL hx d (i + 1) (at' + L[i].f2.toNat + 4) (out ++ [pcOf L[i] (opened tbl ((b.take (at' + L[i].f2.toNat + 4)).drop at')).1]) (by omega) h1 (by rw [List.length_append]; simp; omega)
        refine Ev.pos (by omega) (Ev.pos (by omega) ?_)
        rw [w64s i (by omega)]
        exact ih
      · rw [if_neg (fun h => h2 h.2)]
        exact Ev.neg (by omega) (Ev.now _)
    · rw [if_neg (fun h => h1 h.1)]
      exact Ev.pos (by omega) (Ev.now _)
theorem ents_some (base : Int) : ∀ (n : Nat) (r : List Nat) (acc L : List En), ents base n r acc = some L → (∀ x ∈ acc, 0 ≤ x.f2 ∧ x.f2 ≤ 1000) → (∀ x ∈ L, 0 ≤ x.f2 ∧ x.f2 ≤ 1000) ∧ L.length = acc.length + n
  | 0, r, acc, L, h, ha => by
    unfold ents at h
    split at h
    · cases h; exact ⟨ha, rfl⟩
    · cases h
  | n + 1, r, acc, L, h, ha => by
    unfold ents at h
    split at h
    · rename_i hk
      obtain ⟨g1, g2⟩ := ents_some base n _ _ L h (fun x hx => by
        rcases List.mem_append.1 hx with hx | hx
        · exact ha x hx
        · rw [List.mem_singleton] at hx; subst hx
          have := hk.1.2.2.2
          exact ⟨by simp only; omega, by simp only; omega⟩)
      exact ⟨g1, by rw [g2, List.length_append]; simp; omega⟩
    · cases h
theorem listOf_ok (b : List Nat) : (∀ x ∈ (listOf b).1, 0 ≤ x.f2 ∧ x.f2 ≤ 1000) ∧ (listOf b).1.length ≤ 1000 := by
  unfold listOf
  split
  · unfold entsOf
    split
    · rename_i hh
      cases he : ents (((b.length - (vtake b).2.1.length : Nat) : Int) + ((opened tbl ((vtake b).2.1.take (vtake b).1)).1.length : Int)) (vtake (opened tbl ((vtake b).2.1.take (vtake b).1)).1).1 (vtake (opened tbl ((vtake b).2.1.take (vtake b).1)).1).2.1 [] with
      | none => simp [entRes]
      | some L =>
        obtain ⟨g1, g2⟩ := ents_some _ _ _ _ _ he (by simp)
        exact ⟨g1, by simp only [entRes]; rw [g2]; simpa using hh.2⟩
    · simp [entRes]
  · simp
def scanOf (b : List Nat) : List Pc × Int × Int := if (listOf b).2.2 = 0 then scn b (listOf b).1 ((listOf b).2.1).toNat [] else ([], 0, (listOf b).2.2)
theorem scan_ev {b : List Nat} (hb : ∀ x ∈ b, x < 256) (hl : b.length ≤ 1000000) : Ev (fun k => bundle_Scan.f k (ci b)) (scanOf b) := by
  obtain ⟨h1, h2⟩ := listOf_ok b
  simp only [bundle_Scan.f]
  unfold scanOf
  refine Ev.bind (list_ev hb hl) ?_
  by_cases h : (listOf b).2.2 = 0
  · rw [if_pos h]
    refine Ev.pos h (Ev.bind table_ev ?_)
    have hk : listOk b := by
      unfold listOf at h
      split at h
      · assumption
      · simp at h
    have e : (listOf b).2.1 = ((b.length - (vtake b).2.1.length + (vtake b).1 : Nat) : Int) := by unfold listOf; rw [if_pos hk]
    have := hk.2.1
    have := (vtake_rest (s := b)).1
    have hs := scan_loop hb hl (listOf b).1 (by omega) h1 (listOf b).1.length 0 (b.length - (vtake b).2.1.length + (vtake b).1) [] (by omega) (by omega) (by simp)
    rw [List.drop_zero] at hs
    rw [e, Int.toNat_natCast]
    exact hs
  · rw [if_neg h]
    exact Ev.neg h (Ev.now _)
theorem canon_ev {b : List Nat} (hb : ∀ x ∈ b, x < 256) (hl : b.length ≤ 1000000) : Ev (fun k => bundle_Canon.f k (ci b)) ((scanOf b).2.2 == 0) := by
  simp only [bundle_Canon.f]
  exact Ev.bind (scan_ev hb hl) (Ev.now _)
end Go.Proofs.Ytmpomnnaoggdkaa.Pure
