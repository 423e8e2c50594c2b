/- A logic of plain values, part 36: regions whose order is drawn, in which variables are made. -/
import Derived.Test.YtkjibelcaeanjaaE35
namespace Go.Proofs.Ytkjibelcaeanjaa.E
open Go Go.RowKit
set_option linter.unusedVariables false
set_option linter.unusedSimpArgs false
/-! ## blocks ahead of others -/
theorem hget_app {X H : Heap} {b : Nat} : hget (X ++ H) b = (match hget X b with | some cs => some cs | none => hget H b) := by
  induction X with
  | nil => rfl
  | cons p X ih =>
    obtain ⟨c, cs⟩ := p
    simp only [List.cons_append, hget]
    split
    · rfl
    · exact ih
theorem hset_app_right {X H : Heap} {b : Nat} {ds : List PV} (h : hget X b = none) : hset (X ++ H) b ds = X ++ hset H b ds := by
  induction X with
  | nil => rfl
  | cons p X ih =>
    obtain ⟨c, cs⟩ := p
    obtain ⟨h1, h2⟩ := hget_cons_none.1 h
    simp only [List.cons_append, hset, if_neg h1, ih h2]
theorem hset_app_left {X H : Heap} {b : Nat} {cs ds : List PV} (h : hget X b = some cs) : hset (X ++ H) b ds = hset X b ds ++ H := by
  induction X with
  | nil => cases h
  | cons p X ih =>
    obtain ⟨c, es⟩ := p
    simp only [hget] at h
    simp only [List.cons_append, hset]
    split
    · rfl
    · rename_i hne
      rw [if_neg hne] at h
      simp only [List.cons_append, ih h]
def Apart (X H : Heap) : Prop := ∀ b cs, hget H b = some cs → hget X b = none
theorem Apart.get {X H : Heap} (h : Apart X H) {b : Nat} {cs : List PV} (hb : hget H b = some cs) : hget (X ++ H) b = some cs := by
  rw [hget_app, h b cs hb]
  exact hb
theorem apart_of_HRel {w : World} {g : Ghost} : ∀ {X H : Heap}, HRel w g (X ++ H) → Apart X H
  | [], H, _ => fun b cs _ => rfl
  | (c, ds) :: X, H, h => fun b cs hb => by
    obtain ⟨h0, _, _, _, h4⟩ := h
    have ih := apart_of_HRel h4 b cs hb
    refine hget_cons_none.2 ⟨fun e => ?_, ih⟩
    subst e
    have h1 : hget (X ++ H) c = none := h0
    rw [hget_app, ih] at h1
    rw [hb] at h1
    cases h1
section
variable {P : Program} {op : POp} {st : List PV} {H H' X : Heap} {f : List PV → List PV}
theorem cellsY_app {sz : Nat} (hA : Apart X H) {p : PV} {r : List PV × Nat} (h : cellsY sz H p = some r) : cellsY sz (X ++ H) p = some r := by
  cases p with
  | row b off len cap =>
    simp only [cellsY] at h ⊢
    obtain ⟨cs, h1, h2⟩ := bind_spec h
    rw [hA.get h1]
    exact h2
  | _ => exact h
theorem Ev0_frame (hA : Apart X H) (hE : Ev0 P op st H f H') : Ev0 P op st (X ++ H) f (X ++ H') := by
  obtain ⟨d, gd, k⟩ := op
  unfold Ev0 at hE ⊢
  have pure_ : isLd k = false → (∃ r, pev st H k = some r ∧ f = (fun s => putSt (ptake s k) d r) ∧ H' = H) → ∃ r, pev st (X ++ H) k = some r ∧ f = (fun s => putSt (ptake s k) d r) ∧ X ++ H' = X ++ H := by
    rintro hk ⟨r, h1, h2, rfl⟩
    exact ⟨r, by rw [← h1]; exact pev_same (fun _ _ => rfl) (.inl hk), h2, rfl⟩
  cases k with
  | al z => exact hE.elim
  | bx s x => exact hE.elim
  | appR s b z x y => exact hE.elim
  | clr s z x => exact hE.elim
  | cap x => exact hE.elim
  | ld s ag tk x =>
    cases tk with
    | true =>
      obtain ⟨b, off, cs, r, h1, h2, h3, h4, h5, rfl⟩ := hE
      exact ⟨b, off, cs, r, h1, hA.get h2, h3, h4, h5, (hset_app_right (hA _ _ h2)).symm⟩
    | false =>
      obtain ⟨r, h1, h2, rfl⟩ := hE
      refine ⟨r, ?_, h2, rfl⟩
      simp only [pev, ldP] at h1 ⊢
      split at h1
      · exact h1
      · rename_i b off e
        obtain ⟨cs, h3, h4⟩ := bind_spec h1
        simp only [hA.get h3, Option.bind_some]
        exact h4
      · cases h1
  | mk s b ag z l c mu =>
    cases mu with
    | true => exact hE.elim
    | false => exact pure_ rfl hE
  | bsl s n ag z ps mu =>
    cases mu with
    | true => exact hE.elim
    | false => exact pure_ rfl hE
  | sto s x v =>
    obtain ⟨b, off, cs, h1, h2, h3, h4, h5, h6, rfl⟩ := hE
    exact ⟨b, off, cs, h1, hA.get h2, h3, h4, h5, h6, (hset_app_right (hA _ _ h2)).symm⟩
  | cpy s x y =>
    obtain ⟨b, off, n, cap, cs, ys, m, h1, h2, h3, h4, h5, rfl⟩ := hE
    exact ⟨b, off, n, cap, cs, ys, m, h1, hA.get h2, h3, cellsY_app hA h4, h5, (hset_app_right (hA _ _ h2)).symm⟩
  | callF n xs tk =>
    obtain ⟨r, h1, h2, rfl⟩ := hE
    exact ⟨r, h1, h2, rfl⟩
  | callV fx xs =>
    obtain ⟨n, first, cap, r, h1, h2, h3, rfl⟩ := hE
    exact ⟨n, first, cap, r, h1, h2, h3, rfl⟩
  | _ => exact pure_ rfl hE
theorem Ev_frame (hA : Apart X H) (hE : Ev P op st H f H') : Ev P op st (X ++ H) f (X ++ H') := by
  unfold Ev at hE ⊢
  split at hE
  · exact Ev0_frame hA hE
  · rename_i t want h
    obtain ⟨b, hb, hE⟩ := hE
    refine ⟨b, hb, ?_⟩
    split at hE
    · rename_i hw; rw [if_pos hw]; exact Ev0_frame hA hE
    · rename_i hw; rw [if_neg hw]; exact ⟨hE.1, by rw [hE.2]⟩
/-- The slots may be others, where the operation does not look. -/
theorem Ev_slots {st' : List PV} (h : Same (readsOf op) st st') (hE : Ev P op st H f H') : Ev P op st' H f H' := by
  obtain ⟨H2', q1, q2, q3⟩ := Ev_same (H2 := H) h hE (fun _ => rfl) (fun _ _ r h => h)
  cases hs : isSto op.k with
  | true => rw [← q3 hs]; exact q1
  | false =>
    obtain ⟨e1, e2⟩ := q2 hs
    rw [e2] at q1
    rw [e1]
    exact q1
end
/-! ## the order of the blocks -/
theorem hget_none_mem {H : Heap} {b : Nat} : hget H b = none ↔ ∀ p ∈ H, p.1 ≠ b := by
  induction H with
  | nil => simp [hget]
  | cons p H ih =>
    obtain ⟨c, cs⟩ := p
    rw [hget_cons_none, ih]
    simp
def HOk (w : World) (g : Ghost) (p : Nat × List PV) : Prop := g p.1 = .mut ∧ p.2.all PV.isCell = true ∧ (∃ c e, w.heap[p.1]? = some (.cells c e (0, 0)) ∧ VRl true w g p.2 c.toList)
theorem HRel_iff {w : World} {g : Ghost} : ∀ {H : Heap}, HRel w g H ↔ (H.map (·.1)).Nodup ∧ ∀ p ∈ H, HOk w g p
  | [] => by simp [HRel]
  | (b, cs) :: H => by
    simp only [HRel, HRel_iff (H := H), List.map_cons, List.nodup_cons, hget_none_mem]
    constructor
    · rintro ⟨h0, h1, h2, h3, h4, h5⟩
      refine ⟨⟨fun hm => ?_, h4⟩, fun p hp => ?_⟩
      · obtain ⟨p, hp, e⟩ := List.mem_map.1 hm
        exact h0 p hp e
      · rcases List.mem_cons.1 hp with rfl | hp
        · exact ⟨h1, h2, h3⟩
        · exact h5 p hp
    · rintro ⟨⟨h0, h4⟩, h5⟩
      obtain ⟨h1, h2, h3⟩ := h5 (b, cs) (List.mem_cons_self ..)
      exact ⟨fun p hp e => h0 (List.mem_map.2 ⟨p, hp, e⟩), h1, h2, h3, h4, fun p hp => h5 p (List.mem_cons_of_mem _ hp)⟩
theorem toksH_flat (w : World) : ∀ H : Heap, toksH w H = H.flatMap fun p => toksB w p.1 p.2
  | [] => rfl
  | (b, cs) :: H => by simp [toksH, toksH_flat w H]
theorem Rel_perm {out : List Nat} {st : List PV} {H H2 : Heap} {a : Act} {w : World} {g : Ghost} (h : Rel out st H a w g) (hp : H.Perm H2) : Rel out st H2 a w g := by
  obtain ⟨h1, h2⟩ := HRel_iff.1 h.hp
  refine ⟨h.wr, HRel_iff.2 ⟨(hp.map _).nodup_iff.1 h1, fun p hm => h2 p (hp.mem_iff.2 hm)⟩, h.tm, fun b => ?_, h.df⟩
  have e : (toksH w H2).count b = (toksH w H).count b := by
    rw [toksH_flat, toksH_flat]
    exact ((hp.flatMap_right _).count_eq b).symm
  rw [e]
  exact h.un b
/-! ## what stands for the new variables -/
abbrev Nw := Nat × Nat × Nat × Nat
def matS : List (Nw × Nat) → List PV → List PV
  | [], st => st
  | (e, b) :: o, st => (matS o st).set e.2.2.1 (.ptr (some (b, 0)))
def zerosOf (ps : List POp) (e : Nw) : List PV := match (ps.getD e.1 default).k with | .al cs => cs | _ => []
def matH (ps : List POp) (l : Nat → Bool) (st : List PV) : List (Nw × Nat) → Heap
  | [] => []
  | (e, b) :: o => (b, if l e.2.1 then cellsOf (st.getD e.2.2.1 .unit) else zerosOf ps e) :: matH ps l st o
theorem matS_length : ∀ (o : List (Nw × Nat)) (st : List PV), (matS o st).length = st.length
  | [], st => rfl
  | (e, b) :: o, st => by simp [matS, matS_length o st]
theorem matS_obs : ∀ (o : List (Nw × Nat)) (st : List PV) (n : Nat), (∀ p ∈ o, p.1.2.2.1 ≠ n / 2) → obs (matS o st) n = obs st n
  | [], st, n, _ => rfl
  | (e, b) :: o, st, n, h => by
    rw [matS, obs_set, if_neg (fun e2 => h (e, b) (List.mem_cons_self ..) e2.symm)]
    exact matS_obs o st n fun p hp => h p (List.mem_cons_of_mem _ hp)
theorem matS_set : ∀ (o : List (Nw × Nat)) (st : List PV) (d : Nat) (x : PV), (∀ p ∈ o, p.1.2.2.1 ≠ d) → matS o (st.set d x) = (matS o st).set d x
  | [], st, d, x, _ => rfl
  | (e, b) :: o, st, d, x, h => by
    rw [matS, matS, matS_set o st d x (fun p hp => h p (List.mem_cons_of_mem _ hp))]
    exact List.set_comm _ _ (Ne.symm (h (e, b) (List.mem_cons_self ..)))
/-- A slot that is set anyway. -/
theorem matS_over : ∀ (o : List (Nw × Nat)) (st : List PV) (d : Nat) (x : PV), (∃ p ∈ o, p.1.2.2.1 = d) → matS o (st.set d x) = matS o st
  | [], st, d, x, h => by obtain ⟨p, hp, _⟩ := h; cases hp
  | (e, b) :: o, st, d, x, h => by
    by_cases hin : ∃ p ∈ o, p.1.2.2.1 = d
    · rw [matS, matS, matS_over o st d x hin]
    · have hno : ∀ p ∈ o, p.1.2.2.1 ≠ d := fun p hp e2 => hin ⟨p, hp, e2⟩
      have hd : e.2.2.1 = d := by
        obtain ⟨p, hp, e2⟩ := h
        rcases List.mem_cons.1 hp with rfl | hp
        · exact e2
        · exact absurd e2 (hno p hp)
      rw [matS, matS, matS_set o st d x hno, hd, List.set_set]
theorem slot_set {f : List PV → List PV} {ws : List Nat} (hf : Slotwise f ws) {d : Nat} (h1 : 2 * d ∉ ws) (h2 : 2 * d + 1 ∉ ws) (s : List PV) (x : PV) : f (s.set d x) = (f s).set d x := by
  apply ext_obs
  intro n
  have hlen : d < (f s).length ↔ d < s.length := by
    have := obs_lt (hf.rest s (2 * d) h1)
    have e : 2 * d / 2 = d := by omega
    rwa [e] at this
  by_cases hn : n / 2 = d
  · have hnw : n ∉ ws := by
      have : n = 2 * d ∨ n = 2 * d + 1 := by omega
      rcases this with rfl | rfl <;> assumption
    rw [hf.rest _ n hnw, obs_set, obs_set, if_pos hn, if_pos hn]
    by_cases hd : d < s.length
    · rw [if_pos hd, if_pos (hlen.2 hd)]
    · rw [if_neg hd, if_neg (fun h => hd (hlen.1 h))]
  · rw [obs_set, if_neg hn]
    refine hf.slot _ _ n ?_
    rw [obs_set, if_neg hn]
theorem matS_slot {f : List PV → List PV} {ws : List Nat} (hf : Slotwise f ws) : ∀ (o : List (Nw × Nat)) (st : List PV), (∀ p ∈ o, 2 * p.1.2.2.1 ∉ ws ∧ 2 * p.1.2.2.1 + 1 ∉ ws) → f (matS o st) = matS o (f st)
  | [], st, _ => rfl
  | (e, b) :: o, st, h => by
    obtain ⟨h1, h2⟩ := h (e, b) (List.mem_cons_self ..)
    rw [matS, matS, slot_set hf h1 h2, matS_slot hf o st fun p hp => h p (List.mem_cons_of_mem _ hp)]
theorem getD_of_obs {s s' : List PV} {d : Nat} (h : obs s (2 * d + 1) = obs s' (2 * d + 1)) : s.getD d .unit = s'.getD d .unit := by
  rw [obs_odd, obs_odd] at h
  simp only [List.getD_eq_getElem?_getD, h]
theorem matH_congr {ps : List POp} {l l' : Nat → Bool} {st st' : List PV} : ∀ (o : List (Nw × Nat)), (∀ p ∈ o, l p.1.2.1 = l' p.1.2.1 ∧ st.getD p.1.2.2.1 .unit = st'.getD p.1.2.2.1 .unit) → matH ps l st o = matH ps l' st' o
  | [], _ => rfl
  | (e, b) :: o, h => by
    obtain ⟨h1, h2⟩ := h (e, b) (List.mem_cons_self ..)
    rw [matH, matH, h1, h2, matH_congr o fun p hp => h p (List.mem_cons_of_mem _ hp)]
theorem matH_keys (ps : List POp) (l : Nat → Bool) (st : List PV) : ∀ o : List (Nw × Nat), (matH ps l st o).map (·.1) = o.map (·.2)
  | [] => rfl
  | (e, b) :: o => by simp [matH, matH_keys ps l st o]
/-- The rest, for whatever blocks the new variables have. -/
def newK : List Nw → (List PV → Heap → Prop) → List PV → Heap → Prop
  | [], K, st, H => K st H
  | e :: nw, K, st, H => ∀ b, hget H b = none → newK nw K (st.set e.2.2.1 (.ptr (some (b, 0)))) ((b, cellsOf (st.getD e.2.2.1 .unit)) :: H)
theorem nodup_inj {α β : Type} {f : α → β} : ∀ {l : List α}, (l.map f).Nodup → ∀ {a b : α}, a ∈ l → b ∈ l → f a = f b → a = b
  | [], _, a, b, ha, _, _ => by cases ha
  | x :: l, h, a, b, ha, hb, e => by
    rw [List.map_cons, List.nodup_cons] at h
    rcases List.mem_cons.1 ha with h1 | h1 <;> rcases List.mem_cons.1 hb with h2 | h2
    · rw [h1, h2]
    · exact absurd (List.mem_map.2 ⟨b, h2, by rw [← e, h1]⟩) h.1
    · exact absurd (List.mem_map.2 ⟨a, h1, by rw [e, h2]⟩) h.1
    · exact nodup_inj h.2 h1 h2 e
theorem newOk_spec {ps : List POp} {e : Nw} (h : newOk ps e = true) : ∃ cs v, ps[e.1]? = some ⟨some e.2.2.1, none, .al cs⟩ ∧ ps[e.2.1]? = some ⟨none, none, .sto e.2.2.2 (.t e.2.2.1) v⟩ ∧ cs.length = e.2.2.2 ∧ cs.all PV.isCell = true ∧
    (∀ x, v = .t x → x ≠ e.2.2.1) ∧ e.1 < e.2.1 ∧ ∀ i, i < ps.length → i ≠ e.1 → i ≠ e.2.1 → ∀ t ∈ readsOf (ps.getD i default) ++ writesOf (ps.getD i default), t ≠ 2 * e.2.2.1 ∧ t ≠ 2 * e.2.2.1 + 1 := by
  unfold newOk at h
  split at h
  · rename_i d cs sz t v e1 e2
    simp only [Bool.and_eq_true, beq_iff_eq, decide_eq_true_eq, List.all_eq_true, List.mem_range, Bool.or_eq_true, Bool.not_eq_true'] at h
    obtain ⟨⟨⟨⟨⟨⟨⟨h1, h2⟩, h3⟩, h4⟩, h5⟩, h6⟩, h7⟩, h8⟩ := h
    subst h1 h2 h4
    refine ⟨cs, v, e1, e2, h3, List.all_eq_true.2 h6, fun x hx => ?_, h7, fun i hi n1 n2 t ht => ?_⟩
    · subst hx
      simpa using h5
    · rcases h8 i hi with (h8 | h8) | h8
      · exact absurd h8 n1
      · exact absurd h8 n2
      · simp only [touches, Bool.or_eq_false_iff, List.contains_eq_mem, decide_eq_false_iff_not] at h8
        exact ⟨fun e3 => h8.1 (e3 ▸ ht), fun e3 => h8.2 (e3 ▸ ht)⟩
  · cases h
theorem virt_get {news : List Nw} {ps : List POp} {i : Nat} {p : POp} (h : ps[i]? = some p) : (virt news ps)[i]? = some (virtOp news i p) := by
  have hi : i < ps.length := (List.getElem?_eq_some_iff.1 h).1
  unfold virt
  rw [List.getElem?_map, List.getElem?_range hi]
  simp only [Option.map_some, List.getD_eq_getElem?_getD, h, Option.getD_some]
theorem virt_length (news : List Nw) (ps : List POp) : (virt news ps).length = ps.length := by simp [virt]
theorem obs_takeAt (st : List PV) (v : Arg) (n : Nat) (h : ∀ x, v = .t x → n / 2 ≠ x) : obs (takeAt st v) n = obs st n := by
  cases v with
  | c _ => rfl
  | t x => rw [takeAt, obs_set, if_neg (h x rfl)]
theorem matS_getD : ∀ (o : List (Nw × Nat)) (st : List PV) (e : Nw) (b : Nat), (e, b) ∈ o → (o.map (·.1.2.2.1)).Nodup → e.2.2.1 < st.length → (matS o st).getD e.2.2.1 .unit = .ptr (some (b, 0))
  | [], st, e, b, h, _, _ => by cases h
  | (e1, b1) :: o, st, e, b, h, hn, hl => by
    rw [List.map_cons, List.nodup_cons] at hn
    rcases List.mem_cons.1 h with h | h
    · cases h
      rw [matS, List.getD_eq_getElem?_getD, List.getElem?_set, if_pos rfl, if_pos (by rw [matS_length]; exact hl)]
      rfl
    · have hne : e1.2.2.1 ≠ e.2.2.1 := fun e2 => hn.1 (List.mem_map.2 ⟨(e, b), h, e2.symm⟩)
      rw [matS, List.getD_eq_getElem?_getD, List.getElem?_set, if_neg hne, ← List.getD_eq_getElem?_getD]
      exact matS_getD o st e b h hn.2 hl
theorem matH_get (ps : List POp) (l : Nat → Bool) (st : List PV) : ∀ (o : List (Nw × Nat)) (e : Nw) (b : Nat), (e, b) ∈ o → (o.map (·.2)).Nodup → hget (matH ps l st o) b = some (if l e.2.1 then cellsOf (st.getD e.2.2.1 .unit) else zerosOf ps e)
  | [], e, b, h, _ => by cases h
  | (e1, b1) :: o, e, b, h, hn => by
    rw [List.map_cons, List.nodup_cons] at hn
    rcases List.mem_cons.1 h with h | h
    · cases h
      simp [matH, hget]
    · have hne : b1 ≠ b := fun e2 => hn.1 (List.mem_map.2 ⟨(e, b), h, e2.symm⟩)
      rw [matH, hget, if_neg hne]
      exact matH_get ps l st o e b h hn.2
theorem matH_store (ps : List POp) (l : Nat → Bool) (st st' : List PV) (cs : List PV) (k : Nat) : ∀ (o : List (Nw × Nat)) (e : Nw) (b : Nat), (e, b) ∈ o → (o.map (·.2)).Nodup → (o.map (·.1)).Nodup → e.2.1 = k → cellsOf (st'.getD e.2.2.1 .unit) = cs →
    (∀ p ∈ o, p.1 ≠ e → p.1.2.1 ≠ k ∧ st.getD p.1.2.2.1 .unit = st'.getD p.1.2.2.1 .unit) → hset (matH ps l st o) b cs = matH ps (fun i => l i || i == k) st' o
  | [], e, b, h, _, _, _, _, _ => by cases h
  | (e1, b1) :: o, e, b, h, hn, hn2, hk, hc, hoth => by
    rw [List.map_cons, List.nodup_cons] at hn hn2
    rcases List.mem_cons.1 h with h | h
    · cases h
      have : matH ps l st o = matH ps (fun i => l i || i == k) st' o := matH_congr o fun p hp => by
        have hpe : p.1 ≠ e1 := fun e2 => hn2.1 (List.mem_map.2 ⟨p, hp, e2⟩)
        obtain ⟨h1, h2⟩ := hoth p (List.mem_cons_of_mem _ hp) hpe
        refine ⟨?_, h2⟩
        have : (p.1.2.1 == k) = false := by simpa using h1
        simp [this]
      simp only [matH, hset, if_pos, hk, beq_self_eq_true, Bool.or_true, hc, this]
    · have hne : b1 ≠ b := fun e2 => hn.1 (List.mem_map.2 ⟨(e, b), h, e2.symm⟩)
      have hpe : e1 ≠ e := fun e2 => hn2.1 (List.mem_map.2 ⟨(e, b), h, e2.symm⟩)
      obtain ⟨h1, h2⟩ := hoth (e1, b1) (List.mem_cons_self ..) hpe
      have h1' : (e1.2.1 == k) = false := by simpa using h1
      rw [matH, matH, hset, if_neg hne, matH_store ps l st st' cs k o e b h hn.2 hn2.2 hk hc (fun p hp => hoth p (List.mem_cons_of_mem _ hp))]
      simp only at h2
      simp only [h1', Bool.or_false, h2]
theorem newK_perm (ps : List POp) (l : Nat → Bool) (hl : ∀ k, l k = true) (bl : Nw → Nat) : ∀ (news : List Nw) (K : List PV → Heap → Prop) (st : List PV) (H : Heap), newK news K st H → (news.map (·.2.2.1)).Nodup → (news.map bl).Nodup → (∀ e ∈ news, hget H (bl e) = none) →
    K (matS (news.reverse.map fun e => (e, bl e)) st) (matH ps l st (news.reverse.map fun e => (e, bl e)) ++ H)
  | [], K, st, H, h, _, _, _ => h
  | e :: nw, K, st, H, h, hd, hb, hH => by
    rw [List.map_cons, List.nodup_cons] at hd hb
    have h1 := h (bl e) (hH e (List.mem_cons_self ..))
    have h2 := newK_perm ps l hl bl nw K _ _ h1 hd.2 hb.2 (fun e' he' => hget_cons_none.2 ⟨fun e2 => hb.1 (List.mem_map.2 ⟨e', he', e2.symm⟩), hH e' (List.mem_cons_of_mem _ he')⟩)
    have hds : ∀ p ∈ (nw.reverse.map fun e => (e, bl e)), p.1.2.2.1 ≠ e.2.2.1 := fun p hp => by
      obtain ⟨e', he', rfl⟩ := List.mem_map.1 hp
      exact fun e2 => hd.1 (List.mem_map.2 ⟨e', List.mem_reverse.1 he', e2⟩)
    rw [matS_set _ _ _ _ hds] at h2
    have e1 : matS ((e :: nw).reverse.map fun e => (e, bl e)) st = (matS (nw.reverse.map fun e => (e, bl e)) st).set e.2.2.1 (.ptr (some (bl e, 0))) := by
      have : ∀ (o : List (Nw × Nat)) (s : List PV), (∀ p ∈ o, p.1.2.2.1 ≠ e.2.2.1) → matS (o ++ [(e, bl e)]) s = (matS o s).set e.2.2.1 (.ptr (some (bl e, 0))) := by
        intro o
        induction o with
        | nil => intro s _; rfl
        | cons p o ih =>
          intro s hp
          obtain ⟨e', b'⟩ := p
          rw [List.cons_append, matS, matS, ih s (fun p hp' => hp p (List.mem_cons_of_mem _ hp'))]
          exact (List.set_comm _ _ (hp (e', b') (List.mem_cons_self ..))).symm
      rw [List.reverse_cons, List.map_append]
      exact this _ _ hds
    have e2 : matH ps l st ((e :: nw).reverse.map fun e => (e, bl e)) ++ H = matH ps l (st.set e.2.2.1 (.ptr (some (bl e, 0)))) (nw.reverse.map fun e => (e, bl e)) ++ (bl e, cellsOf (st.getD e.2.2.1 .unit)) :: H := by
      have : ∀ (o : List (Nw × Nat)) (s : List PV), matH ps l s (o ++ [(e, bl e)]) = matH ps l s o ++ [(bl e, cellsOf (s.getD e.2.2.1 .unit))] := by
        intro o s
        induction o with
        | nil => simp [matH, hl]
        | cons p o ih => obtain ⟨e', b'⟩ := p; rw [List.cons_append, matH, matH, ih]; rfl
      rw [List.reverse_cons, List.map_append]
      simp only [List.map_cons, List.map_nil]
      rw [this, List.append_assoc]
      congr 1
      exact matH_congr _ fun p hp => ⟨rfl, by
        rw [List.getD_eq_getElem?_getD, List.getD_eq_getElem?_getD, List.getElem?_set, if_neg (fun e3 => hds p hp e3.symm)]⟩
    rw [e1, e2]
    exact h2
theorem matS_perm : ∀ {o o2 : List (Nw × Nat)}, o.Perm o2 → (o.map (·.1.2.2.1)).Nodup → ∀ st, matS o st = matS o2 st
  | _, _, .nil, _, st => rfl
  | _, _, .cons p h, hn, st => by
    rw [List.map_cons, List.nodup_cons] at hn
    rw [matS, matS, matS_perm h hn.2 st]
  | _, _, .swap p q o, hn, st => by
    simp only [List.map_cons, List.nodup_cons, List.mem_cons, not_or] at hn
    rw [matS, matS, matS, matS]
    exact List.set_comm _ _ (Ne.symm hn.1.1)
  | _, _, .trans h1 h2, hn, st => by
    rw [matS_perm h1 hn st]
    exact matS_perm h2 ((h1.map _).nodup_iff.1 hn) st
theorem matH_perm (ps : List POp) (l : Nat → Bool) (st : List PV) : ∀ {o o2 : List (Nw × Nat)}, o.Perm o2 → (matH ps l st o).Perm (matH ps l st o2)
  | _, _, .nil => .nil
  | _, _, .cons p h => by rw [matH, matH]; exact .cons _ (matH_perm ps l st h)
  | _, _, .swap p q o => by rw [matH, matH, matH, matH]; exact .swap _ _ _
  | _, _, .trans h1 h2 => (matH_perm ps l st h1).trans (matH_perm ps l st h2)
theorem virt_sto {news : List Nw} {ps : List POp} (hspec : ∀ e ∈ news, ∃ cs v, ps[e.1]? = some ⟨some e.2.2.1, none, .al cs⟩ ∧ ps[e.2.1]? = some ⟨none, none, .sto e.2.2.2 (.t e.2.2.1) v⟩ ∧ cs.length = e.2.2.2 ∧ cs.all PV.isCell = true ∧
    (∀ x, v = .t x → x ≠ e.2.2.1) ∧ e.1 < e.2.1 ∧ ∀ i, i < ps.length → i ≠ e.1 → i ≠ e.2.1 → ∀ t ∈ readsOf (ps.getD i default) ++ writesOf (ps.getD i default), t ≠ 2 * e.2.2.1 ∧ t ≠ 2 * e.2.2.1 + 1)
    (hnd : (news.map (·.2.2.1)).Nodup) {e : Nw} (he : e ∈ news) {v : Arg} : virtOp news e.2.1 ⟨none, none, .sto e.2.2.2 (.t e.2.2.1) v⟩ = ⟨some e.2.2.1, none, .mvc e.2.2.2 v⟩ := by
  unfold virtOp
  simp only
  cases hf : news.find? (fun x => x.2.1 == e.2.1) with
  | none =>
    have := List.find?_eq_none.1 hf e he
    simp at this
  | some e' =>
    have h1 := List.find?_some hf
    have h2 := List.mem_of_find?_eq_some hf
    simp only [beq_iff_eq] at h1
    obtain ⟨_, v1, _, g1, _⟩ := hspec e he
    obtain ⟨_, v2, _, g2, _⟩ := hspec e' h2
    rw [h1, g1] at g2
    simp only [Option.some.injEq, POp.mk.injEq, PK.sto.injEq, Arg.t.injEq, true_and] at g2
    have := nodup_inj hnd he h2 g2.2.1
    subst this
    rfl
theorem nodup_of_map {α β : Type} {f : α → β} : ∀ {l : List α}, (l.map f).Nodup → l.Nodup
  | [], _ => List.nodup_nil
  | x :: l, h => by
    rw [List.map_cons, List.nodup_cons] at h
    rw [List.nodup_cons]
    exact ⟨fun hm => h.1 (List.mem_map.2 ⟨x, hm, rfl⟩), nodup_of_map h.2⟩
theorem block_of : ∀ ord : List (Nw × Nat), (ord.map (·.1)).Nodup → ∃ bl : Nw → Nat, ∀ p ∈ ord, bl p.1 = p.2
  | [], _ => ⟨fun _ => 0, fun p h => by cases h⟩
  | (e, b) :: o, h => by
    rw [List.map_cons, List.nodup_cons] at h
    obtain ⟨bl, hb⟩ := block_of o h.2
    refine ⟨fun e' => if e' = e then b else bl e', fun p hp => ?_⟩
    rcases List.mem_cons.1 hp with rfl | hp
    · simp
    · have : p.1 ≠ e := fun e2 => h.1 (List.mem_map.2 ⟨p, hp, e2⟩)
      simp only [if_neg this]
      exact hb p hp
theorem nodup_map_on {α β : Type} {f : α → β} : ∀ {l : List α}, l.Nodup → (∀ a ∈ l, ∀ b ∈ l, f a = f b → a = b) → (l.map f).Nodup
  | [], _, _ => List.nodup_nil
  | x :: l, h, hi => by
    rw [List.nodup_cons] at h
    rw [List.map_cons, List.nodup_cons]
    refine ⟨fun hm => ?_, nodup_map_on h.2 fun a ha b hb => hi a (List.mem_cons_of_mem _ ha) b (List.mem_cons_of_mem _ hb)⟩
    obtain ⟨y, hy, e⟩ := List.mem_map.1 hm
    have := hi y (List.mem_cons_of_mem _ hy) x (List.mem_cons_self ..) e
    subst this
    exact h.1 hy
section
variable {P : Program} {Q : PPost} {st : List PV} {H : Heap}
/-- A region whose order is drawn, in which variables are made. -/
theorem pwp_drawN (hmix : P.follows .mixedOrders = true) {vops : List POp} {late : List (Nat × Nat)} {news : List Nw} (hsl : ∀ e ∈ news, e.2.2.1 < st.length)
    (h : planOps P late vops 0 [] [] (newK news fun st' H' => Q .normal st' H') st H) : pwp P (.drawN vops late news) Q st H := by
  intro hh c hc out a w g hR
  cases c <;> simp only [compC] at hc
  case region id os draw =>
    obtain ⟨ps, q1, hc⟩ := bind_spec hc
    split at hc
    · rename_i hd
      rcases compD_cases hc with ⟨l, q2, hc⟩ | ⟨l, q2, hc, hok, hals, hnd⟩
      · cases hc
      cases hc
      subst hd
      obtain ⟨hlen, hgt0⟩ := compOps_get q1
      obtain ⟨d1, d2⟩ := drew_rel hR
      have hpl : ps.length = os.size := hlen
      generalize hnews : newsOf ps = news at *
      have hspec := fun e he => newOk_spec (hok e he)
      refine wp_region_any hmix (draw_core (R := fun l st' H' a' w' => ∃ g' ord, Rel out (matS ord st') (matH ps l st' ord ++ H') a' w' g' ∧ Evol out w g w' g' ∧ (∀ e ∈ news, l e.1 = true ↔ e ∈ ord.map (·.1)) ∧ (∀ p ∈ ord, p.1 ∈ news) ∧ (ord.map (·.1)).Nodup ∧ (∀ e ∈ news, e.2.2.1 < st'.length))
        (by rw [virt_length]; exact hpl) q2 h ⟨g, [], d1, d2, fun e he => by simp, fun p hp => (by cases hp), by simp, hsl⟩ ?_ ?_)
      · rintro j o q l st1 H1 f H' a1 w1 N ho hq ⟨g1, ord, hR1, hE1, hiff, hmem, hnd1, hsl1⟩ hEv hlj hdn hup hN
        have hjlt : j < ps.length := by rw [hpl]; exact (Array.getElem?_eq_some_iff.1 ho).1
        have hp : ps[j]? = some ps[j] := List.getElem?_eq_getElem hjlt
        generalize hpj : ps[j] = p at hp
        rw [virt_get hp, Option.some.injEq] at hq
        obtain ⟨p', k1, k2, k3, k4⟩ := hgt0 j o (by rw [Array.getElem?_toList]; exact ho)
        rw [hp] at k1
        cases k1
        have hgetD : ps.getD j default = p := by rw [List.getD_eq_getElem?_getD, hp]; rfl
        have hA : Apart (matH ps l st1 ord) H1 := apart_of_HRel hR1.hp
        have hkeys : (ord.map (·.2)).Nodup := by
          have := (HRel_iff.1 hR1.hp).1
          rw [List.map_append, matH_keys] at this
          exact (List.nodup_append.1 this).1
        have hds : (ord.map (·.1.2.2.1)).Nodup := by
          have : ord.map (·.1.2.2.1) = (ord.map (·.1)).map (·.2.2.1) := by simp [List.map_map]
          rw [this]
          exact nodup_map_on hnd1 fun x hx y hy e => by
            obtain ⟨p1, hp1, rfl⟩ := List.mem_map.1 hx
            obtain ⟨p2, hp2, rfl⟩ := List.mem_map.1 hy
            exact nodup_inj hnd (hmem p1 hp1) (hmem p2 hp2) e
        -- what other operations leave alone
        have hfree : ∀ e ∈ news, j ≠ e.1 → j ≠ e.2.1 → ∀ t ∈ readsOf p ++ writesOf p, t ≠ 2 * e.2.2.1 ∧ t ≠ 2 * e.2.2.1 + 1 := fun e he n1 n2 => by
          obtain ⟨_, _, _, _, _, _, _, _, hx⟩ := hspec e he
          rw [← hgetD]
          exact hx j hjlt n1 n2
        have halx : ∀ e ∈ news, j = e.1 → ∃ cs, p = ⟨some e.2.2.1, none, .al cs⟩ ∧ cs.length = e.2.2.2 ∧ cs.all PV.isCell = true := fun e he n1 => by
          obtain ⟨cs, v, h1, _, h3, h4, _⟩ := hspec e he
          rw [← n1, hp, Option.some.injEq] at h1
          exact ⟨cs, h1, h3, h4⟩
        have hstx : ∀ e ∈ news, j = e.2.1 → ∃ v, p = ⟨none, none, .sto e.2.2.2 (.t e.2.2.1) v⟩ ∧ (∀ x, v = .t x → x ≠ e.2.2.1) := fun e he n1 => by
          obtain ⟨cs, v, _, h2, _, _, h5, _⟩ := hspec e he
          rw [← n1, hp, Option.some.injEq] at h2
          exact ⟨v, h2, h5⟩
        by_cases hA1 : ∃ e ∈ news, j = e.1
        · -- a variable is made
          obtain ⟨e, he, rfl⟩ := hA1
          obtain ⟨cs, rfl, hcl, hca⟩ := halx e he rfl
          have hq2 : q = ⟨some e.2.2.1, none, .mv false (.c .unit)⟩ := by rw [← hq]; rfl
          subst hq2
          obtain ⟨r, h1, rfl, rfl⟩ : ∃ r, pev st1 H1 (.mv false (.c .unit)) = some r ∧ f = (fun s => putSt (ptake s (.mv false (.c .unit))) (some e.2.2.1) r) ∧ H' = H1 := hEv
          have hr : r = .unit := by
            simp only [pev, arg, argT, lend, Bool.false_eq_true, if_false, Option.some.injEq] at h1
            exact h1.symm
          subst hr
          have hlt : e.1 < e.2.1 := by obtain ⟨_, _, _, _, _, _, _, h6, _⟩ := hspec e he; exact h6
          have heo : ∀ p2 ∈ ord, p2.1 ≠ e := fun p2 hp2 e2 => by
            have := (hiff e he).2 (List.mem_map.2 ⟨p2, hp2, e2⟩)
            rw [hlj] at this
            cases this
          have hdo : ∀ p2 ∈ ord, p2.1.2.2.1 ≠ e.2.2.1 := fun p2 hp2 e2 => heo p2 hp2 (nodup_inj hnd (hmem p2 hp2) he e2)
          have hlst : l e.2.1 = false := by
            obtain ⟨cs', v', _, g2, _, _, _, _, _⟩ := hspec e he
            have hkl : e.2.1 < os.size := by rw [← hpl]; exact (List.getElem?_eq_some_iff.1 g2).1
            refine hup e.2.1 _ hlt hkl (virt_get g2) ?_
            rw [virt_sto hspec hnd he]
            simp [indepB, apartB, writesOf, dstW, readsOf]
          unfold wpOp
          simp only [ho]
          rw [if_pos ((wanted_spec k3 hR1.tm).1 rfl)]
          refine .inl (Oper.wp_mono ?_ (step_sound (op := ⟨some e.2.2.1, none, .al cs⟩) (K := fun s3 H3 => ∃ b, s3 = (matS ord st1).set e.2.2.1 (.ptr (some (b, 0))) ∧ H3 = (b, cs) :: (matH ps l st1 ord ++ H')) k2 k4 hR1 (fun b hb => ⟨b, rfl, rfl⟩)))
          rintro a2 w2 ⟨s3, H3, g2, ⟨b, rfl, rfl⟩, h2, h3⟩
          refine hN a2 w2 ⟨g2, (e, b) :: ord, ?_, hE1.trans h3, fun e2 he2 => ?_, fun p2 hp2 => ?_, ?_, fun e2 he2 => ?_⟩
          · have e1 : matS ((e, b) :: ord) (putSt (ptake st1 (.mv false (.c .unit))) (some e.2.2.1) .unit) = (matS ord st1).set e.2.2.1 (.ptr (some (b, 0))) := by
              simp only [putSt, ptake, Bool.false_eq_true, if_false, matS]
              rw [matS_set ord st1 _ _ hdo, List.set_set]
            have e2 : matH ps (fun k => l k || k == e.1) (putSt (ptake st1 (.mv false (.c .unit))) (some e.2.2.1) .unit) ((e, b) :: ord) = (b, cs) :: matH ps l st1 ord := by
              have hz : zerosOf ps e = cs := by simp only [zerosOf, hgetD]
              have hne : (e.2.1 == e.1) = false := by simp; omega
              simp only [matH, hlst, hne, Bool.or_self, Bool.false_eq_true, if_false, hz]
              congr 1
              refine matH_congr ord fun p2 hp2 => ⟨?_, ?_⟩
              · have : (p2.1.2.1 == e.1) = false := by
                  simp only [beq_eq_false_iff_ne, ne_eq]
                  intro e3
                  obtain ⟨v3, h4, _⟩ := hstx p2.1 (hmem p2 hp2) e3.symm
                  cases h4
                simp [this]
              · simp only [putSt, ptake, Bool.false_eq_true, if_false]
                rw [List.getD_eq_getElem?_getD, List.getD_eq_getElem?_getD, List.getElem?_set, if_neg (fun e3 => hdo p2 hp2 e3.symm)]
            rw [e1, e2]
            exact h2
          · simp only [List.map_cons, List.mem_cons, Bool.or_eq_true, beq_iff_eq, hiff e2 he2]
            constructor
            · rintro (h4 | h4)
              · exact .inr h4
              · obtain ⟨cs2, h5, _⟩ := halx e2 he2 h4.symm
                simp only [POp.mk.injEq, Option.some.injEq] at h5
                exact .inl (nodup_inj hnd he2 he h5.1.symm)
            · rintro (h4 | h4)
              · exact .inr (by rw [h4])
              · exact .inl h4
          · rcases List.mem_cons.1 hp2 with rfl | hp2
            · exact he
            · exact hmem p2 hp2
          · rw [List.map_cons, List.nodup_cons]
            exact ⟨fun hm => by obtain ⟨p2, hp2, e2⟩ := List.mem_map.1 hm; exact heo p2 hp2 e2, hnd1⟩
          · simp only [putSt, ptake, Bool.false_eq_true, if_false, List.length_set]
            exact hsl1 e2 he2
        by_cases hB1 : ∃ e ∈ news, j = e.2.1
        · -- its first value
          obtain ⟨e, he, rfl⟩ := hB1
          obtain ⟨v, rfl, hvx⟩ := hstx e he rfl
          have hq2 : q = ⟨some e.2.2.1, none, .mvc e.2.2.2 v⟩ := by rw [← hq]; exact virt_sto hspec hnd he
          subst hq2
          obtain ⟨r, h1, rfl, rfl⟩ : ∃ r, pev st1 H1 (.mvc e.2.2.2 v) = some r ∧ f = (fun s => putSt (ptake s (.mvc e.2.2.2 v)) (some e.2.2.1) r) ∧ H' = H1 := hEv
          simp only [pev, mvcP] at h1
          obtain ⟨⟨hrl, hrc⟩, h1⟩ := ite_spec h1
          cases h1
          obtain ⟨cs, v0, g1, g2, hcl, hca, _, hlt, _⟩ := hspec e he
          have hl1 : l e.1 = true := by
            refine hdn e.1 _ hlt (virt_get g1) ?_
            simp [virtOp, indepB, apartB, writesOf, dstW, readsOf]
          obtain ⟨⟨e', b⟩, hm, he'⟩ := List.mem_map.1 ((hiff e he).1 hl1)
          simp only at he'
          subst he'
          have hother : ∀ p2 ∈ ord, p2.1 ≠ e' → e'.2.1 ≠ p2.1.1 ∧ e'.2.1 ≠ p2.1.2.1 ∧ p2.1.2.2.1 ≠ e'.2.2.1 := fun p2 hp2 hne => by
            have hd : p2.1.2.2.1 ≠ e'.2.2.1 := fun e3 => hne (nodup_inj hnd (hmem p2 hp2) he e3)
            refine ⟨fun e3 => ?_, fun e3 => ?_, hd⟩
            · obtain ⟨_, h4, _⟩ := halx p2.1 (hmem p2 hp2) e3
              cases h4
            · obtain ⟨_, h4, _⟩ := hstx p2.1 (hmem p2 hp2) e3
              simp only [POp.mk.injEq, PK.sto.injEq, Arg.t.injEq, true_and] at h4
              exact hd h4.2.1.symm
          have hxd : ∀ x, v = .t x → ∀ p2 ∈ ord, p2.1.2.2.1 ≠ x := fun x hx p2 hp2 e3 => by
            by_cases hpe : p2.1 = e'
            · rw [hpe] at e3; exact hvx x hx e3.symm
            · obtain ⟨n1, n2, _⟩ := hother p2 hp2 hpe
              have := (hfree p2.1 (hmem p2 hp2) n1 n2 (2 * x) (by subst hx; simp [readsOf, needs, argsOf, softs])).1
              omega
          have hargT : argT (matS ord st1) v = argT st1 v := by
            cases v with
            | c _ => rfl
            | t x => exact getD_of_obs (matS_obs ord st1 (2 * x + 1) fun p2 hp2 e3 => hxd x rfl p2 hp2 (by omega))
          have htake : takeAt (matS ord st1) v = matS ord (takeAt st1 v) := by
            cases v with
            | c _ => rfl
            | t x =>
              have e3 : (matS ord st1).getD x .unit = st1.getD x .unit := hargT
              simp only [takeAt]
              rw [e3, matS_set ord st1 x _ (hxd x rfl)]
          have hz : zerosOf ps e' = cs := by
            simp only [zerosOf, List.getD_eq_getElem?_getD, g1, Option.getD_some]
          have hgX := matH_get ps l st1 ord e' b hm hkeys
          rw [hlj, if_neg (by simp), hz] at hgX
          have hsd : ((takeAt st1 v).set e'.2.2.1 (argT st1 v)).getD e'.2.2.1 .unit = argT st1 v := by
            have hlen : (takeAt st1 v).length = st1.length := by cases v <;> simp [takeAt]
            rw [List.getD_eq_getElem?_getD, List.getElem?_set, if_pos rfl, if_pos (by rw [hlen]; exact hsl1 e' he)]
            rfl
          unfold wpOp
          simp only [ho]
          rw [if_pos ((wanted_spec k3 hR1.tm).1 rfl)]
          refine .inl (Oper.wp_mono ?_ (step_sound (op := ⟨none, none, .sto e'.2.2.2 (.t e'.2.2.1) v⟩) (K := fun s3 H3 => s3 = takeAt (matS ord st1) v ∧ H3 = hset (matH ps l st1 ord ++ H') b (cellsOf (argT st1 v))) k2 k4 hR1 ?_))
          · rintro a2 w2 ⟨s3, H3, g2, ⟨rfl, rfl⟩, h2, h3⟩
            refine hN a2 w2 ⟨g2, ord, ?_, hE1.trans h3, fun e2 he2 => ?_, hmem, hnd1, fun e2 he2 => ?_⟩
            · have e1 : matS ord (putSt (ptake st1 (.mvc e'.2.2.2 v)) (some e'.2.2.1) (argT st1 v)) = takeAt (matS ord st1) v := by
                simp only [putSt, ptake]
                rw [matS_over ord _ _ _ ⟨_, hm, rfl⟩, htake]
              have e2 := matH_store ps l st1 ((takeAt st1 v).set e'.2.2.1 (argT st1 v)) (cellsOf (argT st1 v)) e'.2.1 ord e' b hm hkeys hnd1 rfl (by rw [hsd]) (fun p2 hp2 hne => by
                obtain ⟨n1, n2, n3⟩ := hother p2 hp2 hne
                refine ⟨fun e3 => n2 e3.symm, ?_⟩
                rw [List.getD_eq_getElem?_getD, List.getD_eq_getElem?_getD, List.getElem?_set, if_neg (Ne.symm n3)]
                cases v with
                | c _ => rfl
                | t x => rw [takeAt, List.getElem?_set, if_neg (Ne.symm (hxd x rfl p2 hp2))])
              rw [e1]
              rw [hset_app_left hgX, e2] at h2
              exact h2
            · have : (e2.1 == e'.2.1) = false := by
                simp only [beq_eq_false_iff_ne, ne_eq]
                intro e3
                obtain ⟨_, h4, _⟩ := halx e2 he2 e3.symm
                cases h4
              simp only [this, Bool.or_false]
              exact hiff e2 he2
            · have hlen : (takeAt st1 v).length = st1.length := by cases v <;> simp [takeAt]
              simp only [putSt, ptake, List.length_set, hlen]
              exact hsl1 e2 he2
          · refine ⟨b, 0, cs, ?_, ?_, ?_, ?_, ?_, ?_⟩
            · simp only [arg, argT]
              rw [matS_getD ord st1 e' b hm hds (hsl1 e' he)]
              rfl
            · rw [hget_app, hgX]
            · rw [hargT]; exact hrl
            · omega
            · rw [hargT]; exact hrc
            · refine ⟨rfl, ?_⟩
              rw [hargT, List.take_zero, List.nil_append, List.drop_of_length_le (by omega), List.append_nil]
        · -- any other
          have hnoal : isAl p.k = false := by
            cases hal : isAl p.k with
            | false => rfl
            | true =>
              have := List.all_eq_true.1 hals j (List.mem_range.2 hjlt)
              rw [hgetD, hal] at this
              simp only [Bool.not_true, Bool.false_or, List.any_eq_true, beq_iff_eq] at this
              obtain ⟨e, he, e1⟩ := this
              exact absurd ⟨e, he, e1.symm⟩ hA1
          have hqp : q = p := by
            rw [← hq]
            unfold virtOp
            split
            · rename_i e; rw [e] at hnoal; cases hnoal
            · have : news.find? (fun e => e.2.1 == j) = none := by
                rw [List.find?_eq_none]
                intro e he hb
                exact hB1 ⟨e, he, by simpa using (beq_iff_eq.1 hb).symm⟩
              rw [this]
            · rfl
          subst hqp
          have hfr : ∀ p2 ∈ ord, ∀ t ∈ readsOf q ++ writesOf q, t ≠ 2 * p2.1.2.2.1 ∧ t ≠ 2 * p2.1.2.2.1 + 1 := fun p2 hp2 => hfree p2.1 (hmem p2 hp2) (fun e => hA1 ⟨_, hmem p2 hp2, e⟩) (fun e => hB1 ⟨_, hmem p2 hp2, e⟩)
          have hloc := Ev_local hEv
          have hsame : Same (readsOf q) st1 (matS ord st1) := fun t ht => (matS_obs ord st1 t fun p2 hp2 e => by
            obtain ⟨h1, h2⟩ := hfr p2 hp2 t (List.mem_append_left _ ht)
            omega).symm
          have hEv2 := Ev_frame (X := matH ps l st1 ord) hA (Ev_slots hsame hEv)
          have hmatS : f (matS ord st1) = matS ord (f st1) := matS_slot hloc ord st1 fun p2 hp2 =>
            ⟨fun hm => (hfr p2 hp2 _ (List.mem_append_right _ hm)).1 rfl, fun hm => (hfr p2 hp2 _ (List.mem_append_right _ hm)).2 rfl⟩
          have hmatH : matH ps l st1 ord = matH ps (fun k => l k || k == j) (f st1) ord := matH_congr ord fun p2 hp2 => by
            constructor
            · have : (p2.1.2.1 == j) = false := by simpa using fun e => hB1 ⟨_, hmem p2 hp2, e.symm⟩
              simp [this]
            · exact getD_of_obs (hloc.rest st1 _ fun hm => (hfr p2 hp2 _ (List.mem_append_right _ hm)).2 rfl).symm
          refine op_any ho k2 k3 k4 hR1 hEv2 fun a2 w2 g2 h1 h2 => hN a2 w2 ⟨g2, ord, ?_, hE1.trans h2, fun e he => ?_, hmem, hnd1, fun e he => ?_⟩
          · rw [hmatS, hmatH] at h1
            exact h1
          · have : (e.1 == j) = false := by simpa using fun e2 => hA1 ⟨e, he, e2.symm⟩
            simp only [this, Bool.or_false]
            exact hiff e he
          · have := obs_lt (hloc.rest st1 (2 * e.2.2.1) fun hm => (hfree e he (fun e2 => hA1 ⟨e, he, e2⟩) (fun e2 => hB1 ⟨e, he, e2⟩) _ (List.mem_append_right _ hm)).1 rfl)
            have e3 : 2 * e.2.2.1 / 2 = e.2.2.1 := by omega
            rw [e3] at this
            exact this.2 (hsl1 e he)
      · rintro l a' w' st' H' hall hK ⟨g', ord, hR1, hE1, hiff, hmem, hnd1, hsl1⟩
        have hperm : (ord.map (·.1)).Perm news := by
          refine (List.perm_ext_iff_of_nodup hnd1 ?_).2 fun e => ⟨fun hm => ?_, fun he => ?_⟩
          · exact nodup_of_map hnd
          · obtain ⟨p2, hp2, rfl⟩ := List.mem_map.1 hm
            exact hmem p2 hp2
          · obtain ⟨cs, v, g1, _⟩ := hspec e he
            exact (hiff e he).1 (hall _ (by rw [← hpl]; exact (List.getElem?_eq_some_iff.1 g1).1))
        have hl2 : matH ps l st' ord = matH ps (fun _ => true) st' ord := matH_congr ord fun p2 hp2 => ⟨by
          obtain ⟨cs, v, _, g2, _⟩ := hspec p2.1 (hmem p2 hp2)
          exact hall _ (by rw [← hpl]; exact (List.getElem?_eq_some_iff.1 g2).1), rfl⟩
        rw [hl2] at hR1
        have hkeys : (ord.map (·.2)).Nodup := by
          have := (HRel_iff.1 hR1.hp).1
          rw [List.map_append, matH_keys] at this
          exact (List.nodup_append.1 this).1
        have hA : Apart (matH ps (fun _ => true) st' ord) H' := apart_of_HRel hR1.hp
        -- the block of each
        obtain ⟨bl, hbl⟩ : ∃ bl : Nw → Nat, ∀ p2 ∈ ord, bl p2.1 = p2.2 := block_of ord hnd1
        have ho2 : ord = (ord.map (·.1)).map fun e => (e, bl e) := by
          rw [List.map_map]
          conv => lhs; rw [← List.map_id ord]
          refine List.map_congr_left fun p2 hp2 => ?_
          simp [hbl p2 hp2]
        have hpo : ord.Perm (news.reverse.map fun e => (e, bl e)) := by
          rw [ho2]
          exact (hperm.trans (List.reverse_perm news).symm).map _
        have hdso : (ord.map (·.1.2.2.1)).Nodup := by
          have : ord.map (·.1.2.2.1) = (ord.map (·.1)).map (·.2.2.1) := by simp [List.map_map]
          rw [this]
          exact (hperm.map _).nodup_iff.2 hnd
        have hbn : (news.map bl).Nodup := by
          have h1 : (ord.map (·.2)) = (ord.map (·.1)).map bl := by
            rw [List.map_map]
            exact List.map_congr_left fun p2 hp2 => (hbl p2 hp2).symm
          rw [h1] at hkeys
          exact (hperm.map _).nodup_iff.1 hkeys
        have hfr : ∀ e ∈ news, hget H' (bl e) = none := fun e he => by
          cases hh : hget H' (bl e) with
          | none => rfl
          | some q =>
            have := hA _ _ hh
            obtain ⟨p2, hp2, rfl⟩ := List.mem_map.1 (hperm.mem_iff.2 he)
            rw [hbl p2 hp2] at this
            rw [matH_get ps _ st' ord p2.1 p2.2 hp2 hkeys] at this
            cases this
        have hKK := newK_perm ps (fun _ => true) (fun _ => rfl) bl news _ st' H' hK hnd hbn hfr
        refine ⟨.normal, _, _, g', rfl, hKK, ?_, hE1⟩
        rw [← matS_perm hpo hdso st']
        exact Rel_perm hR1 ((matH_perm ps _ st' hpo).append_right _)
    · cases hc
  case seq => obtain ⟨_, _, hc⟩ := bind_spec hc; obtain ⟨_, _, hc⟩ := map_spec hc; cases hc
  case cond => obtain ⟨_, _, hc⟩ := bind_spec hc; obtain ⟨_, _, hc⟩ := bind_spec hc; obtain ⟨_, _, hc⟩ := map_spec hc; cases hc
  case block => obtain ⟨_, _, hc⟩ := map_spec hc; cases hc
  case loop => obtain ⟨_, _, hc⟩ := map_spec hc; cases hc
  all_goals cases hc
theorem pwp_drawNS (hmix : P.follows .mixedOrders = true) {vops : List POp} {late : List (Nat × Nat)} {news : List Nw} (hsl : ∀ e ∈ news, e.2.2.1 < st.length)
    (h : ∀ K : List PV → Heap → Prop, (∀ st' H', Q .normal st' H' → K st' H') → planS P late vops 0 [] [] (newK news K) st H) : pwp P (.drawN vops late news) Q st H := pwp_drawN hmix hsl (planS_plan (h _ fun _ _ h => h))
theorem pwp_sn (hmix : P.follows .mixedOrders = true) {vops : List POp} {late : List (Nat × Nat)} {news : List Nw} {y : PCode} (hsl : ∀ e ∈ news, e.2.2.1 < st.length)
    (h : ∀ K : List PV → Heap → Prop, (∀ st' H', pwp P y Q st' H' → K st' H') → planS P late vops 0 [] [] (newK news K) st H) : pwp P (.seq (.drawN vops late news) y) Q st H :=
  pwp_seq (pwp_drawNS hmix hsl fun K hK => h K fun st' H' h' => hK st' H' h')
theorem MS_length (n : Nat) (l : List (Nat × PV)) : (MS n l).length = n := by simp [MS]
end
end Go.Proofs.Ytkjibelcaeanjaa.E
