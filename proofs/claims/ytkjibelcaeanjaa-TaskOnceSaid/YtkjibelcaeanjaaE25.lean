/- A logic of plain values, part 25: .. (4): the model's region. -/
import Derived.Test.YtkjibelcaeanjaaE24
namespace Go.Proofs.Ytkjibelcaeanjaa.E
open Go Go.RowKit
set_option linter.unusedVariables false
set_option linter.unusedSimpArgs false
theorem hpAt_succ : ∀ {tr : Trc} {H : Heap} {k : Nat} {f : List PV → List PV} {H' : Heap}, tr[k]? = some (f, H') → hpAt tr H (k + 1) = H'
  | [], H, k, f, H', h => by simp at h
  | p :: tr, H, 0, f, H', h => by
    simp at h
    subst h
    simp [hpAt]
  | p :: tr, H, k + 1, f, H', h => by
    simp at h
    simp only [hpAt]
    exact hpAt_succ h
theorem isLd_nsto {k : PK} (h : isLd k = true) : isSto k = false := by
  cases k with
  | ld s ag tk x => cases tk <;> first | rfl | cases h
  | _ => cases h
theorem Ev_nonsto {P : Program} {op : POp} {st : List PV} {H H' : Heap} {f : List PV → List PV} (h : Ev P op st H f H') (hs : isSto op.k = false) : H' = H := by
  obtain ⟨H2, _, q, _⟩ := Ev_same (st' := st) (H2 := H) (fun _ _ => rfl) h (fun e => absurd e (by rw [hs]; simp)) (fun _ _ r hr => hr)
  exact (q hs).1
theorem stAt_sel (tr : Trc) (st : List PV) (j : Nat) (hj : j ≤ tr.length) : stAt tr st j = selL (fun i => (tr.getD i ((fun s => s), [])).1) (fun _ => true) (List.range j) st := by
  induction j with
  | zero => rfl
  | succ j ih =>
    have hlt : j < tr.length := by omega
    rw [List.range_succ, selL_append, ← ih (by omega)]
    unfold stAt
    rw [List.take_succ_eq_append_getElem hlt, List.foldl_append]
    simp [selL, List.getD, List.getElem?_eq_getElem hlt]
section
variable {P : Program} {hint : Hint} {out : List Nat} {st : List PV} {H : Heap} {K : List PV → Heap → Prop}
theorem compOps_get : ∀ {all : Array Oper} {os : List Oper} {ps : List POp}, compOps P hint all os = some ps → ps.length = os.length ∧ ∀ (k : Nat) (o : Oper), os[k]? = some o → ∃ q : POp, ps[k]? = some q ∧ compOp P (rh P hint all) o = some q.k ∧ compGd all o.guard = some q.gd ∧ q.dst = o.dst
  | all, [], ps, h => by cases h; exact ⟨rfl, fun k o e => by simp at e⟩
  | all, o :: os, ps, h => by
    obtain ⟨k, hk, h⟩ := bind_spec h
    obtain ⟨gd, hg, h⟩ := bind_spec h
    obtain ⟨qs, hq, rfl⟩ := map_spec h
    obtain ⟨i1, i2⟩ := compOps_get hq
    refine ⟨by simp [i1], fun j o' e => ?_⟩
    cases j with
    | zero =>
      simp at e
      subst e
      exact ⟨_, rfl, hk, hg, rfl⟩
    | succ j => exact i2 j o' (by simpa using e)
theorem drew_rel {a : Act} {w : World} {g : Ghost} (h : Rel out st H a w g) : Rel out st H a { w with drawn := w.drawn + 1 } g ∧ Evol out w g { w with drawn := w.drawn + 1 } g := by
  have hE : ∀ o : List Nat, Evol o w g { w with drawn := w.drawn + 1 } g := fun o => ⟨rfl, rfl, rfl, Nat.le_refl _, fun _ _ h => ⟨rfl, h⟩, fun b f c e fz h hc => ⟨c, fz, hc, rfl, .inr ⟨f, Nat.le_refl _, h⟩⟩, fun _ _ => ⟨rfl, rfl⟩⟩
  obtain ⟨q1, q2⟩ := HRel.keep (hE (toksH w H)) (fun b hb => ⟨rfl, hb⟩) h.hp (fun _ h => h)
  exact ⟨⟨⟨h.wr.fresh, h.wr.tl, h.wr.outT⟩, q1, VRl_mono (hE (toksL st a.tmps.toList)) true st _ (fun _ _ h => h) h.tm, fun b => by rw [q2]; exact h.un b, h.df⟩, hE out⟩
/-- A region in any order; R: what ties the data to the model. -/
theorem draw_core {all : Array Oper} {pops : List POp} {late : List (Nat × Nat)} (hlen : pops.length = all.size) (hd : drawLate all.toList pops = some late) (hplan : planOps P late pops 0 [] [] K st H)
    {a0 : Act} {w0 : World} {QQ : Exit → Act → World → Prop} {R : (Nat → Bool) → List PV → Heap → Act → World → Prop} (h0 : R (fun _ => false) st H a0 w0)
    (hstp : ∀ (j : Nat) (o : Oper) (q : POp) (l : Nat → Bool) (st : List PV) (H : Heap) (f : List PV → List PV) (H' : Heap) (a : Act) (w : World) (N : Act → World → Prop), all[j]? = some o → pops[j]? = some q → R l st H a w → Ev P q st H f H' → l j = false →
      (∀ i p, i < j → pops[i]? = some p → indepB p q = false → l i = true) → (∀ i p, j < i → i < all.size → pops[i]? = some p → indepB q p = false → l i = false) →
      (∀ a' w', R (fun k => l k || k == j) (f st) H' a' w' → N a' w') → wpOp P all QQ j N a w)
    (hQ : ∀ l a' w' st' H', (∀ k, k < all.size → l k = true) → K st' H' → R l st' H' a' w' → QQ .normal a' w') :
    wpAny P .any all QQ all.size (Array.replicate all.size false) a0 w0 := by
  obtain ⟨tr, hT⟩ := plan_told hplan
  have hn : pops.length = all.size := hlen
  have htl : tr.length = all.size := by rw [hT.len, hn]
  -- the looks at the edges
  unfold drawLate at hd
  simp only at hd
  obtain ⟨hchk, hlate⟩ := ite_spec hd
  simp only [Option.some.injEq] at hlate
  simp only [Bool.and_eq_true, List.all_eq_true, List.mem_range, decide_eq_true_eq, Bool.or_eq_true] at hchk
  obtain ⟨hedge, hord⟩ := hchk
  have hsz : all.toList.length = all.size := rfl
  rw [hsz] at hedge hord hlate
  have opOf : ∀ j, j < all.size → ∃ o q, all[j]? = some o ∧ pops[j]? = some q ∧ True := fun j hj => ⟨all[j], pops[j]'(by omega), Array.getElem?_eq_getElem hj, List.getElem?_eq_getElem (by omega), trivial⟩
  have popD : ∀ j q, pops[j]? = some q → pops.getD j default = q := fun j q h => by rw [List.getD_eq_getElem?_getD, h]; rfl
  have hbefore : ∀ (p : Nat → Bool), (∀ k o, all.toList[k]? = some o → p k = true → ∀ e ∈ edgesOf o, p e = true) → ∀ k j, k < all.size → p k = true → ((befores all.toList []).getD k 0).testBit j = true → p j = true := fun p hp k j hk => before_closed hp k j hk
  -- what two operations without an order between them have apart
  have hind : ∀ j k qj qk, j < k → k < all.size → pops[j]? = some qj → pops[k]? = some qk → ((befores all.toList []).getD k 0).testBit j = false →
      (∀ t ∈ writesOf qj, t ∉ readsOf qk ∧ t ∉ writesOf qk) ∧ (∀ t ∈ writesOf qk, t ∉ readsOf qj) ∧ ¬ (isSto qj.k = true ∧ isSto qk.k = true) ∧ (isLd qj.k = true → isSto qk.k = true → (j, k) ∈ late) ∧ (isSto qj.k = true → isLd qk.k = true → (k, j) ∈ late) := by
    intro j k qj qk hjk hk e1 e2 hb
    have h1 := (hord k hk j hjk).resolve_left (by rw [hb]; simp)
    rw [popD j qj e1, popD k qk e2] at h1
    simp only [indepB, apartB, Bool.and_eq_true, List.all_eq_true, Bool.not_eq_true', List.contains_eq_mem, decide_eq_false_iff_not, List.mem_append, not_or] at h1
    obtain ⟨⟨⟨⟨i1, i2⟩, i3⟩, _⟩, _⟩ := h1
    have hl : ∀ p ∈ latePairs j k qj qk, p ∈ late := fun p hp => by
      rw [← hlate]
      refine List.mem_flatMap.2 ⟨k, List.mem_range.2 hk, List.mem_flatMap.2 ⟨j, List.mem_range.2 hjk, ?_⟩⟩
      rw [hb, popD j qj e1, popD k qk e2]
      simpa using hp
    refine ⟨i1, i2, fun ⟨s1, s2⟩ => ?_, fun l s => hl _ ?_, fun s l => hl _ ?_⟩
    · rw [s1, s2] at i3; cases i3
    · simp [latePairs, l, s]
    · simp [latePairs, l, s]
  have hnc : ∀ j s qs, (j, s) ∈ late → pops[s]? = some qs → isCpy qs.k = false := by
    intro j s qs h e
    rw [← hlate] at h
    obtain ⟨k, hk, h⟩ := List.mem_flatMap.1 h
    obtain ⟨i, hi, h⟩ := List.mem_flatMap.1 h
    rw [List.mem_range] at hk hi
    split at h
    · cases h
    · rename_i hb
      have h1 := (hord k hk i hi).resolve_left hb
      simp only [indepB, Bool.and_eq_true, Bool.not_eq_true'] at h1
      obtain ⟨⟨⟨_, _⟩, i4⟩, i5⟩ := h1
      simp only [latePairs, List.mem_append] at h
      rcases h with h | h
      · split at h
        · rename_i hc
          simp only [List.mem_singleton, Prod.mk.injEq] at h
          obtain ⟨rfl, rfl⟩ := h
          rw [popD _ qs e] at i4
          simp only [Bool.and_eq_true] at hc
          rw [hc.1] at i4
          simpa using i4
        · cases h
      · split at h
        · rename_i hc
          simp only [List.mem_singleton, Prod.mk.injEq] at h
          obtain ⟨rfl, rfl⟩ := h
          rw [popD _ qs e] at i5
          simp only [Bool.and_eq_true] at hc
          rw [hc.2] at i5
          simpa using i5
        · cases h
  generalize hF : (fun i => (tr.getD i ((fun s => s), [])).1) = F
  have hFi : ∀ i f H', tr[i]? = some (f, H') → F i = f := fun i f H' h => by rw [← hF]; simp only [List.getD_eq_getElem?_getD, h, Option.getD_some]
  have hW : ∀ i, Slotwise (F i) (writesOf (pops.getD i default)) := fun i => by
    by_cases hi : i < all.size
    · obtain ⟨o, q, _, q1, _⟩ := opOf i hi
      obtain ⟨f, H', t1, t2⟩ := hT.ev i q q1
      rw [hFi i f H' t1, popD i q q1]
      exact Ev_local t2
    · have : tr[i]? = none := List.getElem?_eq_none (by omega)
      rw [← hF]
      simp only [List.getD_eq_getElem?_getD, this, Option.getD_none]
      exact Slotwise.id.sub (by simp)
  -- the blocks between stores
  have hconst' : ∀ d m, m + d ≤ all.size → (∀ s q, m ≤ s → s < m + d → pops[s]? = some q → isSto q.k = false) → hpAt tr H m = hpAt tr H (m + d) := by
    intro d
    induction d with
    | zero => intro m _ _; rfl
    | succ d ih =>
      intro m hm hs
      rw [ih m (by omega) (fun s q h1 h2 => hs s q h1 (by omega))]
      obtain ⟨o, q, _, q1, _⟩ := opOf (m + d) (by omega)
      obtain ⟨f, H', t1, t2⟩ := hT.ev (m + d) q q1
      rw [← Nat.add_assoc, hpAt_succ t1]
      exact (Ev_nonsto t2 (hs (m + d) q (by omega) (by omega) q1)).symm
  have hconst : ∀ m m', m ≤ m' → m' ≤ all.size → (∀ s q, m ≤ s → s < m' → pops[s]? = some q → isSto q.k = false) → hpAt tr H m = hpAt tr H m' := fun m m' h1 h2 h3 => by
    have := hconst' (m' - m) m (by omega) (fun s q q1 q2 => h3 s q q1 (by omega))
    rwa [show m + (m' - m) = m' by omega] at this
  -- what a load sees while stores that no edge orders pass
  have hload : ∀ j qj, j < all.size → pops[j]? = some qj → isLd qj.k = true → liveAt (stAt tr st j) qj → ∀ d m, m + d ≤ all.size →
      (∀ s q, m ≤ s → s < m + d → pops[s]? = some q → isSto q.k = true → (j, s) ∈ late) → ∀ r, pev (stAt tr st j) (hpAt tr H m) qj.k = some r ↔ pev (stAt tr st j) (hpAt tr H (m + d)) qj.k = some r := by
    intro j qj hj hqj hld hlv d
    induction d with
    | zero => intro m _ _ r; exact Iff.rfl
    | succ d ih =>
      intro m hm hs r
      rw [ih m (by omega) (fun s q h1 h2 => hs s q h1 (by omega)) r]
      obtain ⟨o, q, _, q1, _⟩ := opOf (m + d) (by omega)
      obtain ⟨f, H', t1, t2⟩ := hT.ev (m + d) q q1
      rw [← Nat.add_assoc, hpAt_succ t1]
      by_cases hsq : isSto q.k = true
      · have hlt := hs (m + d) q (by omega) (by omega) q1 hsq
        -- a store
        have key : ∀ (hE0 : Ev0 P q (stAt tr st (m + d)) (hpAt tr H (m + d)) f H'), liveAt (stAt tr st (m + d)) q → (pev (stAt tr st j) (hpAt tr H (m + d)) qj.k = some r ↔ pev (stAt tr st j) H' qj.k = some r) := by
          intro hE0 hlvs
          unfold Ev0 at hE0
          have hncq := hnc _ _ _ hlt q1
          cases hk : q.k <;> rw [hk] at hsq hE0 hncq <;> (first | (cases hsq; done) | (cases hncq; done) | skip)
          case ld s ag tk x =>
            cases tk with
            | false => cases hsq
            | true =>
              obtain ⟨b, off, cs, r2, p1, p2, p3, p4, p5, rfl⟩ := hE0
              have hll : (lendL ((cs.drop off).take s)).length = s := by rw [lendL_eq_map, List.length_map, List.length_take, List.length_drop]; omega
              have := ld_hset (st := stAt tr st j) (ds := lendL ((cs.drop off).take s)) p2 (by rw [hll]; exact p4) hld (r := r) fun c hcc => by
                rw [hll]
                exact hT.pr j (m + d) qj q hqj q1 hlv hlvs c _ hcc (by rw [hk]; simp [stCells, p1]) (by simpa using hlt)
              rw [hll] at this
              exact this
          obtain ⟨b, off, cs, p1, p2, p3, p4, p5, p6, rfl⟩ := hE0
          subst p3
          refine ld_hset p2 p4 hld fun c hcc => ?_
          exact hT.pr j (m + d) qj q hqj q1 hlv hlvs c _ hcc (by rw [hk]; simp [stCells, p1]) (by simpa using hlt)
        unfold Ev at t2
        split at t2
        · rename_i hg
          exact key t2 (by unfold liveAt; rw [hg]; trivial)
        · rename_i t want hg
          obtain ⟨b, hb, t2⟩ := t2
          split at t2
          · rename_i hbw
            exact key t2 (by unfold liveAt; rw [hg]; show _ = _; rw [hb, hbw])
          · rw [t2.2]
      · rw [Ev_nonsto t2 (by simpa using hsq)]
  -- the induction over what has been done
  have main : ∀ (fuel : Nat) (listed : Array Bool) (a : Act) (w : World), listed.size = all.size → fuel + listed.toList.count true = all.size →
      (∀ k o, all.toList[k]? = some o → listed.getD k false = true → ∀ e ∈ edgesOf o, listed.getD e false = true) →
      (∃ m, R (fun k => listed.getD k false) (selL F (fun i => listed.getD i false) (List.range all.size) st) (hpAt tr H m) a w ∧ m ≤ all.size ∧ ∀ s q, pops[s]? = some q → isSto q.k = true → (s < m ↔ listed.getD s false = true)) →
      wpAny P .any all QQ fuel listed a w := by
    have getDt : ∀ (l : Array Bool) k, l.size = all.size → k < all.size → l.getD k true = l.getD k false := fun l k hl hk => by
      simp [Array.getD_eq_getD_getElem?, Array.getElem?_eq_getElem (show k < l.size by omega)]
    have allTrue : ∀ (l : Array Bool), l.size = all.size → Region.ready .any all l = [] → ∀ k, k < all.size → l.getD k false = true := by
      intro l hl hr k
      induction k using Nat.strongRecOn with
      | _ k ih =>
        intro hk
        cases hf : l.getD k false with
        | true => rfl
        | false =>
          have : k ∈ Region.ready .any all l := by
            refine mem_ready.2 ⟨by rw [getDt l k hl hk]; exact hf, all[k], Array.getElem?_eq_getElem hk, fun e he hb => ?_⟩
            have hee : e.on ∈ edgesOf all[k] := List.mem_map.2 ⟨e, List.mem_filter.2 ⟨Array.mem_toList_iff.2 he, hb⟩, rfl⟩
            have hlt := hedge k hk e.on (by
              rw [List.getD_eq_getElem?_getD, Array.getElem?_toList, Array.getElem?_eq_getElem hk]
              exact hee)
            exact ih e.on hlt (by omega)
          rw [hr] at this
          cases this
    have finish : ∀ (l : Array Bool) (a : Act) (w : World), l.size = all.size → (∀ k, k < all.size → l.getD k false = true) →
        (∃ m, R (fun k => l.getD k false) (selL F (fun i => l.getD i false) (List.range all.size) st) (hpAt tr H m) a w ∧ m ≤ all.size ∧ ∀ s q, pops[s]? = some q → isSto q.k = true → (s < m ↔ l.getD s false = true)) → QQ .normal a w := by
      rintro l a w hl hall ⟨m, hR, hm, hst⟩
      refine hQ _ a w _ _ hall ?_ hR
      have e1 : selL F (fun i => l.getD i false) (List.range all.size) st = stAt tr st pops.length := by
        rw [stAt_sel tr st pops.length (by omega), hF, hn]
        have : ∀ (r : List Nat) (s : List PV), (∀ i ∈ r, i < all.size) → selL F (fun i => l.getD i false) r s = selL F (fun _ => true) r s := by
          intro r
          induction r with
          | nil => intro s _; rfl
          | cons i r ih =>
            intro s hr
            have := ih (F i s) (fun i hi => hr i (by simp [hi]))
            simp only [selL, List.foldl_cons, hall i (hr i (by simp)), if_true] at this ⊢
            exact this
        exact this _ _ (fun i hi => List.mem_range.1 hi)
      have e2 : hpAt tr H m = hpAt tr H pops.length := by
        rw [hn]
        refine hconst m all.size hm (Nat.le_refl _) fun s q h1 h2 h3 => ?_
        cases hs : isSto q.k with
        | false => rfl
        | true => exact absurd ((hst s q h3 hs).2 (hall s h2)) (by omega)
      rw [e1, e2]
      exact hT.fin
    intro fuel
    induction fuel with
    | zero =>
      intro listed a w hl hcnt hdown hJ
      have hall : ∀ k, k < all.size → listed.getD k false = true := by
        intro k hk
        have h1 : listed.toList.count true = listed.toList.length := by
          show _ = listed.size
          omega
        have h2 := List.count_eq_length.1 h1 listed[k] (Array.mem_toList_iff.2 (Array.getElem_mem _))
        simp [Array.getD_eq_getD_getElem?, Array.getElem?_eq_getElem (show k < listed.size by omega), ← h2]
      refine ⟨?_, finish listed a w hl hall hJ⟩
      apply List.eq_nil_iff_forall_not_mem.2
      intro k hk
      obtain ⟨h1, o, ho, _⟩ := mem_ready.1 hk
      have hlt : k < all.size := (Array.getElem?_eq_some_iff.1 ho).1
      rw [getDt listed k hl hlt, hall k hlt] at h1
      cases h1
    | succ fuel ih =>
      intro listed a w hl hcnt hdown hJ
      refine ⟨fun hr => finish listed a w hl (allTrue listed hl hr) hJ, fun j hj => ?_⟩
      obtain ⟨hjun, o', ho', hjall⟩ := mem_ready.1 hj
      have hjlt : j < all.size := (Array.getElem?_eq_some_iff.1 ho').1
      rw [getDt listed j hl hjlt] at hjun
      obtain ⟨oo, q, ho, hq, _⟩ := opOf j hjlt
      have hoo : o' = oo := by rw [ho] at ho'; exact (Option.some.inj ho').symm
      obtain rfl : oo = o' := hoo.symm
      generalize oo = o at *
      obtain ⟨f, H', t1, t2⟩ := hT.ev j q hq
      obtain ⟨m, hR, hm, hst⟩ := hJ
      have hjdown : ∀ e ∈ edgesOf o, listed.getD e false = true := fun e he => by
        obtain ⟨e', h1, rfl⟩ := List.mem_map.1 he
        obtain ⟨h1, h2⟩ := List.mem_filter.1 h1
        exact hjall e' (Array.mem_toList_iff.1 h1) h2
      -- with j done, too
      have hbj : ∀ i, i < all.size → ((befores all.toList []).getD j 0).testBit i = true → i ≠ j → listed.getD i false = true := fun i hi hb hne => by
        have := hbefore (fun k => listed.getD k false || k == j) (fun k o2 hk2 hp e he => by
          simp only [Bool.or_eq_true, beq_iff_eq] at hp ⊢
          rcases hp with hp | rfl
          · exact .inl (hdown k o2 hk2 hp e he)
          · have : o2 = o := by rw [Array.getElem?_toList, ho] at hk2; exact (Option.some.inj hk2).symm
            subst this
            exact .inl (hjdown e he)) j i hjlt (by simp) hb
        simpa [hne] using this
      have hnj : ∀ k, j < k → k < all.size → listed.getD k false = true → ((befores all.toList []).getD k 0).testBit j = false := fun k hjk hk hlk => by
        cases hb : ((befores all.toList []).getD k 0).testBit j with
        | false => rfl
        | true =>
          have := hbefore (fun k => listed.getD k false) hdown k j hk hlk hb
          rw [hjun] at this
          cases this
      -- what j reads is as in the text's order
      have hreads : Same (readsOf q) (stAt tr st j) (selL F (fun i => listed.getD i false) (List.range all.size) st) := by
        intro t ht
        rw [stAt_sel tr st j (by omega), hF]
        refine sel_reads hW hjlt hjun st (fun i hi => ?_) (fun i hji hi hli => ?_)
        · cases hb : ((befores all.toList []).getD j 0).testBit i with
          | true => exact .inl (hbj i (by omega) hb (by omega))
          | false =>
            obtain ⟨oi, qi, _, hqi, _⟩ := opOf i (by omega)
            rw [popD i qi hqi]
            exact .inr fun hw => ((hind i j qi q hi hjlt hqi hq hb).1 t hw).1 ht
        · obtain ⟨oi, qi, _, hqi, _⟩ := opOf i hi
          rw [popD i qi hqi]
          exact fun hw => (hind j i q qi hji hi hq hqi (hnj i hji hi hli)).2.1 t hw ht
      have hstore : isSto q.k = true → hpAt tr H j = hpAt tr H m ∧ m ≤ j := by
        intro hs
        have hmj : m ≤ j := by
          rcases Nat.lt_or_ge j m with h | h
          · have := (hst j q hq hs).1 h
            rw [hjun] at this
            cases this
          · exact h
        refine ⟨(hconst m j hmj (by omega) fun s qs h1 h2 h3 => ?_).symm, hmj⟩
        cases hss : isSto qs.k with
        | false => rfl
        | true =>
          -- stores are in order
          cases hb : ((befores all.toList []).getD j 0).testBit s with
          | true => exact absurd ((hst s qs h3 hss).2 (hbj s (by omega) hb (by omega))) (by omega)
          | false => exact absurd ⟨hss, hs⟩ (hind s j qs q h2 hjlt h3 hq hb).2.2.1
      have hld : liveAt (stAt tr st j) q → isLd q.k = true → ∀ r, pev (stAt tr st j) (hpAt tr H j) q.k = some r → pev (stAt tr st j) (hpAt tr H m) q.k = some r := by
        intro hlv hl2 r hr
        have hns : isSto q.k = false := isLd_nsto hl2
        rcases Nat.le_total m j with hmj | hmj
        · have := hload j q hjlt hq hl2 hlv (j - m) m (by omega) (fun s qs h1 h2 h3 h4 => by
            cases hb : ((befores all.toList []).getD j 0).testBit s with
            | true => exact absurd ((hst s qs h3 h4).2 (hbj s (by omega) hb (by omega))) (by omega)
            | false => exact (hind s j qs q (by omega) hjlt h3 hq hb).2.2.2.2 h4 hl2) r
          rw [show m + (j - m) = j by omega] at this
          exact this.2 hr
        · have := hload j q hjlt hq hl2 hlv (m - j) j (by omega) (fun s qs h1 h2 h3 h4 => by
            have hne : s ≠ j := fun e => by subst e; rw [hq] at h3; cases h3; rw [hns] at h4; cases h4
            have hls : listed.getD s false = true := (hst s qs h3 h4).1 (by omega)
            exact (hind j s q qs (by omega) (by omega) hq h3 (hnj s (by omega) (by omega) hls)).2.2.2.1 hl2 h4) r
          rw [show j + (m - j) = m by omega] at this
          exact this.1 hr
      obtain ⟨H2', hEv, hEn, hEs⟩ := Ev_same hreads t2 (fun hs => (hstore hs).1) hld
      -- the next state
      have hFj : F j = f := hFi j f H' t1
      have hnext : ∀ (a' : Act) (w' : World), R (fun k => listed.getD k false || k == j) (f (selL F (fun i => listed.getD i false) (List.range all.size) st)) H2' a' w' → wpAny P .any all QQ fuel (listed.setIfInBounds j true) a' w' := by
        intro a' w' hR'
        have hgs : ∀ k, (listed.setIfInBounds j true).getD k false = (listed.getD k false || k == j) := fun k => by
          by_cases hkj : k = j
          · subst hkj
            simp [Array.getD_eq_getD_getElem?, Array.getElem?_setIfInBounds, show k < listed.size by omega]
          · rw [getD_set_ne false (Ne.symm hkj)]
            simp [hkj]
        refine ih _ a' w' (by simp [hl]) ?_ (fun k o2 hk2 hlk e he => ?_) ⟨if isSto q.k then j + 1 else m, ?_, ?_, fun s qs h3 h4 => ?_⟩
        · have hjl : j < listed.toList.length := by show j < listed.size; omega
          have hfalse : listed.toList[j] = false := by
            have : listed[j]'(by omega) = false := by
              simpa [Array.getD_eq_getD_getElem?, Array.getElem?_eq_getElem (show j < listed.size by omega)] using hjun
            simpa using this
          rw [Array.toList_setIfInBounds, List.count_set hjl, hfalse]
          rw [if_neg (by simp), if_pos (by simp)]
          omega
        · rw [hgs] at hlk ⊢
          simp only [Bool.or_eq_true, beq_iff_eq] at hlk ⊢
          rcases hlk with hlk | rfl
          · exact .inl (hdown k o2 hk2 hlk e he)
          · have : o2 = o := by rw [Array.getElem?_toList, ho] at hk2; exact (Option.some.inj hk2).symm
            subst this
            exact .inl (hjdown e he)
        · have e1 : selL F (fun i => (listed.setIfInBounds j true).getD i false) (List.range all.size) st = f (selL F (fun i => listed.getD i false) (List.range all.size) st) := by
            rw [← hFj, sel_step hW hjlt hjun st (fun i hji hi hli t ht => ?_)]
            · congr 1
              funext i
              exact hgs i
            · obtain ⟨oi, qi, _, hqi, _⟩ := opOf i hi
              rw [popD j q hq] at ht
              rw [popD i qi hqi]
              exact ((hind j i q qi hji hi hq hqi (hnj i hji hi hli)).1 t ht).2
          rw [e1, show (fun k => (listed.setIfInBounds j true).getD k false) = fun k => listed.getD k false || k == j from funext hgs]
          cases hs : isSto q.k with
          | true =>
            simp only [if_true]
            rw [hpAt_succ t1, ← hEs hs]
            exact hR'
          | false =>
            simp only [Bool.false_eq_true, if_false]
            rw [← (hEn hs).2]
            exact hR'
        · split <;> omega
        · rw [hgs]
          simp only [Bool.or_eq_true, beq_iff_eq]
          cases hs : isSto q.k with
          | true =>
            simp only [if_true]
            have hmj := (hstore hs).2
            constructor
            · intro h
              by_cases hsj : s = j
              · exact .inr hsj
              · left
                cases hb : ((befores all.toList []).getD j 0).testBit s with
                | true => exact hbj s (by omega) hb hsj
                | false => exact absurd ⟨h4, hs⟩ (hind s j qs q (by omega) hjlt h3 hq hb).2.2.1
            · rintro (h | h)
              · have := (hst s qs h3 h4).2 h
                omega
              · omega
          | false =>
            simp only [Bool.false_eq_true, if_false]
            constructor
            · intro h
              exact .inl ((hst s qs h3 h4).1 h)
            · rintro (h | h)
              · exact (hst s qs h3 h4).2 h
              · subst h
                rw [hq] at h3
                cases h3
                rw [hs] at h4
                cases h4
      exact hstp j o q _ _ _ f H2' a w _ ho hq hR hEv hjun (fun i p hi hp hip => by
        cases hb : ((befores all.toList []).getD j 0).testBit i with
        | true => exact hbj i (by omega) hb (by omega)
        | false =>
          have h1 := (hord j hjlt i hi).resolve_left (by rw [hb]; simp)
          rw [popD i p hp, popD j q hq, hip] at h1
          cases h1) (fun i p hi hia hp hip => by
        cases hli : listed.getD i false with
        | false => rfl
        | true =>
          have hb := hnj i hi hia hli
          have h1 := (hord i hia j hi).resolve_left (by rw [hb]; simp)
          rw [popD i p hp, popD j q hq, hip] at h1
          cases h1) hnext
  refine main all.size (Array.replicate all.size false) a0 w0 (by simp) (by simp [List.count_replicate]) (fun k o _ h => ?_) ⟨0, ?_, Nat.zero_le _, fun s q _ _ => ?_⟩
  · simp [Array.getD_eq_getD_getElem?, Array.getElem?_replicate] at h
    split at h <;> simp at h
  · have : ∀ (l : List Nat), selL F (fun i => (Array.replicate all.size false).getD i false) l st = st := by
      intro l
      have hp : ∀ i, (Array.replicate all.size false).getD i false = false := fun i => by
        simp [Array.getD_eq_getD_getElem?, Array.getElem?_replicate]
        split <;> rfl
      simp only [selL, hp]
      induction l with
      | nil => rfl
      | cons i l ih => simpa using ih
    rw [this, show hpAt tr H 0 = H by cases tr <;> rfl]
    rw [show (fun k => (Array.replicate all.size false).getD k false) = fun _ => false from funext fun k => by
      simp [Array.getD_eq_getD_getElem?, Array.getElem?_replicate]
      split <;> rfl]
    exact h0
  · constructor
    · intro h; omega
    · intro h
      simp [Array.getD_eq_getD_getElem?, Array.getElem?_replicate] at h
      split at h <;> simp at h
/-- One operation of a region whose order is drawn. -/
theorem op_any {a : Act} {w : World} {g : Ghost} {all : Array Oper} {j : Nat} {o : Oper} {q : POp} {f : List PV → List PV} {H' : Heap} {QQ : Exit → Act → World → Prop} {N : Act → World → Prop} (ho : all[j]? = some o) (hk : compOp P (rh P hint all) o = some q.k) (hgd : compGd all o.guard = some q.gd) (hdst : q.dst = o.dst)
    (hR : Rel out st H a w g) (hEv : Ev P q st H f H') (hN : ∀ a' w' g', Rel out (f st) H' a' w' g' → Evol out w g w' g' → N a' w') : wpOp P all QQ j N a w := by
  have hstep : Ev0 P q st H f H' → o.wp P a w N QQ := fun hE0 =>
    Oper.wp_mono (fun a' w' ⟨st', H3, g', ⟨q1, q2⟩, q3, q4⟩ => by subst q1 q2; exact hN a' w' g' q3 q4) (Ev0_step (K := fun s2 H3 => s2 = f st ∧ H3 = H') hk hdst hR hE0 ⟨rfl, rfl⟩)
  unfold wpOp
  simp only [ho]
  obtain ⟨w1, w2⟩ := wanted_spec hgd hR.tm
  unfold Ev at hEv
  cases hg : q.gd with
  | none =>
    rw [hg] at hEv
    rw [if_pos (w1 hg)]
    exact .inl (hstep hEv)
  | some p =>
    obtain ⟨t, want⟩ := p
    rw [hg] at hEv
    obtain ⟨b, hb, hEv⟩ := hEv
    have hw := w2 t want b hg hb
    by_cases hbw : b = some want
    · rw [if_pos hbw] at hEv
      rw [if_pos (by rw [hw]; simp [hbw])]
      exact .inl (hstep hEv)
    · rw [if_neg hbw] at hEv
      rw [if_neg (by rw [hw]; simp [hbw])]
      obtain ⟨e1, e2⟩ := hEv
      refine hN _ _ g ?_ (Evol.refl _ _ _)
      rw [e1, e2, hdst]
      exact put_rel hR _
theorem draw_sound {all : Array Oper} {pops : List POp} {late : List (Nat × Nat)} (hc : compOps P hint all all.toList = some pops) (hd : drawLate all.toList pops = some late) (hplan : planOps P late pops 0 [] [] K st H)
    {a0 : Act} {w0 : World} {g0 : Ghost} (h0 : Rel out st H a0 w0 g0) {QQ : Exit → Act → World → Prop} (hQ : ∀ a' w', After out w0 g0 K a' w' → QQ .normal a' w') :
    wpAny P .any all QQ all.size (Array.replicate all.size false) a0 w0 := by
  obtain ⟨hlen, hget⟩ := compOps_get hc
  refine draw_core (R := fun _ st H a w => ∃ g, Rel out st H a w g ∧ Evol out w0 g0 w g) hlen hd hplan ⟨g0, h0, Evol.refl _ _ _⟩ ?_ (fun _ a' w' st' H' _ hK ⟨g, h1, h2⟩ => hQ a' w' ⟨st', H', g, hK, h1, h2⟩)
  rintro j o q _ st H f H' a w N ho hq ⟨g, hR, hE⟩ hEv _ _ _ hN
  have ho2 : all.toList[j]? = some o := by rw [Array.getElem?_toList]; exact ho
  obtain ⟨q', q1, q2, q3, q4⟩ := hget j o ho2
  rw [hq] at q1
  cases q1
  exact op_any ho q2 q3 q4 hR hEv fun a' w' g' h1 h2 => hN a' w' ⟨g', h1, hE.trans h2⟩
end
end Go.Proofs.Ytkjibelcaeanjaa.E
