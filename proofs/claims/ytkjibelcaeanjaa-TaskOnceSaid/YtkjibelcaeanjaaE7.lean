/- A logic of plain values, part 7: addresses, cuts, fields, conversions. -/
import Derived.Test.YtkjibelcaeanjaaE6
namespace Go.Proofs.Ytkjibelcaeanjaa.E
open Go Go.RowKit
set_option linter.unusedVariables false
set_option linter.unusedSimpArgs false
def iadP (sz : Nat) : PV → PV → Option PV
  | .lst s xs _, .int _ n => if 0 ≤ n ∧ n < xs.length ∧ s = sz then some (.ip s xs n.toNat 0) else none
  | .row b off len _, .int _ n => if 0 ≤ n ∧ n < len then some (.ptr (some (b, off + n.toNat * sz))) else none
  | _, _ => none
theorem iadP_run {P : Program} {t e : TypeId} {i : TypeInfo} (ht : P.underlying t = some (.slice e)) (hi : P.info? e = some i) {w : World} {g : Ghost} {x y r : PV} {v u : Value} {o o' : Bool}
    (h : iadP i.size x y = some r) (hx : VR o w g x v) (hy : VR o' w g y u) : ∃ z, (Instr.indexAt t v u).run P w = .ok z w ∧ VR true w g r z ∧ toks r z = [] := by
  unfold iadP at h
  split at h
  · rename_i s xs own k n
    split at h
    · rename_i hb
      obtain ⟨h1, h2, h3⟩ := hb
      cases h
      obtain ⟨A, cap, rfl, _, _, hr, _⟩ := hx
      cases hy
      rcases hr with hr | ⟨b, off, vs, rfl, hr, he⟩
      · subst hr; simp at h2; omega
      · refine ⟨.pointer (some ⟨b, off + n.toNat * i.size, none⟩), ?_, ⟨b, off, vs, by rw [h3]; rfl, by omega, hr, he⟩, by simp [toks]⟩
        simp [Instr.indexAt, asIntOf, run_underlying ht, run_sizeOf hi, h1, h2, addr_add]
    · cases h
  · rename_i b off len cap k n
    split at h
    · rename_i hb
      obtain ⟨h1, h2⟩ := hb
      cases h
      cases hx
      cases hy
      refine ⟨.pointer (some ⟨b, off + n.toNat * i.size, none⟩), ?_, rfl, by simp [toks]⟩
      simp [Instr.indexAt, asIntOf, run_underlying ht, run_sizeOf hi, h1, h2, addr_add]
    · cases h
  · cases h
def fadP (off : Nat) : PV → Option PV
  | .ip s xs i o => some (.ip s xs i (o + off))
  | .ptr (some (b, o)) => some (.ptr (some (b, o + off)))
  | _ => none
theorem fadP_run {P : Program} {s : TypeId} {fields : Array Field} {f : Field} {fi : Nat} {i : TypeInfo} (hs : P.underlying s = some (.struct fields)) (hf : fields[fi]? = some f) (hi : P.info? f.type = some i) (h0 : i.size ≠ 0)
    {w : World} {g : Ghost} {x r : PV} {v : Value} {o : Bool} (h : fadP f.offset x = some r) (hx : VR o w g x v) : ∃ z, (Instr.fieldAt s v fi).run P w = .ok z w ∧ VR true w g r z ∧ toks r z = [] := by
  unfold fadP at h
  split at h
  · cases h
    obtain ⟨b, base, vs, rfl, h1, h2, h3⟩ := hx
    refine ⟨_, ?_, ⟨b, base, vs, rfl, h1, h2, h3⟩, by simp [toks]⟩
    simp [Instr.fieldAt, run_underlying hs, hf, Instr.sureAddr, fieldPlace, run_sizeOf hi, h0, addr_add, Nat.add_assoc]
  · cases h
    cases hx
    refine ⟨_, ?_, rfl, by simp [toks]⟩
    simp [Instr.fieldAt, run_underlying hs, hf, Instr.sureAddr, fieldPlace, run_sizeOf hi, h0, addr_add]
  · cases h
def fldP (off sz : Nat) (ag : Bool) : PV → Option PV
  | .agg cs => (partP sz ag cs off).map lend
  | _ => none
theorem toList_extract' {α : Type} (a : Array α) (i j : Nat) : (a.extract i j).toList = (a.toList.drop i).take (j - i) := by simp
theorem fldP_run {P : Program} {s : TypeId} {fields : Array Field} {f : Field} {fi : Nat} {i : TypeInfo} {d : TypeDesc} (hs : P.underlying s = some (.struct fields)) (hf : fields[fi]? = some f) (hi : P.info? f.type = some i) (hd : P.underlying f.type = some d) (h0 : isAggD d = false → i.size = 1)
    {w : World} {g : Ghost} {x r : PV} {v : Value} {o : Bool} (h : fldP f.offset i.size (isAggD d) x = some r) (hx : VR o w g x v) : ∃ z, (Instr.field s v fi).run P w = .ok z w ∧ VR true w g r z ∧ toks r z = [] := by
  unfold fldP at h
  split at h
  · rename_i cs
    obtain ⟨q, h3, rfl⟩ := Option.map_eq_some_iff.mp h
    obtain ⟨hc, us, rfl, hv⟩ := hx
    obtain ⟨p1, p2, p3, p4⟩ := partP_spec h3 hc (VRl_weak _ _ hv) h0
    cases ha : isAggD d with
    | true =>
      refine ⟨_, ?_, p3 ha, toks_of_lend⟩
      have e : us.extract f.offset (f.offset + i.size) = ((us.toList.drop f.offset).take i.size).toArray := by
        apply Array.toList_inj.1
        rw [toList_extract', Nat.add_sub_cancel_left]
      simp only [Instr.field, part, asAgg, Sem.run_bind, run_underlying hs, Result.andThen_ok, hf, Sem.run_pure, run_isAgg hd, ha, if_true, run_sizeOf hi, e]
    | false =>
      obtain ⟨v, p5, p6⟩ := p4 ha
      refine ⟨v, ?_, p6, toks_of_lend⟩
      have e : us[f.offset]? = some v := by
        rw [List.getElem?_take, if_pos (by have := h0 ha; omega), List.getElem?_drop] at p5
        simpa using p5
      simp only [Instr.field, part, asAgg, Sem.run_bind, run_underlying hs, Result.andThen_ok, hf, Sem.run_pure, run_isAgg hd, ha, Bool.false_eq_true, if_false, e]
  · cases h
def idxP : PV → PV → Option PV
  | .str s, .int _ n => if 0 ≤ n then (s[n.toNat]?).map (.int .u8) else none
  | _, _ => none
theorem idxP_run {P : Program} {t : TypeId} (ht : P.underlying t = some .string) {w : World} {g : Ghost} {x y r : PV} {v u : Value} {o o' : Bool}
    (h : idxP x y = some r) (hx : VR o w g x v) (hy : VR o' w g y u) : ∃ z, (Instr.index t v u).run P w = .ok z w ∧ VR true w g r z ∧ toks r z = [] := by
  unfold idxP at h
  split at h
  · rename_i s k n
    split at h
    · rename_i h0
      obtain ⟨c, h1, rfl⟩ := Option.map_eq_some_iff.mp h
      obtain ⟨b, rfl, rfl⟩ := hx
      cases hy
      unfold bytesOf at h1
      rw [List.getElem?_map] at h1
      obtain ⟨q, h2, rfl⟩ := Option.map_eq_some_iff.mp h1
      have h3 : b[n.toNat]? = some q := by
        obtain ⟨hl, hq⟩ := List.getElem?_eq_some_iff.1 h2
        have hl2 : n.toNat < b.size := by rw [Array.length_toList] at hl; exact hl
        rw [getElem?_pos b n.toNat hl2]
        congr 1
      refine ⟨_, ?_, rfl, by simp [toks]⟩
      simp only [Instr.index, Sem.run_bind, asIntOf, Sem.run_pure, Result.andThen_ok, run_underlying ht, if_pos h0, h3]
    · cases h
  · cases h
def optN (d : Nat) : Option PV → Option Nat
  | none => some d
  | some (.int _ n) => if 0 ≤ n then some n.toNat else none
  | _ => none
def OptR (w : World) (g : Ghost) : Option PV → Option Value → Prop
  | none, none => True
  | some x, some v => ∃ o, VR o w g x v
  | _, _ => False
theorem run_bound {P : Program} {w : World} {g : Ghost} {x : PV} {v : Value} {o : Bool} {l y : Nat} {code : BoundsCode} (hx : VR o w g x v) (h : optN 0 (some x) = some l) (hy : l ≤ y) : (Instr.sliceBound v y code).run P w = .ok l w := by
  unfold optN at h
  cases x <;> try (simp at h)
  obtain ⟨h0, rfl⟩ := h
  cases hx
  simp only [Instr.sliceBound, asIntOf, Sem.run_bind, Sem.run_pure, Result.andThen_ok, Sem.run_ite]
  rw [if_pos ⟨h0, by omega⟩]
theorem optN_some (d : Nat) (x : PV) : optN d (some x) = optN 0 (some x) := by cases x <;> rfl
theorem run_bounds {P : Program} {w : World} {g : Ghost} {isS : Bool} {len cap l h m : Nat} {lo hi mx : Option PV} {vl vh vm : Option Value} (hl : OptR w g lo vl) (hh : OptR w g hi vh) (hm : OptR w g mx vm)
    (e1 : optN 0 lo = some l) (e2 : optN len hi = some h) (e3 : optN cap mx = some m) (hlh : l ≤ h) (hhm : h ≤ m) (hmc : m ≤ cap) (hmx : mx ≠ none → hi ≠ none) :
    (Instr.sliceBounds isS len cap vl vh vm).run P w = .ok (l, h, m) w := by
  have b1 : (match vm with | some v => Instr.sliceBound v cap (if isS = true then .slice3Acap else .slice3Alen) | none => pure cap : Sem Nat).run P w = .ok m w := by
    cases mx <;> cases vm <;> simp only [OptR] at hm
    · simp only [optN, Option.some.injEq] at e3; subst e3; rfl
    · obtain ⟨o, hm⟩ := hm
      rw [optN_some] at e3
      exact run_bound hm e3 hmc
  have b3 : ∀ v, vl = some v → ∀ code, (Instr.sliceBound v h code).run P w = .ok l w := by
    intro v hv code
    subst hv
    cases lo <;> simp only [OptR] at hl
    obtain ⟨o, hl⟩ := hl
    exact run_bound hl e1 hlh
  have b4 : vl = none → l = 0 := by
    intro hv
    subst hv
    cases lo <;> simp only [OptR] at hl
    simp only [optN, Option.some.injEq] at e1; exact e1.symm
  have b5 : ∀ v, vh = some v → ∀ code, (Instr.sliceBound v m code).run P w = .ok h w := by
    intro v hv code
    subst hv
    cases hi <;> simp only [OptR] at hh
    obtain ⟨o, hh⟩ := hh
    rw [optN_some] at e2
    exact run_bound hh e2 hhm
  have b6 : vh = none → h = len ∧ vm = none := by
    intro hv
    subst hv
    cases hi <;> simp only [OptR] at hh
    simp only [optN, Option.some.injEq] at e2
    refine ⟨e2.symm, ?_⟩
    cases mx with
    | none => cases vm <;> simp only [OptR] at hm; rfl
    | some q => exact absurd rfl (hmx (by simp))
  cases vh with
  | none =>
    obtain ⟨rfl, rfl⟩ := b6 rfl
    cases vl with
    | none => rw [b4 rfl]; simp only [Instr.sliceBounds, Sem.run_bind, b1, Result.andThen_ok, Sem.run_pure]
    | some v => simp only [Instr.sliceBounds, Sem.run_bind, b1, Result.andThen_ok, Sem.run_pure, b3 v rfl]
  | some u =>
    cases vm with
    | none =>
      cases vl with
      | none => rw [b4 rfl]; simp only [Instr.sliceBounds, Sem.run_bind, b1, Result.andThen_ok, Sem.run_pure, b5 u rfl]
      | some v => simp only [Instr.sliceBounds, Sem.run_bind, b1, Result.andThen_ok, Sem.run_pure, b3 v rfl, b5 u rfl]
    | some q =>
      cases vl with
      | none => rw [b4 rfl]; simp only [Instr.sliceBounds, Sem.run_bind, b1, Result.andThen_ok, Sem.run_pure, b5 u rfl]
      | some v => simp only [Instr.sliceBounds, Sem.run_bind, b1, Result.andThen_ok, Sem.run_pure, b3 v rfl, b5 u rfl]
def sliP (sz : Nat) (x : PV) (lo hi mx : Option PV) : Option PV :=
  match x with
  | .lst s xs _ => (optN 0 lo).bind fun l => (optN xs.length hi).bind fun h =>
    if l ≤ h ∧ h ≤ xs.length ∧ (s = sz ∨ xs.isEmpty = true) then
      match mx with
      | none => some (.lst s ((xs.take h).drop l) false)
      | some m => if optN 0 (some m) = some h ∧ hi.isSome = true then some (.lst s ((xs.take h).drop l) true) else none
    else none
  | .row b off len cap => (optN 0 lo).bind fun l => (optN len hi).bind fun h => (optN cap mx).bind fun m =>
    if l ≤ h ∧ h ≤ m ∧ m ≤ cap ∧ (mx.isSome = true → hi.isSome = true) then some (if m = l then .row b off 0 0 else .row b (off + l * sz) (h - l) (m - l)) else none
  | _ => none
theorem toks_full {sz : Nat} {xs : List PV} {A : Option Addr} {own : Bool} {n cap : Nat} (h : own = true → cap ≤ xs.length) : toks (.lst sz xs own) (.slice A n cap) = [] := by
  cases own with
  | false => simp [toks]
  | true =>
    cases A with
    | none => simp [toks]
    | some a => simp [toks, h rfl]
theorem sliP_run {P : Program} {t e : TypeId} {i : TypeInfo} (ht : P.underlying t = some (.slice e)) (hi : P.info? e = some i) {w : World} {g : Ghost} {x r : PV} {lo hh mx : Option PV} {v : Value} {vl vh vm : Option Value} {o : Bool}
    (h : sliP i.size x lo hh mx = some r) (hx : VR o w g x v) (hl : OptR w g lo vl) (hhr : OptR w g hh vh) (hm : OptR w g mx vm) :
    ∃ z, (Instr.sliceAt t v vl vh vm).run P w = .ok z w ∧ VR true w g r z ∧ toks r z = [] := by
  unfold sliP at h
  split at h
  · rename_i s xs own
    obtain ⟨l, e1, h⟩ := Option.bind_eq_some_iff.mp h
    obtain ⟨u, e2, h⟩ := Option.bind_eq_some_iff.mp h
    split at h
    · rename_i hb
      obtain ⟨b1, b2, b3⟩ := hb
      obtain ⟨A, cap, rfl, c1, c2, c3, _⟩ := hx
      have main : ∀ m own', (if own' = true then m = u else True) → u ≤ m → m ≤ cap → r = .lst s ((xs.take u).drop l) own' →
          VR true w g r (.slice (if m = l then A else A.map (fun a => a.add (l * i.size))) (u - l) (m - l)) ∧ toks r (.slice (if m = l then A else A.map (fun a => a.add (l * i.size))) (u - l) (m - l)) = [] := by
        intro m own' hown hum hmc hr
        subst hr
        have hlen : ((xs.take u).drop l).length = u - l := by rw [List.length_drop, List.length_take]; omega
        have hfull : own' = true → m - l ≤ ((xs.take u).drop l).length := fun ho => by rw [if_pos ho] at hown; omega
        refine ⟨⟨_, m - l, by rw [hlen], by omega, by omega, ?_, fun _ ho hlt => by have := hfull ho; omega⟩, toks_full hfull⟩
        by_cases hul : l = u
        · left
          apply List.eq_nil_of_length_eq_zero
          omega
        · have hne : xs ≠ [] := fun hn => by subst hn; simp at b2; omega
          rcases c3 with c3 | ⟨b, off, vs, rfl, hR, he⟩
          · exact absurd c3 hne
          · have hs : s = i.size := by
              rcases b3 with b3 | b3
              · exact b3
              · exact absurd (List.isEmpty_iff.1 b3) hne
            right
            have hml : m ≠ l := by omega
            refine ⟨b, off + l * i.size, (vs.drop (l * i.size)).take ((u - l) * i.size), ?_, ?_, ?_⟩
            · rw [if_neg hml]; simp [addr_add]
            · rw [hlen, hs]
              rw [hs] at hR
              exact hR.part _ _ (by rw [← Nat.add_mul]; exact Nat.mul_le_mul_right _ (by omega))
            · have q1 := (VRe_take (n := u) b2 he).1
              have q2 := (VRe_take (n := l) (by rw [List.length_take]; omega) q1).2
              have e : (vs.take (u * s)).drop (l * s) = (vs.drop (l * s)).take ((u - l) * s) := by rw [List.drop_take, ← Nat.sub_mul]
              rw [e, hs] at q2
              rw [hs]
              exact q2
      have run : ∀ m, (optN cap mx = some m) → u ≤ m → m ≤ cap → (mx ≠ none → hh ≠ none) → (Instr.sliceAt t (.slice A xs.length cap) vl vh vm).run P w = .ok (.slice (if m = l then A else A.map (fun a => a.add (l * i.size))) (u - l) (m - l)) w := by
        intro m e3 hum hmc hmx
        have hbs := run_bounds (P := P) (isS := true) (len := xs.length) (cap := cap) (m := m) hl hhr hm e1 e2 e3 b1 hum hmc hmx
        simp only [Instr.sliceAt, Instr.slice, Sem.run_bind, run_underlying ht, Result.andThen_ok, hbs, run_sizeOf hi, Sem.run_pure]
      cases mx with
      | none =>
        cases h
        obtain ⟨m1, m2⟩ := main cap false (by simp) (by omega) (by omega) rfl
        exact ⟨_, run cap rfl (by omega) (by omega) (fun h => absurd rfl h), m1, m2⟩
      | some q =>
        simp only at h
        split at h
        · rename_i hq
          cases h
          obtain ⟨m1, m2⟩ := main u true (by simp) (by omega) (by omega) rfl
          exact ⟨_, run u (by rw [optN_some]; exact hq.1) (by omega) (by omega) (fun _ hn => by have := hq.2; simp [hn] at this), m1, m2⟩
        · cases h
    · cases h
  · rename_i b off len cap
    obtain ⟨l, e1, h⟩ := Option.bind_eq_some_iff.mp h
    obtain ⟨u, e2, h⟩ := Option.bind_eq_some_iff.mp h
    obtain ⟨m, e3, h⟩ := Option.bind_eq_some_iff.mp h
    split at h
    · rename_i hb
      obtain ⟨b1, b2, b3, b4⟩ := hb
      simp only [VR] at hx
      subst hx
      have hbs := run_bounds (P := P) (isS := true) (len := len) (cap := cap) (m := m) hl hhr hm e1 e2 e3 b1 b2 b3 (fun h1 h2 => by
        subst h2
        cases mx with
        | none => exact h1 rfl
        | some q => exact absurd (b4 rfl) (by simp))
      refine ⟨.slice (if m = l then some ⟨b, off, none⟩ else (some ⟨b, off, none⟩ : Option Addr).map (fun a => a.add (l * i.size))) (u - l) (m - l), ?_, ?_, ?_⟩
      · simp only [Instr.sliceAt, Instr.slice, Sem.run_bind, run_underlying ht, Result.andThen_ok, hbs, run_sizeOf hi, Sem.run_pure]
      · cases h
        by_cases hml : m = l
        · rw [if_pos hml, if_pos hml]
          have h1 : u - l = 0 := by omega
          have h2 : m - l = 0 := by omega
          rw [h1, h2]
          rfl
        · rw [if_neg hml, if_neg hml]
          simp [VR, addr_add]
      · cases h
        split <;> simp [toks]
    · cases h
  · cases h
def slsP (x : PV) (lo hi : Option PV) : Option PV :=
  match x with
  | .str s => (optN 0 lo).bind fun l => (optN s.length hi).bind fun h => if l ≤ h ∧ h ≤ s.length then some (.str ((s.take h).drop l)) else none
  | _ => none
theorem bytesOf_extract (s : ByteArray) (l h : Nat) : bytesOf (s.extract l h) = ((bytesOf s).take h).drop l := by
  unfold bytesOf
  rw [← List.map_take, ← List.map_drop, List.drop_take]
  congr 1
  rw [ByteArray.data_extract]
  simp
theorem slsP_run {P : Program} {t : TypeId} (ht : P.underlying t = some .string) {w : World} {g : Ghost} {x r : PV} {lo hh : Option PV} {v : Value} {vl vh : Option Value} {o : Bool}
    (h : slsP x lo hh = some r) (hx : VR o w g x v) (hl : OptR w g lo vl) (hhr : OptR w g hh vh) :
    ∃ z, (Instr.sliceAt t v vl vh none).run P w = .ok z w ∧ VR true w g r z ∧ toks r z = [] := by
  unfold slsP at h
  split at h
  · obtain ⟨l, e1, h⟩ := Option.bind_eq_some_iff.mp h
    obtain ⟨u, e2, h⟩ := Option.bind_eq_some_iff.mp h
    split at h
    · rename_i hb
      cases h
      obtain ⟨s, rfl, rfl⟩ := hx
      rw [bytesOf_length] at e2 hb
      have hbs := run_bounds (P := P) (w := w) (g := g) (isS := false) (len := s.size) (cap := s.size) (m := s.size) (mx := none) (vm := none) hl hhr trivial e1 e2 rfl hb.1 hb.2 (Nat.le_refl _) (fun h => absurd rfl h)
      exact ⟨.string (s.extract l u), by simp [Instr.sliceAt, Instr.slice, run_underlying ht, hbs], ⟨_, rfl, bytesOf_extract s l u⟩, by simp [toks]⟩
    · cases h
  · cases h
def lenP (s : Bool) : PV → Option PV
  | .str l => if s then some (.int .i64 l.length) else none
  | .lst _ xs _ => if s then none else some (.int .i64 xs.length)
  | .row _ _ len _ => if s then none else some (.int .i64 len)
  | _ => none
theorem lenS_run {P : Program} {t ty : TypeId} (ht : P.underlying t = some .string) {w : World} {g : Ghost} {x r : PV} {v : Value} {o : Bool} (h : lenP true x = some r) (hx : VR o w g x v) :
    ∃ z, (Builtin.len_ #[t] ty #[v]).run P w = .ok z w ∧ VR true w g r z ∧ toks r z = [] := by
  unfold lenP at h
  split at h <;> simp at h
  subst h
  obtain ⟨s, rfl, rfl⟩ := hx
  exact ⟨.int .i64 s.size, by simp [Builtin.len_, run_underlying ht, goInt], by rw [bytesOf_length]; rfl, by simp [toks]⟩
theorem lenL_run {P : Program} {t ty e : TypeId} (ht : P.underlying t = some (.slice e)) {w : World} {g : Ghost} {x r : PV} {v : Value} {o : Bool} (h : lenP false x = some r) (hx : VR o w g x v) :
    ∃ z, (Builtin.len_ #[t] ty #[v]).run P w = .ok z w ∧ VR true w g r z ∧ toks r z = [] := by
  unfold lenP at h
  split at h <;> simp at h
  · rename_i xs _
    subst h
    obtain ⟨A, cap, rfl, _⟩ := hx
    exact ⟨.int .i64 xs.length, by simp [Builtin.len_, run_underlying ht, goInt], rfl, by simp [toks]⟩
  · rename_i len _
    subst h
    cases hx
    exact ⟨.int .i64 len, by simp [Builtin.len_, run_underlying ht, goInt], rfl, by simp [toks]⟩
def mmP (mx : Bool) : PV → PV → Option PV
  | .int k a, .int _ b => some (.int k (if mx then (if b > a then b else a) else (if b < a then b else a)))
  | _, _ => none
theorem mmP_run {P : Program} {ts : Array TypeId} {ty : TypeId} {mx : Bool} {w : World} {g : Ghost} {x y r : PV} {v u : Value} {o o' : Bool} (h : mmP mx x y = some r) (hx : VR o w g x v) (hy : VR o' w g y u) :
    ∃ z, ((if mx then Builtin.max_ else Builtin.min_) ts ty #[v, u]).run P w = .ok z w ∧ VR true w g r z ∧ toks r z = [] := by
  unfold mmP at h
  split at h
  · cases h
    cases hx
    cases hy
    cases mx
    · exact ⟨_, rfl, rfl, rfl⟩
    · exact ⟨_, rfl, rfl, rfl⟩
  · cases h
def extP (i : Nat) : PV → Option PV
  | .tup vs => vs[i]?
  | _ => none
def nckP : PV → Option PV
  | .ptr (some a) => some (.ptr (some a))
  | .ip s xs i o => some (.ip s xs i o)
  | _ => none
theorem nckP_run {P : Program} {a : Act} {x : Operand} {dst : Option Tmp} {ty : TypeId} {pos : String} {after : Array Edge} {gd : Option (Nat × Bool)} {w : World} {g : Ghost} {p r : PV} {o : Bool} (h : nckP p = some r) (hx : VR o w g p (a.eval x)) :
    (execOp a.eval ⟨dst, .nilCheck x, ty, pos, after, gd⟩).run P w = .ok (.value (a.eval x)) w ∧ VR true w g r (a.eval x) ∧ toks r (a.eval x) = [] := by
  unfold nckP at h
  split at h
  · cases h
    have hx' := hx
    simp only [VR] at hx
    exact ⟨by simp only [execOp, hx]; rfl, hx', by simp [toks]⟩
  · cases h
    have hx' := hx
    obtain ⟨b, base, vs, hx, _⟩ := hx
    exact ⟨by simp only [execOp, hx]; rfl, hx', by simp [toks]⟩
  · cases h
end Go.Proofs.Ytkjibelcaeanjaa.E
