/- A logic of plain values, part 26: what a row hands over, read as plain values. -/
import Derived.Test.YtkjibelcaeanjaaE20
import Derived.SizedLaws
import Derived.ChangeSlices
import Derived.ChangeArms
import Derived.WideShapes
import Derived.Below
import Derived.DataElems
namespace Go.Proofs.Ytkjibelcaeanjaa.E
open Go Go.RowKit Go.ChangeShapes Go.WideShapes
set_option linter.unusedVariables false
set_option linter.unusedSimpArgs false
/-- Less is known of blocks that are no longer looked at. -/
theorem pwp_drop {P : Program} {Q : PPost} {st : List PV} {H H2 : Heap} {pc : PCode} (hs : H2.Sublist H) (h : pwp P pc Q st H2) : pwp P pc Q st H := by
  intro hh c hc out a w g hR
  obtain ⟨s1, s2⟩ := sub_HRel hs hR.hp
  refine h hh c hc out a w g ⟨hR.wr, s1, hR.tm, fun b => ?_, hR.df⟩
  have := hR.un b
  have := s2 b
  omega
/-- Everything that stands ahead of a row is only read. -/
abbrev gI : Ghost := fun _ => .imm
structure OpnV (P : Program) (t : TypeId) (sz : Nat) (ok : List PV → Prop) : Prop where
  cells : P.cellsOf t = sz
  op : ∀ {H : Type} {enc : TypeId × Value → H} {w : World} {base : Nat} {spare : Nat → Bool} {held : Bool} {fuel : Nat} {cs : List Value} {x : DataW H × List MemPlace},
    DataW.trod enc P w base spare held fuel t cs = some x → (∀ n ∈ x.1.weights P t, n ≤ reachBytes) →
      ∃ ps, ps.all PV.isCell = true ∧ VRl true w gI ps cs ∧ toksL ps cs = [] ∧ ok ps
theorem OpnV.int {P : Program} {t : TypeId} {k : IntKind} (ht : P.underlying t = some (.int k)) (hc : P.cellsOf t = 1) : OpnV P t 1 (fun ps => ∃ n, ps = [.int k n] ∧ (Lit.int k n).wf = true) :=
  ⟨hc, fun h _ => by
    obtain ⟨n, rfl, _, hw⟩ := DataW.trod_int ht h
    exact ⟨[.int k n], rfl, ⟨_, _, rfl, rfl, rfl⟩, by simp [toksL, toks], n, rfl, hw⟩⟩
theorem OpnV.bool {P : Program} {t : TypeId} (ht : P.underlying t = some .bool) (hc : P.cellsOf t = 1) : OpnV P t 1 (fun ps => ∃ b, ps = [.bool b]) :=
  ⟨hc, fun h _ => by
    obtain ⟨b, rfl, _⟩ := DataW.trod_bool ht h
    exact ⟨[.bool b], rfl, ⟨_, _, rfl, rfl, rfl⟩, by simp [toksL, toks], b, rfl⟩⟩
theorem OpnV.string {P : Program} {t : TypeId} (ht : P.underlying t = some .string) (hc : P.cellsOf t = 1) : OpnV P t 1 (fun ps => ∃ s : ByteArray, ps = [.str (bytesOf s)] ∧ s.size ≤ 140737488351232) :=
  ⟨hc, fun h hz => by
    obtain ⟨s, rfl, rfl, _⟩ := DataW.trod_string ht h
    refine ⟨[.str (bytesOf s)], rfl, ⟨_, _, rfl, ⟨s, rfl, rfl⟩, rfl⟩, by simp [toksL, toks], s, rfl, ?_⟩
    have := hz s.data.toList.length (by simp [DataW.weights])
    rw [Array.length_toList] at this
    exact this⟩
theorem exists_row {α : Type} {p : Nat → α → Prop} : ∀ n : Nat, (∀ i, i < n → ∃ a, p i a) → ∃ l : List α, l.length = n ∧ ∀ i a, l[i]? = some a → p i a
  | 0, _ => ⟨[], rfl, fun i a h => by simp at h⟩
  | n + 1, h => by
    obtain ⟨l, hl, hp⟩ := exists_row n (fun i hi => h i (by omega))
    obtain ⟨a, ha⟩ := h n (by omega)
    refine ⟨l ++ [a], by simp [hl], fun i b hb => ?_⟩
    rcases Nat.lt_or_ge i l.length with hi | hi
    · rw [List.getElem?_append_left hi] at hb; exact hp i b hb
    · rw [List.getElem?_append_right hi] at hb
      have h0 : i - l.length = 0 := by
        rcases Nat.eq_zero_or_pos (i - l.length) with h0 | h0
        · exact h0
        · rw [List.getElem?_eq_none (by simp; omega)] at hb; cases hb
      rw [h0] at hb
      simp at hb
      subst hb
      rw [show i = n by omega]
      exact ha
theorem weights_mem_all {H : Type} {P : Program} {e : TypeId} : ∀ {ds : List (DataW H)} {d : DataW H}, d ∈ ds → ∀ n ∈ d.weights P e, n ∈ DataW.weightsAll P e ds
  | d0 :: ds, d, hd, n, hn => by
    simp only [DataW.weightsAll, List.mem_append]
    rcases List.mem_cons.1 hd with rfl | hd
    · exact Or.inl hn
    · exact Or.inr (weights_mem_all hd n hn)
theorem VRe_of {w : World} {g : Ghost} {sz : Nat} : ∀ (xs : List PV) (vs : List Value), vs.length = xs.length * sz → (∀ i x, xs[i]? = some x → VRc w g sz x ((vs.drop (i * sz)).take sz)) → VRe w g sz xs vs
  | [], vs, h, _ => by
    simp at h
    subst h
    rfl
  | x :: xs, vs, h, hx => by
    refine VRe_cons.2 ⟨vs.take sz, vs.drop sz, (List.take_append_drop _ _).symm, by simpa using hx 0 x rfl, VRe_of xs _ ?_ fun i y hy => ?_⟩
    · rw [List.length_drop, h, List.length_cons, Nat.succ_mul]
      omega
    · have := hx (i + 1) y (by simpa using hy)
      rwa [Nat.succ_mul, Nat.add_comm, ← List.drop_drop] at this
theorem cells_block {w : World} {a : Addr} (h : (w.cell? a).isSome = true) : ∃ b off c e fz, a = ⟨b, off, none⟩ ∧ w.heap[b]? = some (.cells c e fz) ∧ ∀ j, w.cell? (a.add j) = c[off + j]? := by
  obtain ⟨b, off, sp⟩ := a
  unfold World.cell? at h
  split at h
  · rename_i c e fz hc
    simp only at hc h
    cases sp with
    | some s => simp at h
    | none =>
      refine ⟨b, off, c, e, fz, rfl, hc, fun j => ?_⟩
      unfold World.cell? Addr.add
      by_cases hj : j = 0
      · subst hj; simp [hc]
      · simp [hj, hc]
  · simp at h
/-- An element of a row: a struct's cells, or one cell. -/
def el (ag : Bool) (ok : List PV → Prop) (x : PV) : Prop := if ag then ∃ cs, x = .agg cs ∧ ok cs else ok [x]
theorem OpnV.slice {P : Program} {t e : TypeId} {B sz : Nat} {ok : List PV → Prop} (ag : Bool) (ht : P.underlying t = some (.slice e)) (hc : P.cellsOf t = 1) (hB : P.bytesOf e = B) (h : OpnV P e sz ok) (hag : ag = false → sz = 1) (hsz0 : 0 < sz) :
    OpnV P t 1 (fun ps => ∃ xs, ps = [.lst sz xs false] ∧ xs.length * B ≤ 140737488351232 ∧ xs.length ≤ maxLen ∧ ∀ x ∈ xs, el ag ok x) :=
  ⟨hc, fun {H enc w base spare held fuel cs x} hx hz => by
    rcases DataW.trod_slice ht hx with ⟨rfl, rfl⟩ | ⟨a, len, cap, elems, rest, n, _, rfl, rfl, hb, hl, hm, hlen, hel, _, _⟩
    · exact ⟨[.lst sz [] false], rfl, ⟨_, _, rfl, ⟨none, 0, rfl, Nat.le_refl _, Nat.zero_le _, .inl rfl, fun _ h => by cases h⟩, rfl⟩, by simp [toksL, toks], [], rfl, by simp, Nat.zero_le _, fun x hx => by cases hx⟩
    · have each : ∀ i, i < len → ∃ y : PV, (∃ c, VRc w gI sz y c ∧ ∀ j u, c[j]? = some u → w.cell? (a.add (i * sz + j)) = some u) ∧ el ag ok y := by
        intro i hi
        have h1 := hel i hi
        rw [List.getElem?_eq_getElem (by omega)] at h1
        obtain ⟨cs', hcs, hy⟩ := Option.bind_eq_some_iff.1 h1
        obtain ⟨_, hlen', hcell⟩ := World.cells?_some hcs
        obtain ⟨ps, p1, p2, p3, p4⟩ := h.op hy (fun m hm => hz m (by
          simp only [DataW.weights, ht]
          exact List.mem_cons_of_mem _ (List.mem_append_left _ (weights_mem_all (List.mem_map_of_mem (List.getElem_mem _)) m hm))))
        have hcl : ∀ j u, cs'[j]? = some u → w.cell? (a.add (i * sz + j)) = some u := fun j u hj => by
          have hjlt : j < P.cellsOf e := by
            rw [← hlen']
            exact (List.getElem?_eq_some_iff.1 hj).1
          have := hcell j hjlt
          rw [hj] at this
          rw [← h.cells, ← Go.Addr.add_add]
          exact this
        have hl1 := VRl_length p2
        rw [h.cells] at hlen'
        cases ag with
        | true => exact ⟨.agg ps, ⟨cs', ⟨hlen', .inl ⟨ps, rfl, p1, VRl_weak _ _ p2⟩⟩, hcl⟩, ps, rfl, p4⟩
        | false =>
          have h1 := hag rfl
          subst h1
          rcases ps with _ | ⟨y, ps⟩
          · simp only [List.length_nil] at hl1; omega
          · have : ps = [] := List.eq_nil_of_length_eq_zero (by simp only [List.length_cons] at hl1; omega)
            subst this
            obtain ⟨v, vs', rfl, q1, rfl⟩ := p2
            simp only [List.all_cons, List.all_nil, Bool.and_true] at p1
            exact ⟨y, ⟨[v], ⟨rfl, .inr ⟨p1, v, rfl, VR_weak _ _ q1⟩⟩, hcl⟩, p4⟩
      obtain ⟨xs, hxl, hp⟩ := exists_row len each
      have hsz := hz ((elems.length + rest.length) * P.bytesOf e) (by simp [DataW.weights, ht])
      have hle : len ≤ maxLen := Nat.le_trans hl hm
      refine ⟨[.lst sz xs false], rfl, ⟨_, _, rfl, ⟨some a, cap, by rw [hxl], by omega, hm, ?_, fun _ h => by cases h⟩, rfl⟩, by simp [toksL, toks], xs, rfl, ?_, by omega, ?_⟩
      · rcases Nat.eq_zero_or_pos len with hl0 | hl0
        · exact .inl (List.eq_nil_of_length_eq_zero (by omega))
        · right
          have hcell : ∀ i j, i < len → j < sz → (w.cell? (a.add (i * sz + j))).isSome = true := fun i j hi hj => by
            obtain ⟨⟨c, ⟨hcl, _⟩, hcc⟩, _⟩ := hp i xs[i] (List.getElem?_eq_getElem (by omega))
            rw [hcc j c[j] (List.getElem?_eq_getElem (by omega))]
            rfl
          have h00 := hcell 0 0 hl0 hsz0
          have ha0 : a.add (0 * sz + 0) = a := by simp [Addr.add]
          rw [ha0] at h00
          obtain ⟨b, off, c, e', fz, rfl, hblk, hcc⟩ := cells_block h00
          have hget : ∀ k, k < len * sz → ∃ u, c[off + k]? = some u := fun k hk => by
            have h1 := hcell (k / sz) (k % sz) ((Nat.div_lt_iff_lt_mul hsz0).2 hk) (Nat.mod_lt _ hsz0)
            rw [Nat.mul_comm, Nat.div_add_mod, hcc] at h1
            exact Option.isSome_iff_exists.1 h1
          have hfit : off + len * sz ≤ c.size := by
            have hpos : 0 < len * sz := Nat.mul_pos hl0 hsz0
            obtain ⟨u, hu⟩ := hget (len * sz - 1) (by omega)
            have := (Array.getElem?_eq_some_iff.1 hu).1
            omega
          have hvl : ((c.toList.drop off).take (len * sz)).length = len * sz := by
            rw [List.length_take, List.length_drop]
            have : c.toList.length = c.size := rfl
            omega
          refine ⟨b, off, _, rfl, ⟨c, e', fz, hblk, rfl, by rw [hxl]; exact hvl, .inl rfl⟩, VRe_of _ _ (by rw [hxl]; exact hvl) fun i x hx => ?_⟩
          obtain ⟨⟨cs', hv, hcx⟩, _⟩ := hp i x hx
          have hil : i < len := by rw [← hxl]; exact (List.getElem?_eq_some_iff.1 hx).1
          have : (((List.drop off c.toList).take (xs.length * sz)).drop (i * sz)).take sz = cs' := by
            apply List.ext_getElem?
            intro j
            rw [List.getElem?_take]
            by_cases hj : j < sz
            · have hjc : j < cs'.length := by rw [hv.1]; exact hj
              rw [if_pos hj, List.getElem?_drop, List.getElem?_take]
              have hlt : i * sz + j < xs.length * sz := by
                have : (i + 1) * sz ≤ xs.length * sz := Nat.mul_le_mul_right _ (by omega)
                rw [Nat.succ_mul] at this
                omega
              rw [if_pos hlt, List.getElem?_drop, List.getElem?_eq_getElem (l := cs') hjc]
              have h2 := hcx j (cs'[j]'hjc) (List.getElem?_eq_getElem hjc)
              rw [hcc, ← Array.getElem?_toList] at h2
              exact h2
            · rw [if_neg hj, List.getElem?_eq_none (by rw [hv.1]; omega)]
          rw [this]
          exact hv
      · rw [hB] at hsz
        rw [hxl]
        exact Nat.le_trans (Nat.mul_le_mul_right _ (by omega)) hsz
      · intro y hy
        obtain ⟨i, hi⟩ := List.getElem?_of_mem hy
        exact (hp i y hi).2⟩
theorem OpnV.weaken {P : Program} {t : TypeId} {sz : Nat} {ok ok' : List PV → Prop} (h : OpnV P t sz ok) (hw : ∀ a, ok a → ok' a) : OpnV P t sz ok' :=
  ⟨h.cells, fun hx hz => by
    obtain ⟨a, h1, h2, h3, h4⟩ := h.op hx hz
    exact ⟨a, h1, h2, h3, hw a h4⟩⟩
/-- Fields in line, from a cell on. -/
structure OpnVF (P : Program) (fs : List Field) (off sz : Nat) (ok : List PV → Prop) : Prop where
  op : ∀ {H : Type} {enc : TypeId × Value → H} {w : World} {base : Nat} {spare : Nat → Bool} {held : Bool} {n : Nat} {cs : List Value} {xs : List (DataW H × List MemPlace)},
    (∀ (i : Nat) (f : Field), fs[i]? = some f → DataW.trod enc P w base spare held n f.type ((cs.drop f.offset).take (P.cellsOf f.type)) = xs[i]?) → xs.length = fs.length →
    (∀ m ∈ DataW.weightsEach P (fs.map (·.type)) (xs.map (·.1)), m ≤ reachBytes) →
      ∃ ps, ps.all PV.isCell = true ∧ VRl true w gI ps ((cs.drop off).take sz) ∧ toksL ps ((cs.drop off).take sz) = [] ∧ ok ps
theorem OpnVF.one {P : Program} {f : Field} {off sz : Nat} {ok : List PV → Prop} (hoff : f.offset = off) (h : OpnV P f.type sz ok) : OpnVF P [f] off sz ok :=
  ⟨fun {H enc w base spare held n cs xs} hx hl hz => by
    match xs, hl with
    | [y], _ =>
      have h1 := hx 0 f rfl
      rw [h.cells, hoff] at h1
      exact h.op h1 (fun m hm => hz m (by simp only [List.map_cons, DataW.weightsEach, List.mem_append]; exact Or.inl hm))⟩
theorem OpnVF.cons {P : Program} {f : Field} {fs : List Field} {off sz sz' : Nat} {ok ok' : List PV → Prop} (hoff : f.offset = off) (h : OpnV P f.type sz ok) (hs : OpnVF P fs (off + sz) sz' ok') :
    OpnVF P (f :: fs) off (sz + sz') (fun ps => ∃ p q, ps = p ++ q ∧ ok p ∧ ok' q) :=
  ⟨fun {H enc w base spare held n cs xs} hx hl hz => by
    match xs, hl with
    | y :: ys, hl =>
      have h1 := hx 0 f rfl
      rw [h.cells, hoff] at h1
      obtain ⟨p, p1, p2, p3, p4⟩ := h.op h1 (fun m hm => hz m (by simp only [List.map_cons, DataW.weightsEach, List.mem_append]; exact Or.inl hm))
      obtain ⟨q, q1, q2, q3, q4⟩ := hs.op (xs := ys) (fun i f' hf => by simpa using hx (i + 1) f' (by simpa using hf)) (by simpa using hl) (fun m hm => hz m (by simp only [List.map_cons, DataW.weightsEach, List.mem_append]; exact Or.inr hm))
      have e : (cs.drop off).take (sz + sz') = (cs.drop off).take sz ++ (cs.drop (off + sz)).take sz' := by rw [List.take_add, List.drop_drop]
      refine ⟨p ++ q, by rw [List.all_append, p1, q1]; rfl, ?_, ?_, p, q, rfl, p4, q4⟩
      · rw [e]; exact VRl_append p2 q2
      · rw [e, toksL_append _ _ _ _ (VRl_length p2), p3, q3]; rfl⟩
theorem OpnV.struct {P : Program} {t : TypeId} {fs : Array Field} {sz : Nat} {ok : List PV → Prop} (ht : P.underlying t = some (.struct fs)) (hc : P.cellsOf t = sz) (h : OpnVF P fs.toList 0 sz ok) : OpnV P t sz ok :=
  ⟨hc, fun {H enc w base spare held fuel cs x} hx hz => by
    obtain ⟨xs, n, _, rfl, hl, hlen, hf⟩ := DataW.trod_struct ht hx
    obtain ⟨a, h1, h2, h3, h4⟩ := h.op (cs := cs) (xs := xs) (fun i f hi => hf i f (by simpa using hi)) (by simpa using hlen) (fun m hm => hz m (by simp only [DataW.weights, ht]; exact hm))
    rw [List.drop_zero, List.take_of_length_le (by omega)] at h2 h3
    exact ⟨a, h1, h2, h3, h4⟩⟩
/-- An argument of the row: one cell. -/
theorem OpnV.arg {P : Program} {t : TypeId} {ok : List PV → Prop} (h : OpnV P t 1 ok) {H : Type} {enc : TypeId × Value → H} {W : World} {base : Nat} {spare : Nat → Bool} {held : Bool} {v : Value} {x : DataW H} {ps : List MemPlace} {ts : List TypeId} {ds : List (DataW H)} {j : Nat}
    (hT : DataW.Trod enc P W base spare held t v x ps) (hsz : (DataW.weightsEach P ts ds).all (· ≤ reachBytes) = true) (ht : ts[j]? = some t) (hd : ds[j]? = some x) (hv : v.cells.toList = [v]) : ∃ p, VR true W gI p v ∧ toks p v = [] ∧ ok [p] := by
  obtain ⟨fuel, hf⟩ := hT
  obtain ⟨ps, h1, h2, h3, h4⟩ := h.op hf (fun n hn => by simpa using List.all_eq_true.1 hsz n (DataW.weights_mem_each ht hd n hn))
  rw [hv] at h2 h3
  have hl := VRl_length h2
  rcases ps with _ | ⟨p, ps⟩
  · simp at hl
  · have : ps = [] := List.eq_nil_of_length_eq_zero (by simp only [List.length_cons, List.length_nil] at hl; omega)
    subst this
    obtain ⟨v', vs', e, q1, q2⟩ := h2
    cases e
    exact ⟨p, q1, by simpa [toksL] using h3, h4⟩
/-- .. a struct. -/
theorem OpnV.argS {P : Program} {t : TypeId} {sz : Nat} {ok : List PV → Prop} (h : OpnV P t sz ok) {H : Type} {enc : TypeId × Value → H} {W : World} {base : Nat} {spare : Nat → Bool} {held : Bool} {cs : Array Value} {x : DataW H} {ps : List MemPlace} {ts : List TypeId} {ds : List (DataW H)} {j : Nat}
    (hT : DataW.Trod enc P W base spare held t (.agg cs) x ps) (hsz : (DataW.weightsEach P ts ds).all (· ≤ reachBytes) = true) (ht : ts[j]? = some t) (hd : ds[j]? = some x) : ∃ p, VR true W gI p (.agg cs) ∧ toks p (.agg cs) = [] ∧ ∃ qs, p = .agg qs ∧ ok qs := by
  obtain ⟨fuel, hf⟩ := hT
  obtain ⟨ps, h1, h2, h3, h4⟩ := h.op hf (fun n hn => by simpa using List.all_eq_true.1 hsz n (DataW.weights_mem_each ht hd n hn))
  exact ⟨.agg ps, ⟨h1, cs, rfl, h2⟩, by simp only [toks]; exact h3, ps, rfl, h4⟩
theorem Evol.below {w w' : World} {g' : Ghost} (h : Evol [] w gI w' g') : Below w.heap.size w w' := ⟨h.os, h.tape, h.output, h.size, fun k hk => (h.imm k hk rfl).1⟩
/-- A law's contract, for its row. -/
theorem row_of {P : Program} {f : Nat} {args : List PV} {vals : Array Value} {W : World} (h : PSpec P f args (.bool true)) (hv : VRl true W gI args vals.toList) (ht : toksL args vals.toList = []) :
    Calls P f vals W fun e w' => e = .returned (.bool true) ∧ Below W.heap.size W w' := by
  refine ((h []).2 [] W gI vals ⟨fun _ _ => rfl, fun _ _ h => (by cases h), fun b hb => (by cases hb)⟩ trivial hv (fun b => by rw [ht]; simp [toksH])).mono ?_
  rintro e w' ⟨v, r, H', g', rfl, ⟨rfl, _⟩, _, _, hr, _, hE⟩
  cases hr
  exact ⟨rfl, hE.below⟩
end Go.Proofs.Ytkjibelcaeanjaa.E
