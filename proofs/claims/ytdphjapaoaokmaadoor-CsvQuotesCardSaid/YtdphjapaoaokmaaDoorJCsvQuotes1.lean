/- Part 1 of the proof of CsvQuotes: what the program's functions come to. -/
import Derived.HandedShaped
import Derived.KernelRfl
import Derived.LaidMore
import Derived.Laws.Runes
import Derived.Lay
import Derived.Lib.DecodeN
import Derived.Lib.IndexLaws
import Derived.Scope
import Derived.Shelf.RegionOpenPlain
import Derived.Shelf.Small.Utf8
import Derived.Shelf.Strings.IndexAnyAll
import Derived.Shelf.Strings.Replace
import Derived.Shelf.Vars
import Derived.Test.YtdphjapaoaokmaaDoorL2
import Derived.Test.YtdphjapaoaokmaaDoorL3
import Derived.Test.YtdphjapaoaokmaaDoorProg
/- The wrap of a row that lists variables, the world's shape kept; the library's number. -/
namespace Go.Proofs.YtdphjapaoaokmaaDoor.E
open Go Go.RowKit Go.Proofs Go.WideShapes
variable {Hh : Type} {enc : TypeId × Value → Hh}
theorem handed_laid {a : Assume} {C : Checked} {os : Os} {f : FuncId} {fn : Func} {s : ChangeSpec} {conds : List PathCond} {apart fresh handsOn again : Bool} {X : World → Array Value → Prop}
    (hX : ∀ (w w' : World) (args : Array Value), w.heap = w'.heap → X w args → X w' args)
    (own : ownKnob C.prog.godebug = none) (started : os.Started) (noInit : C.prog.inits.idxOf? f = none) (hfn : C.prog.funcs[f]? = some fn)
    (witness : ∃ (w : World) (tape : Tape) (i : Input), w.os = os ∧ (w.forCall tape i).Shaped C.prog ∧ i.vars = [] ∧ Input.okWide C.prog (w.forCall tape i) .any w.heap.size f i ∧
      ((s.pre enc C.prog fn conds apart (w.forCall tape i).memory i.args ∧ X (w.forCall tape i).memory i.args) ∧ sizedMet enc C.prog fn (OpenSpec.ofChange s) apart (w.forCall tape i).memory i.args) ∧ a.holds C.prog (lone (Frame.enter C.prog f i.args .normal) [] (w.forCall tape i)))
    (contract : ∀ (W : World) (base : Nat) (args : Array Value) (ds gs : List (DataW Hh)) (before : List MemPlace),
      (∀ (j : Nat) t v, fn.params[j]? = some t → args[j]? = some v → Value.okWide C.prog W .any base t v) →
      DataW.Whole enc C.prog fn.params.toList s.vars apart W args.toList ds gs before →
      (DataW.weightsEach C.prog (fn.params.toList ++ s.plain.varTypes C.prog) (ds ++ gs)).all (· ≤ reachBytes) = true → X W args → W.ShapedOpen C.prog →
      Calls C.prog f args W fun e W' => ∃ v, e = .returned v ∧ s.post enc C.prog fn apart fresh handsOn again W args v W') :
    ReturnsInHanded a C os f .any (fun w args => (s.pre enc C.prog fn conds apart w args ∧ X w args) ∧ sizedMet enc C.prog fn (OpenSpec.ofChange s) apart w args) (s.post enc C.prog fn apart fresh handsOn again) := by
  refine returnsInHanded_of_calls own started noInit witness ?_
  intro w tape i _ hsh _ hok hpre hholds
  obtain ⟨_, _, _, fn', hfn', _, _, _, _, hval⟩ := hok
  have e : fn' = fn := Option.some.inj (hfn'.symm.trans hfn)
  subst e
  obtain ⟨⟨⟨ds, gs, before, hw, hc⟩, hx⟩, hz⟩ := hpre
  have hw' := DataW.Whole.of_heap (w' := w.forCall tape i) (by rfl) hw
  refine (contract (w.forCall tape i) w.heap.size i.args ds gs before hval hw' (hz.weights hw) (hX _ _ _ (by rfl) hx) hsh).mono fun e W' ⟨v, he, hp⟩ => ?_
  subst he
  exact ChangeSpec.post_blind hp
theorem GL_of_shape {W : World} {P : Program} (h : W.ShapedOpen P) (hT : ∀ n ∈ globTab, n < P.globals.size ∧ ∃ t zero, ((begin P (fun _ _ => 0) default).world.heap[n]?).bind Obj.row? = some (zero, t) ∧ zero.size = 1 ∧ P.buildable t = true ∧ P.cellTypes P.depth t = some [t] ∧ P.underlying t = some (.int .i64)) : GL W gI := fun n hn => by
  obtain ⟨h1, t, zero, h2, h3, h4, h5, h6⟩ := hT n hn
  obtain ⟨m, hm⟩ := cell_of_shapedOpen_int h h1 h2 h3 h4 h5 h6
  obtain ⟨cs, hh, hs, _⟩ := h.1 n zero t h1 h2
  refine ⟨rfl, m, t, (0, 0), ?_⟩
  have h0 : 0 < cs.size := by omega
  have e : cs = #[.int .i64 m] := by
    have e1 : cs[0]? = some (.int .i64 m) := by simpa [World.cell?, hh] using hm
    apply Array.ext_getElem?
    intro i
    by_cases hi : i = 0
    · rw [hi, e1]; rfl
    · rw [Array.getElem?_eq_none (by omega), Array.getElem?_eq_none (by simp; omega)]
  rw [hh, e]
end Go.Proofs.YtdphjapaoaokmaaDoor.E
/- strings.ContainsAny at any text, asked for ASCII bytes: over any program that bears the library's text. -/
namespace Go.Proofs
set_option linter.unusedVariables false
set_option linter.unusedSimpArgs false
open Go.Shelf Go.RowKit Go.Lib
variable {P : Program} {ρ : Ren}
theorem iter_below (w : World) (s : ByteArray) (pos : Nat) : Below w.heap.size w (w.iter s pos) := Below.alloc (Below.refl _ _) (Nat.le_refl _) _
set_option maxHeartbeats 2000000 in
set_option maxRecDepth 1000000 in
theorem Any.strings_IndexRune_err (L : Lays.n152 P ρ) (s : ByteArray) (w : World) (hascii : ∀ (j : Nat) b, s.data.toList[j]? = some b → b.toNat < 128) :
    Calls P (ρ.f 152) #[.string s, .int .i32 65533] w fun e w' => e = .returned (.int .i64 (-1)) ∧ Below w.heap.size w w' := by
  have HA : Aside (∀ (j : Nat) b, s.data.toList[j]? = some b → b.toNat < 128) := hascii
  clear hascii
  have t3 := L.t3; have a3 := L.a3; have z3 := L.z3; have v3 := L.v3
  have t4 := L.t4; have a4 := L.a4; have z4 := L.z4; have v4 := L.v4
  have t5 := L.t5; have a5 := L.a5; have z5 := L.z5; have v5 := L.v5
  have t9 := L.t9; have a9 := L.a9; have z9 := L.z9; have v9 := L.v9
  have t21 := L.t21; have a21 := L.a21; have z21 := L.z21; have v21 := L.v21
  have e137 : ∀ args w, (callFunc (ρ.f 137) args).run P w = .ok (.enter (ρ.f 137) args) w := enters_of L.f137 (by kernel_rfl) rfl
  go_enter L.f152, Body.n152_ntmps ρ
  go_wp2
  go_loopg [5, 6] s.size (fun g _ _ wx => ∃ i : Nat, i + g = s.size ∧ wx = w.iter s i)
  case atStart => exact ⟨0, by omega, rfl⟩
  case round =>
    obtain ⟨i, hig, rfl⟩ := hrel
    cases gk with
    | zero =>
      obtain rfl : i = s.size := by omega
      have hnx := run_next_end (P := P) w s s.size
      go_wp2
      go_ret
      exact ⟨rfl, iter_below _ _ _⟩
    | succ g =>
      have hi : i < s.size := by omega
      obtain ⟨x, hx⟩ : ∃ x : UInt8, s[i]'hi = x := ⟨_, rfl⟩
      have hx128 : x.toNat < 128 := HA.out i x (by rw [← hx]; exact Lib.data_getElem? s i hi)
      have hnx := fun ty => run_next_ascii (P := P) w s i ty hi (by rw [hx]; exact hx128)
      rw [hx] at hnx
      have hne : ¬ ((x.toNat : Int) = 65533) := by omega
      go_wp2
      go_roundg g
      case measure => omega
      case rel => exact ⟨i + 1, by omega, rfl⟩
theorem indexByte_far {l : List UInt8} {c : UInt8} (h : ∀ b ∈ l, b ≠ c) : Lib.indexByte l c = -1 := by
  induction l with
  | nil => rfl
  | cons x l ih =>
    have hx := h x (List.mem_cons_self ..)
    have hr := ih fun b hb => h b (List.mem_cons_of_mem _ hb)
    unfold Lib.indexByte
    rw [hr]
    simp [hx]
set_option maxHeartbeats 4000000 in
set_option maxRecDepth 1000000 in
theorem Any.strings_IndexRune_high (L : Lays.n152 P ρ) (s : ByteArray) (r : Int) (w : World) (hs : s.size < 4294967281) (hascii : ∀ (j : Nat) b, s.data.toList[j]? = some b → b.toNat < 128) (h0 : 128 ≤ r) (h1 : ¬ r = 65533) (h2 : Lib.validRune r = true) :
    Calls P (ρ.f 152) #[.string s, .int .i32 r] w fun e w' => e = .returned (.int .i64 (-1)) ∧ Below w.heap.size w w' := by
  have HA : Aside (∀ (j : Nat) b, s.data.toList[j]? = some b → b.toNat < 128) := hascii
  clear hascii
  have t3 := L.t3; have a3 := L.a3; have z3 := L.z3; have v3 := L.v3
  have t4 := L.t4; have a4 := L.a4; have z4 := L.z4; have v4 := L.v4
  have t5 := L.t5; have a5 := L.a5; have z5 := L.z5; have v5 := L.v5
  have t9 := L.t9; have a9 := L.a9; have z9 := L.z9; have v9 := L.v9
  have t21 := L.t21; have a21 := L.a21; have z21 := L.z21; have v21 := L.v21
  have e137 : ∀ args w, (callFunc (ρ.f 137) args).run P w = .ok (.enter (ρ.f 137) args) w := enters_of L.f137 (by kernel_rfl) rfl
  have e119 : ∀ args w, (callFunc (ρ.f 119) args).run P w = .ok (.enter (ρ.f 119) args) w := enters_of L.f119 (by kernel_rfl) rfl
  have hr128 : ¬ r < 128 := by omega
  obtain ⟨ht1, ht2, ht3⟩ := encode_facts r (by simp [Lib.validRune] at h2; simp [Utf8.valid]; omega) h0
  generalize ht : Utf8.encode r = t at ht1 ht2 ht3
  go_enter L.f152, Body.n152_ntmps ρ
  go_wp2_with (first | (go_at_fn (ρ.f 119); refine (Any.utf8_ValidRune { L with } _ _).mono ?_; rintro e w' ⟨rfl, hw⟩; rw [hw, h2]) | (go_at_fn (ρ.f 137); refine (Any.strings_IndexByte { L with } _ _ _).mono ?_; rintro e w' ⟨rfl, hw⟩; rw [hw]))
  refine wp_scope_straight ?_
  go_wp2
  have hw1 : IntKind.i64.wrap ((t.size : Int) - 1) = (t.size : Int) - 1 := wrap_small _ (by omega) (by omega)
  go_loopg [9] 0 (fun _ v wx => v = .int .i64 ((t.size : Int) - 1) ∧ wx = w)
  case atStart => exact ⟨rfl, rfl⟩
  case round =>
    obtain ⟨rfl, rfl⟩ := hrel
    by_cases hlt : (t.size : Int) - 1 < (s.size : Int)
    · obtain ⟨y, hy⟩ : ∃ y : UInt8, s[t.size - 1]'(by omega) = y := ⟨_, rfl⟩
      have hy128 : y.toNat < 128 := HA.out (t.size - 1) y (by rw [← hy]; exact Lib.data_getElem? s _ (by omega))
      obtain ⟨z, hz⟩ : ∃ z : UInt8, t[t.size - 1]'(by omega) = z := ⟨_, rfl⟩
      have hz128 : 128 ≤ z.toNat := by have := ht3 (by omega); rw [hz] at this; exact this
      have hyz : ¬ ((y.toNat : Int) = (z.toNat : Int)) := by omega
      clear ht3
      have hnat : ((t.size : Int) - 1).toNat = t.size - 1 := by omega
      have hi1 : (0 : Int) ≤ (t.size : Int) - 1 := by omega
      have mixed := L.mixed
      go_wp2
      refine wp_scope_straight ?_
      go_wp2
      go_region_o
      go_wp2
      have hj1 : ((t.size : Int) - 1 + 1).toNat = t.size := by omega
      have hb1 : (t.size : Int) ≤ (s.size : Int) := by omega
      have hb2 : t.size ≤ s.size := by omega
      have hb3 : (t.size : Int) - 1 + 1 = t.size := by omega
      have hb5 : IntKind.i64.wrap (t.size : Int) = (t.size : Int) := wrap_small _ (by omega) (by omega)
      have hb6 : IntKind.i64.wrap ((t.size : Int) - 1 + 1) = (t.size : Int) := by rw [hb3]; exact hb5
      have hib : Lib.indexByte (List.take (s.size - t.size) (List.drop t.size s.data.toList)) z = -1 := indexByte_far fun b hb e => by
        have hm := List.mem_of_mem_drop (List.mem_of_mem_take hb)
        obtain ⟨j, hj⟩ := List.mem_iff_getElem?.1 hm
        have := HA.out j b hj
        rw [e] at this
        omega
      have hb4 : (0 : Int) ≤ (t.size : Int) := by omega
      go_region_with_o (go_at_fn (ρ.f 137); refine (Any.strings_IndexByte { L with } _ _ _).mono ?_; rintro e w' ⟨rfl, hw⟩; rw [hw])
      all_goals go_wp2
      all_goals simp only [Exit.noGoto, Exit.inBlock, Exit.then]
      all_goals go_ret
      all_goals exact ⟨rfl, Below.drew (Below.drew (Below.refl _ _))⟩
    · go_wp2
      go_ret
      exact ⟨rfl, Below.refl _ _⟩
/-- The model's iterator over s, somewhere. -/
def HasIter (w : World) (b : Nat) (s : ByteArray) (pos : Nat) : Prop := w.heap[b]? = some (.stringIter s pos)
theorem run_next_any (w : World) (b : Nat) (s : ByteArray) (pos : Nat) (hb : HasIter w b s pos) (h : pos < s.size) :
    ∃ w1 : World, (∀ ty, (Instr.next (.pointer (some ⟨b, 0, none⟩)) true ty).run P w = .ok (.tuple #[.bool true, .int .i64 pos, .int .i32 ((Utf8.decode s pos).1 : Nat)]) w1) ∧
      HasIter w1 b s (pos + (Utf8.decode s pos).2) ∧ (∀ B, B ≤ b → Below B w w1) ∧ w1.heap.size = w.heap.size := by
  have hb : w.heap[b]? = some (.stringIter s pos) := hb
  have hlt := (Array.getElem?_eq_some_iff.1 hb).1
  cases hd : Utf8.decode s pos with
  | mk c k =>
    refine ⟨{ w with heap := w.heap.setIfInBounds b (.stringIter s (pos + k)) }, fun ty => ?_, ?_, fun B hB => ⟨rfl, rfl, rfl, by simp, fun j hj => ?_⟩, by simp⟩
    · simp only [Instr.next, getObj, setObj, Sem.run_bind, Sem.run, hb, Result.andThen, h, if_true, hd]
      simp [goInt, Sem.run, hb]
    · show (w.heap.setIfInBounds b (.stringIter s (pos + k)))[b]? = _
      simp [hlt]
    · show (w.heap.setIfInBounds b _)[j]? = _
      rw [Array.getElem?_setIfInBounds_ne (by omega)]
theorem run_next_over (w : World) (b : Nat) (s : ByteArray) (pos : Nat) (ty : TypeId) (hb : HasIter w b s pos) (h : ¬ pos < s.size) :
    (Instr.next (.pointer (some ⟨b, 0, none⟩)) true ty).run P w = .ok (.tuple #[.bool false]) w := by
  have hb : w.heap[b]? = some (.stringIter s pos) := hb
  simp [Instr.next, getObj, Sem.run, hb, h]
theorem HasIter.below {w w1 : World} {b : Nat} {s : ByteArray} {pos B : Nat} (h : HasIter w b s pos) (hB : Below B w w1) (hb : b < B) : HasIter w1 b s pos := (hB.block b hb).trans h
theorem get_data (s : ByteArray) (j : Nat) (h : j < s.size) : s.data.toList[j]? = some (s.get! j) := by
  have h' : j < s.data.toList.length := by rw [← Lib.size_eq]; exact h
  rw [List.getElem?_eq_getElem h']
  simp [ByteArray.get!]
  rw [getElem!_pos]
/-- What a byte past ASCII opens. -/
theorem decode_high (s : ByteArray) (pos : Nat) (h : pos < s.size) (hb : 128 ≤ (s.get! pos).toNat) :
    128 ≤ (Utf8.decode s pos).1 ∧ Lib.validRune ((Utf8.decode s pos).1 : Nat) = true ∧ 1 ≤ (Utf8.decode s pos).2 ∧ pos + (Utf8.decode s pos).2 ≤ s.size ∧ ∀ j, pos ≤ j → j < pos + (Utf8.decode s pos).2 → 128 ≤ (s.get! j).toNat := by
  rw [decode_at]
  have h0 : (s.get! pos).toNat < 256 := (s.get! pos).toNat_lt
  generalize e0 : (s.get! pos).toNat = b0 at *
  generalize e1 : (s.get! (pos + 1)).toNat = b1
  generalize e2 : (s.get! (pos + 2)).toNat = b2
  generalize e3 : (s.get! (pos + 3)).toNat = b3
  unfold decodeN Lib.validRune
  rw [if_neg (by omega)]
  have key : ∀ (c k : Nat), 128 ≤ c → (c < 55296 ∨ 57344 ≤ c ∧ c ≤ 1114111) → 1 ≤ k → pos + k ≤ s.size → (2 ≤ k → 128 ≤ b1) → (3 ≤ k → 128 ≤ b2) → (4 ≤ k → 128 ≤ b3) → k ≤ 4 →
      128 ≤ (c, k).1 ∧ decide (0 ≤ ((c, k).1 : Int) ∧ ((c, k).1 : Int) < 55296 ∨ 57343 < ((c, k).1 : Int) ∧ ((c, k).1 : Int) ≤ 1114111) = true ∧ 1 ≤ (c, k).2 ∧ pos + (c, k).2 ≤ s.size ∧ ∀ j, pos ≤ j → j < pos + (c, k).2 → 128 ≤ (s.get! j).toNat := by
    intro c k hc hv hk hl g1 g2 g3 hk4
    refine ⟨hc, decide_eq_true (by omega), hk, hl, fun j hj hj2 => ?_⟩
    have hj3 : j < pos + k := hj2
    rcases (show j = pos ∨ j = pos + 1 ∨ j = pos + 2 ∨ j = pos + 3 by omega) with rfl | rfl | rfl | rfl
    · omega
    · have := g1 (by omega); omega
    · have := g2 (by omega); omega
    · have := g3 (by omega); omega
  split
  · split
    · exact key _ 2 (by omega) (by omega) (by omega) (by omega) (by omega) (by omega) (by omega) (by omega)
    · exact key _ 1 (by omega) (by omega) (by omega) (by omega) (by omega) (by omega) (by omega) (by omega)
  · split
    · split
      · exact key _ 3 (by omega) (by omega) (by omega) (by omega) (by omega) (by omega) (by omega) (by omega)
      · exact key _ 1 (by omega) (by omega) (by omega) (by omega) (by omega) (by omega) (by omega) (by omega)
    · split
      · split
        · exact key _ 4 (by omega) (by omega) (by omega) (by omega) (by omega) (by omega) (by omega) (by omega)
        · exact key _ 1 (by omega) (by omega) (by omega) (by omega) (by omega) (by omega) (by omega) (by omega)
      · exact key _ 1 (by omega) (by omega) (by omega) (by omega) (by omega) (by omega) (by omega) (by omega)

set_option maxHeartbeats 8000000 in
set_option maxRecDepth 1000000 in
/-- s of at most 8 bytes, whatever they are; chars of two ASCII bytes or more. -/
theorem Any.strings_IndexAny_short8 (L : Lays.n153 P ρ) (s chars : ByteArray) (w : World) (h2 : 2 ≤ chars.size) (hcs : chars.size < 4294967281) (h8 : s.size ≤ 8) (hac : ∀ (j : Nat) b, chars.data.toList[j]? = some b → b.toNat < 128) :
    Calls P (ρ.f 153) #[.string s, .string chars] w fun e w' => e = .returned (.int .i64 (Lib.indexAny s.data.toList chars.data.toList)) ∧ Below w.heap.size w w' := by
  have HA : Aside (∀ (j : Nat) b, chars.data.toList[j]? = some b → b.toNat < 128) := hac
  clear hac
  have hemp : chars.toList.isEmpty = false := by
    rw [Lib.toList_data]
    cases h : chars.data.toList with
    | nil => have := Lib.size_eq chars; rw [h, List.length_nil] at this; omega
    | cons _ _ => rfl
  have hn1 : ((chars.size : Int) == 1) = false := beq_eq_false_iff_ne.2 (by omega)
  have h8z : decide ((8 : Int) < (s.size : Int)) = false := decide_eq_false (by omega)
  have t3 := L.t3; have a3 := L.a3; have z3 := L.z3; have v3 := L.v3
  have t4 := L.t4; have a4 := L.a4; have z4 := L.z4; have v4 := L.v4
  have t5 := L.t5; have a5 := L.a5; have z5 := L.z5; have v5 := L.v5
  have t9 := L.t9; have a9 := L.a9; have z9 := L.z9; have v9 := L.v9
  have t21 := L.t21; have a21 := L.a21; have z21 := L.z21; have v21 := L.v21
  have e152 : ∀ args w, (callFunc (ρ.f 152) args).run P w = .ok (.enter (ρ.f 152) args) w := enters_of L.f152 (by kernel_rfl) rfl
  have e226 : ∀ args w, (callFunc (ρ.f 226) args).run P w = .ok (.enter (ρ.f 226) args) w := enters_of L.f226 (by kernel_rfl) rfl
  go_enter L.f153, Body.n153_ntmps ρ
  go_wp2_with (go_at_fn (ρ.f 226); refine (Any.strings_shouldUseASCIISet { L with } _ _).mono ?_; rintro e w' ⟨rfl, hw⟩; rw [hw, h8z])
  go_loopg [9, 10] s.size (fun g _ _ wx => ∃ i : Nat, i ≤ s.size ∧ g = s.size - i ∧ HasIter wx w.heap.size s i ∧ Below w.heap.size w wx ∧ Nat.lt w.heap.size wx.heap.size ∧ Lib.NoAny s.data.toList chars.data.toList i)
  case atStart => exact ⟨0, by omega, by omega, World.iter_heap _ _ _, iter_below _ _ _, by show w.heap.size < (w.heap.push _).size; rw [Array.size_push]; omega, Lib.NoAny.zero _ _⟩
  case round =>
    obtain ⟨i, his, hig, hit, hbl, hsz, hno⟩ := hrel
    have HN : Aside (Lib.NoAny s.data.toList chars.data.toList i) := hno
    have HI : Aside (HasIter wr w.heap.size s i) := hit
    have HZ : Aside (w.heap.size < wr.heap.size) := hsz
    clear hno hit hsz
    by_cases hi : i < s.size
    · obtain ⟨w1, hnx, hit1, hb1, hs1⟩ := run_next_any (P := P) wr w.heap.size s i HI.out hi
      have HI1 : Aside (HasIter w1 w.heap.size s (i + (Utf8.decode s i).2)) := hit1
      have HB1 : Aside (∀ B, B ≤ w.heap.size → Below B wr w1) := hb1
      clear hit1 hb1
      have hxl := get_data s i hi
      by_cases hx128 : (s.get! i).toNat < 128
      · have hd : Utf8.decode s i = ((s.get! i).toNat, 1) := by
          have h1 : s[i]'hi = s.get! i := by
            have h2 := Lib.data_getElem? s i hi
            rw [hxl] at h2
            exact (Option.some.inj h2).symm
          rw [← h1]
          exact decode_ascii s i hi (by rw [h1]; exact hx128)
        rw [hd] at hnx HI1
        generalize s.get! i = x at *
        have Hx : Aside (s.data.toList[i]? = some x) := hxl
        clear hxl hd
        have hcon := Lib.contains_iff_indexByte chars.data.toList x
        have hback : ((x.toNat : Int)).toNat.toUInt8 = x := by simp
        cases hin : chars.data.toList.contains x
        · rw [hin] at hcon
          have hlt : ¬ ((0 : Int) ≤ Lib.indexByte chars.data.toList x) := of_decide_eq_false hcon.symm
          clear hcon
          go_wp2_with (go_at_fn (ρ.f 152); refine (Any.strings_IndexRune_ascii { L with } _ _ _ (by omega) (by omega)).mono ?_; rintro e w' ⟨rfl, hw⟩; rw [hw, hback])
          go_roundg (s.size - (i + 1))
          case measure => omega
          case rel =>
            have hsz := HZ.out
            exact ⟨i + 1, by omega, by omega, HI1.out, hbl.trans (HB1.out _ (Nat.le_refl _)), by show w.heap.size < _; omega, HN.out.succ Hx.out hin⟩
        · rw [hin] at hcon
          have hge : (0 : Int) ≤ Lib.indexByte chars.data.toList x := of_decide_eq_true hcon.symm
          clear hcon
          go_wp2_with (go_at_fn (ρ.f 152); refine (Any.strings_IndexRune_ascii { L with } _ _ _ (by omega) (by omega)).mono ?_; rintro e w' ⟨rfl, hw⟩; rw [hw, hback])
          go_ret
          exact ⟨by rw [Lib.indexAny_hit HN.out Hx.out hin]; rfl, hbl.trans (HB1.out _ (Nat.le_refl _))⟩
      · obtain ⟨g1, g2, g3, g4, g5⟩ := decode_high s i hi (by omega)
        have G5 : Aside (∀ j, i ≤ j → j < i + (Utf8.decode s i).2 → 128 ≤ (s.get! j).toNat) := g5
        clear g5 hxl
        have hcall : ∀ w0, Calls P (ρ.f 152) #[.string chars, .int .i32 ((Utf8.decode s i).1 : Nat)] w0 fun e w' => e = .returned (.int .i64 (-1)) ∧ Below w0.heap.size w0 w' := fun w0 => by
          by_cases he : (((Utf8.decode s i).1 : Nat) : Int) = 65533
          · rw [he]
            exact Any.strings_IndexRune_err { L with } chars w0 HA.out
          · exact Any.strings_IndexRune_high { L with } chars _ w0 hcs HA.out (by omega) he g2
        have hno2 : Lib.NoAny s.data.toList chars.data.toList (i + (Utf8.decode s i).2) := fun j b hj hb => by
          by_cases hji : j < i
          · exact HN.out j b hji hb
          · have h1 := G5.out j (by omega) hj
            rw [get_data s j (by omega)] at hb
            obtain rfl := Option.some.inj hb
            cases hc : chars.data.toList.contains (s.get! j) with
            | false => rfl
            | true =>
              obtain ⟨q, hq⟩ := List.mem_iff_getElem?.1 (List.contains_iff_mem.1 hc)
              have := HA.out q _ hq
              omega
        have HN2 : Aside (Lib.NoAny s.data.toList chars.data.toList (i + (Utf8.decode s i).2)) := hno2
        have HC : Aside (∀ w0, Calls P (ρ.f 152) #[.string chars, .int .i32 ((Utf8.decode s i).1 : Nat)] w0 fun e w' => e = .returned (.int .i64 (-1)) ∧ Below w0.heap.size w0 w') := hcall
        clear hno2 hcall g2
        generalize Utf8.decode s i = d at *
        obtain ⟨c, k⟩ := d
        dsimp only at *
        go_wp2_with (go_at_fn (ρ.f 152); refine (HC.out _).mono ?_; rintro e w' ⟨rfl, hw⟩)
        go_roundg (s.size - (i + k))
        case measure => omega
        case rel =>
          have hbb := HB1.out _ (Nat.le_refl _)
          have hsz := HZ.out
          exact ⟨i + k, by omega, by omega, HI1.out.below hw (by omega), (hbl.trans hbb).trans (hw.mono (by omega)), by show w.heap.size < _; have := hw.size; omega, HN2.out⟩
    · obtain rfl : i = s.size := by omega
      have hnx := fun ty => run_next_over (P := P) wr w.heap.size s s.size ty HI.out (by omega)
      go_wp2
      go_ret
      exact ⟨by rw [Lib.indexAny_none (by rw [← Lib.size_eq]; exact HN.out)]; rfl, hbl⟩

theorem Any.strings_ContainsAny8 (L : Lays.n150 P ρ) (h116 : (P.info? (ρ.t 116)).map (fun i => (i.zero, i.size)) = some (some (.agg (Array.replicate 256 (.bool false))), 256)) (s chars : ByteArray) (w : World) (hs : s.size < 4294967281) (hcs : chars.size < 4294967281)
    (h2 : 2 ≤ chars.size) (hac : ∀ (j : Nat) b, chars.data.toList[j]? = some b → b.toNat < 128) :
    Calls P (ρ.f 150) #[.string s, .string chars] w fun e w' => e = .returned (.bool (Lib.containsAny s.data.toList chars.data.toList)) ∧ Below w.heap.size w w' := by
  have c : Calls P (ρ.f 153) #[.string s, .string chars] w fun e w' => e = .returned (.int .i64 (Lib.indexAny s.data.toList chars.data.toList)) ∧ Below w.heap.size w w' := by
    by_cases h8 : s.size ≤ 8
    · exact Any.strings_IndexAny_short8 { L with } s chars w h2 hcs h8 hac
    · refine (Any.strings_IndexAny_long { L with } (zero_of_info h116).1 (zero_of_info h116).2 s chars w (by omega) (by omega) hs hcs hac).mono fun e w' ⟨h1, h2⟩ => ⟨h1, ?_⟩
      rw [h2]
      exact ((Below.refl _ _).alloc (Nat.le_refl _) _).alloc (by simp) _
  have t3 := L.t3; have a3 := L.a3; have z3 := L.z3; have v3 := L.v3
  have t4 := L.t4; have a4 := L.a4; have z4 := L.z4; have v4 := L.v4
  have t9 := L.t9; have a9 := L.a9; have z9 := L.z9; have v9 := L.v9
  have e153 : ∀ args w, (callFunc (ρ.f 153) args).run P w = .ok (.enter (ρ.f 153) args) w := enters_of L.f153 (by kernel_rfl) rfl
  go_enter L.f150, Body.n150_ntmps ρ
  go_wp2_with (go_at_fn (ρ.f 153); refine c.mono ?_; rintro e w' ⟨rfl, hw⟩)
  go_ret
  exact ⟨rfl, hw⟩
end Go.Proofs
/- Contracts of the kit's shelf, laid at this program (written by the kit's lay-shelf and lay-plain). -/
namespace Go.Proofs
open Go.Shelf
def Tryd.lays155_ren : Go.Shelf.Ren := ⟨fun | 155 => 23 | 154 => 31 | 138 => 45 | 165 => 46 | 143 => 47 | 166 => 48 | 197 => 49 | 169 => 50 | 195 => 53 | 218 => 61 | 240 => 62 | 241 => 63 | 219 => 64 | 260 => 65 | 276 => 73 | 277 => 74 | 217 => 72 | 225 => 60 | 224 => 56 | 267 => 75 | 266 => 77 | 314 => 78 | n => n, fun | 9 => 9 | 3 => 3 | 4 => 4 | 72 => 75 | 0 => 0 | 76 => 79 | 105 => 81 | 21 => 21 | 5 => 5 | 70 => 73 | 20 => 20 | 37 => 28 | 75 => 78 | 127 => 90 | 164 => 95 | 46 => 86 | 119 => 98 | 139 => 101 | 138 => 100 | 146 => 93 | 51 => 92 | 80 => 83 | n => n, fun | 1 => 0 | 3 => 1 | 4 => 2 | n => n⟩
theorem Tryd.lays155 : Go.Proofs.Lays.n155 Tryd.prog Tryd.lays155_ren := {
  mixed := by kernel_rfl
  f138 := Tryd.func45.trans (congrArg some (by kernel_rfl))
  f143 := Tryd.func47.trans (congrArg some (by kernel_rfl))
  f154 := Tryd.func31.trans (congrArg some (by kernel_rfl))
  f155 := Tryd.func23.trans (congrArg some (by kernel_rfl))
  f165 := Tryd.func46.trans (congrArg some (by kernel_rfl))
  f166 := Tryd.func48.trans (congrArg some (by kernel_rfl))
  f169 := Tryd.func50.trans (congrArg some (by kernel_rfl))
  f195 := Tryd.func53.trans (congrArg some (by kernel_rfl))
  f197 := Tryd.func49.trans (congrArg some (by kernel_rfl))
  f217 := Tryd.func72.trans (congrArg some (by kernel_rfl))
  f218 := Tryd.func61.trans (congrArg some (by kernel_rfl))
  f219 := Tryd.func64.trans (congrArg some (by kernel_rfl))
  f224 := Tryd.func56.trans (congrArg some (by kernel_rfl))
  f225 := Tryd.func60.trans (congrArg some (by kernel_rfl))
  f240 := Tryd.func62.trans (congrArg some (by kernel_rfl))
  f241 := Tryd.func63.trans (congrArg some (by kernel_rfl))
  f260 := Tryd.func65.trans (congrArg some (by kernel_rfl))
  f266 := Tryd.func77.trans (congrArg some (by kernel_rfl))
  f267 := Tryd.func75.trans (congrArg some (by kernel_rfl))
  f276 := Tryd.func73.trans (congrArg some (by kernel_rfl))
  f277 := Tryd.func74.trans (congrArg some (by kernel_rfl))
  f314 := Tryd.func78.trans (congrArg some (by kernel_rfl))
  t0 := Tryd.underlying0
  a0 := Tryd.isAgg0
  z0 := Tryd.sizeOf0
  v0 := Tryd.zeroValue0
  t3 := Tryd.underlying3
  a3 := Tryd.isAgg3
  z3 := Tryd.sizeOf3
  v3 := Tryd.zeroValue3
  t4 := Tryd.underlying4
  a4 := Tryd.isAgg4
  z4 := Tryd.sizeOf4
  v4 := Tryd.zeroValue4
  t5 := Tryd.underlying5
  a5 := Tryd.isAgg5
  z5 := Tryd.sizeOf5
  v5 := Tryd.zeroValue5
  t9 := Tryd.underlying9
  a9 := Tryd.isAgg9
  z9 := Tryd.sizeOf9
  v9 := Tryd.zeroValue9
  t20 := Tryd.underlying20
  a20 := Tryd.isAgg20
  z20 := Tryd.sizeOf20
  v20 := Tryd.zeroValue20
  t21 := Tryd.underlying21
  a21 := Tryd.isAgg21
  z21 := Tryd.sizeOf21
  v21 := Tryd.zeroValue21
  t37 := Tryd.underlying28
  a37 := Tryd.isAgg28
  z37 := Tryd.sizeOf28
  v37 := Tryd.zeroValue28
  t46 := Tryd.underlying86
  a46 := Tryd.isAgg86
  z46 := Tryd.sizeOf86
  v46 := Tryd.zeroValue86
  t51 := Tryd.underlying92
  a51 := Tryd.isAgg92
  z51 := Tryd.sizeOf92
  v51 := Tryd.zeroValue92
  t70 := Tryd.underlying73
  a70 := Tryd.isAgg73
  z70 := Tryd.sizeOf73
  v70 := Tryd.zeroValue73
  t72 := Tryd.underlying75
  a72 := Tryd.isAgg75
  z72 := Tryd.sizeOf75
  v72 := Tryd.zeroValue75
  t75 := Tryd.underlying78
  a75 := Tryd.isAgg78
  z75 := Tryd.sizeOf78
  v75 := Tryd.zeroValue78
  t76 := Tryd.underlying79
  a76 := Tryd.isAgg79
  z76 := Tryd.sizeOf79
  v76 := Tryd.zeroValue79
  t105 := Tryd.underlying81
  a105 := Tryd.isAgg81
  z105 := Tryd.sizeOf81
  v105 := Tryd.zeroValue81
  t119 := Tryd.underlying98
  a119 := Tryd.isAgg98
  z119 := Tryd.sizeOf98
  t127 := Tryd.underlying90
  a127 := Tryd.isAgg90
  z127 := Tryd.sizeOf90
  v127 := Tryd.zeroValue90
  t138 := Tryd.underlying100
  a138 := Tryd.isAgg100
  z138 := Tryd.sizeOf100
  v138 := Tryd.zeroValue100
  t139 := Tryd.underlying101
  a139 := Tryd.isAgg101
  z139 := Tryd.sizeOf101
  v139 := Tryd.zeroValue101
  t146 := Tryd.underlying93
  a146 := Tryd.isAgg93
  z146 := Tryd.sizeOf93
  v146 := Tryd.zeroValue93
  t164 := Tryd.underlying95
  a164 := Tryd.isAgg95
  z164 := Tryd.sizeOf95
  v164 := Tryd.zeroValue95
  g1 := by kernel_rfl
  g3 := by kernel_rfl
  g4 := by kernel_rfl }
theorem Tryd.Builder_Extra_155 : Builder.Extra Tryd.prog Tryd.lays155_ren := {
  sizeBuilder := by kernel_rfl
  liesBuilder := by kernel_rfl
  t5 := Tryd.underlying5
  a5 := Tryd.isAgg5
  z5 := Tryd.sizeOf5
  v5 := Tryd.zeroValue5
  infoByte := by kernel_rfl
  cellsByte := by kernel_rfl
  sizeByte := by kernel_rfl
  neB5 := by decide }
open Go.RowKit Go.Lib in
theorem Tryd.strings_ReplaceAll (s old new : ByteArray) (m : Int) (w : World) (hs : s.size < 4294967281) (hm : w.cell? ⟨0, 0, none⟩ = some (.int .i64 m)) (h1 : 1 ≤ old.size) (hlen : s.size + Lib.countB s old * new.size ≤ 140737488355328) :
    Calls Tryd.prog 23 #[.string s, .string old, .string new] w fun e w' =>
      e = .returned (.string ⟨(Lib.replaceAll s.data.toList old.data.toList new.data.toList).toArray⟩) ∧ Below w.heap.size w w' := Any.strings_ReplaceAll Tryd.lays155 Tryd.Builder_Extra_155 s old new m w hs hm h1 hlen
def Tryd.lays150_ren : Go.Shelf.Ren := ⟨fun | 150 => 22 | 153 => 30 | 152 => 41 | 226 => 42 | 227 => 43 | 228 => 44 | 137 => 58 | 119 => 59 | 224 => 56 | 225 => 60 | 217 => 72 | 266 => 77 | n => n, fun | 9 => 9 | 4 => 4 | 3 => 3 | 5 => 5 | 21 => 21 | 117 => 70 | 116 => 69 | 0 => 0 | 46 => 86 | 124 => 89 | n => n, fun | n => n⟩
theorem Tryd.lays150 : Go.Proofs.Lays.n150 Tryd.prog Tryd.lays150_ren := {
  mixed := by kernel_rfl
  f119 := Tryd.func59.trans (congrArg some (by kernel_rfl))
  f137 := Tryd.func58.trans (congrArg some (by kernel_rfl))
  f150 := Tryd.func22.trans (congrArg some (by kernel_rfl))
  f152 := Tryd.func41.trans (congrArg some (by kernel_rfl))
  f153 := Tryd.func30.trans (congrArg some (by kernel_rfl))
  f217 := Tryd.func72.trans (congrArg some (by kernel_rfl))
  f224 := Tryd.func56.trans (congrArg some (by kernel_rfl))
  f225 := Tryd.func60.trans (congrArg some (by kernel_rfl))
  f226 := Tryd.func42.trans (congrArg some (by kernel_rfl))
  f227 := Tryd.func43.trans (congrArg some (by kernel_rfl))
  f228 := Tryd.func44.trans (congrArg some (by kernel_rfl))
  f266 := Tryd.func77.trans (congrArg some (by kernel_rfl))
  t0 := Tryd.underlying0
  a0 := Tryd.isAgg0
  z0 := Tryd.sizeOf0
  v0 := Tryd.zeroValue0
  t3 := Tryd.underlying3
  a3 := Tryd.isAgg3
  z3 := Tryd.sizeOf3
  v3 := Tryd.zeroValue3
  t4 := Tryd.underlying4
  a4 := Tryd.isAgg4
  z4 := Tryd.sizeOf4
  v4 := Tryd.zeroValue4
  t5 := Tryd.underlying5
  a5 := Tryd.isAgg5
  z5 := Tryd.sizeOf5
  v5 := Tryd.zeroValue5
  t9 := Tryd.underlying9
  a9 := Tryd.isAgg9
  z9 := Tryd.sizeOf9
  v9 := Tryd.zeroValue9
  t21 := Tryd.underlying21
  a21 := Tryd.isAgg21
  z21 := Tryd.sizeOf21
  v21 := Tryd.zeroValue21
  t46 := Tryd.underlying86
  a46 := Tryd.isAgg86
  z46 := Tryd.sizeOf86
  v46 := Tryd.zeroValue86
  t116 := Tryd.underlying69
  a116 := Tryd.isAgg69
  z116 := Tryd.sizeOf69
  t117 := Tryd.underlying70
  a117 := Tryd.isAgg70
  z117 := Tryd.sizeOf70
  v117 := Tryd.zeroValue70
  t124 := Tryd.underlying89
  a124 := Tryd.isAgg89
  z124 := Tryd.sizeOf89
  v124 := Tryd.zeroValue89 }
open Go.RowKit Go.Lib in
theorem Tryd.strings_ContainsAny_laid (s chars : ByteArray) (w : World) (hs : s.size < 4294967281) (hcs : chars.size < 4294967281) (has : ∀ (j : Nat) b, s.data.toList[j]? = some b → b.toNat < 128) (hac : ∀ (j : Nat) b, chars.data.toList[j]? = some b → b.toNat < 128) :
    Calls Tryd.prog 22 #[.string s, .string chars] w fun e w' => e = .returned (.bool (Lib.containsAny s.data.toList chars.data.toList)) ∧ Below w.heap.size w w' := Any.strings_ContainsAny_laid Tryd.lays150 (by kernel_rfl) s chars w hs hcs has hac
end Go.Proofs
/- Varints and sums over bytes, in plain terms: no program in sight. -/
namespace Go.Proofs.YtdphjapaoaokmaaDoor.E
open Go Go.RowKit
set_option linter.unusedVariables false
set_option linter.unusedSimpArgs false
theorem xor_lt8 {a b : Nat} (ha : a < 256) (hb : b < 256) : a ^^^ b < 256 := Nat.xor_lt_two_pow (n := 8) ha hb
theorem xor_lt32 {a b : Nat} (ha : a < 4294967296) (hb : b < 4294967296) : a ^^^ b < 4294967296 := Nat.xor_lt_two_pow (n := 32) ha hb
theorem ci_length (l : List Nat) : (ci l).length = l.length := List.length_map _
theorem ci_append (a b : List Nat) : ci (a ++ b) = ci a ++ ci b := List.map_append
theorem ci_nil : ci [] = [] := rfl
theorem ci_cons (a : Nat) (l : List Nat) : ci (a :: l) = (a : Int) :: ci l := rfl
theorem ci_take (l : List Nat) (n : Nat) : (ci l).take n = ci (l.take n) := by simp [ci, List.map_take]
theorem ci_drop (l : List Nat) (n : Nat) : (ci l).drop n = ci (l.drop n) := by simp [ci, List.map_drop]
theorem ci_set (l : List Nat) (n x : Nat) : (ci l).set n (x : Int) = ci (l.set n x) := by simp [ci, List.map_set]
theorem ci_inj {a b : List Nat} (h : ci a = ci b) : a = b := by
  have := congrArg (List.map Int.toNat) h
  simpa [ci, List.map_map, Function.comp_def] using this
theorem to_ci {l : List Int} {b : Nat} (h : ∀ x ∈ l, 0 ≤ x ∧ x < (b : Int)) : ∃ m : List Nat, l = ci m ∧ ∀ x ∈ m, x < b := by
  refine ⟨l.map Int.toNat, ?_, ?_⟩
  · simp only [ci, List.map_map]
    conv => lhs; rw [← List.map_id l]
    refine List.map_congr_left (fun x hx => ?_)
    have := h x hx
    simp
    omega
  · intro x hx
    obtain ⟨y, hy, rfl⟩ := List.mem_map.1 hx
    have := h y hy
    omega
theorem getD_lt {l : List Nat} {b i : Nat} (h : ∀ x ∈ l, x < b) (hb : 0 < b) : l.getD i 0 < b := by
  rw [List.getD_eq_getElem?_getD]
  cases hg : l[i]? with
  | none => exact hb
  | some x => exact h x (List.mem_of_getElem? hg)
def vb (n : Nat) : List Nat := if n < 128 then [n] else (n % 128 + 128) :: vb (n / 128)
termination_by n
decreasing_by omega
theorem vb_small {n : Nat} (h : n < 128) : vb n = [n] := by rw [vb, if_pos h]
theorem vb_big {n : Nat} (h : ¬ n < 128) : vb n = (n % 128 + 128) :: vb (n / 128) := by rw [vb, if_neg h]
theorem vb_lt (n : Nat) : ∀ x ∈ vb n, x < 256 := by
  induction n using Nat.strongRecOn with
  | ind n ih =>
    intro x hx
    by_cases h : n < 128
    · rw [vb_small h, List.mem_singleton] at hx; omega
    · rw [vb_big h, List.mem_cons] at hx
      rcases hx with rfl | hx
      · omega
      · exact ih (n / 128) (by omega) x hx
theorem vb_length_pos (n : Nat) : 1 ≤ (vb n).length := by
  by_cases h : n < 128
  · rw [vb_small h]; simp
  · rw [vb_big h]; simp
theorem vb_len_le : ∀ (s n : Nat), 1 ≤ s → n < 128 ^ s → (vb n).length ≤ s
  | 0, n, h, _ => absurd h (by omega)
  | s + 1, n, _, h => by
    by_cases h1 : n < 128
    · rw [vb_small h1]; simp
    · rw [vb_big h1, List.length_cons]
      have hs : 1 ≤ s := by
        rcases Nat.eq_zero_or_pos s with rfl | hs
        · exact absurd (by simpa using h) h1
        · exact hs
      have := vb_len_le s (n / 128) hs (by rw [Nat.pow_succ] at h; exact Nat.div_lt_of_lt_mul (by rw [Nat.mul_comm]; exact h))
      omega
theorem vb_len_ge : ∀ (s n : Nat), 128 ^ s ≤ n → s + 1 ≤ (vb n).length
  | 0, n, _ => vb_length_pos n
  | s + 1, n, h => by
    have hp : 1 ≤ 128 ^ s := Nat.pow_pos (by omega)
    have h1 : ¬ n < 128 := by rw [Nat.pow_succ] at h; omega
    rw [vb_big h1, List.length_cons]
    have := vb_len_ge s (n / 128) (by rw [Nat.pow_succ] at h; exact (Nat.le_div_iff_mul_le (by omega)).2 h)
    omega
theorem vb_length_le10 {n : Nat} (h : n < 18446744073709551616) : (vb n).length ≤ 10 := vb_len_le 10 n (by omega) (Nat.lt_of_lt_of_le h (by decide))
theorem vb_length_mono {n m : Nat} (h : (vb n).length < (vb m).length) : n < m := by
  rcases Nat.lt_or_ge n m with h1 | h1
  · exact h1
  exfalso
  have : ∀ (a b : Nat), b ≤ a → (vb b).length ≤ (vb a).length := by
    intro a
    induction a using Nat.strongRecOn with
    | ind a ih =>
      intro b hb
      by_cases hb1 : b < 128
      · rw [vb_small hb1]; exact vb_length_pos a
      · rw [vb_big hb1, vb_big (show ¬ a < 128 by omega), List.length_cons, List.length_cons]
        exact Nat.succ_le_succ (ih (a / 128) (by omega) (b / 128) (by omega))
  have := this n m h1
  omega
def num : List Nat → Nat
  | [] => 0
  | x :: s => x % 128 + 128 * num s
theorem num_snoc : ∀ (p : List Nat) (x : Nat), num (p ++ [x]) = num p + x % 128 * 128 ^ p.length
  | [], x => by simp [num]
  | y :: p, x => by
    rw [List.cons_append, num, num, num_snoc p x, List.length_cons, Nat.pow_succ, Nat.mul_add, ← Nat.add_assoc, Nat.mul_left_comm, Nat.mul_comm 128 (128 ^ p.length)]
theorem num_lt : ∀ p : List Nat, num p < 128 ^ p.length
  | [] => by simp [num]
  | y :: p => by
    have := num_lt p
    rw [num, List.length_cons, Nat.pow_succ]
    omega
theorem num_vb (n : Nat) : num (vb n) = n := by
  induction n using Nat.strongRecOn with
  | ind n ih =>
    by_cases h : n < 128
    · rw [vb_small h, num, num]; omega
    · rw [vb_big h, num, ih (n / 128) (by omega)]; omega
theorem vb_num : ∀ (q : List Nat) (x : Nat), (∀ y ∈ q, 128 ≤ y ∧ y < 256) → x < 128 → (q = [] ∨ x ≠ 0) → vb (num (q ++ [x])) = q ++ [x]
  | [], x, _, hx, _ => by
    rw [List.nil_append, num, num, show x % 128 + 128 * 0 = x by omega, vb_small hx]
  | y :: q, x, hq, hx, h => by
    have h0 : x ≠ 0 := h.resolve_left (by simp)
    have hy := hq y (List.mem_cons_self ..)
    have hp : 1 ≤ 128 ^ q.length := Nat.pow_pos (by omega)
    have h1 : 1 ≤ num (q ++ [x]) := by
      rw [num_snoc, Nat.mod_eq_of_lt hx]
      have : 1 * 1 ≤ x * 128 ^ q.length := Nat.mul_le_mul (by omega) hp
      omega
    rw [List.cons_append, num, vb_big (by omega)]
    rw [show (y % 128 + 128 * num (q ++ [x])) % 128 + 128 = y by omega, show (y % 128 + 128 * num (q ++ [x])) / 128 = num (q ++ [x]) by omega]
    rw [vb_num q x (fun z hz => hq z (List.mem_cons_of_mem _ hz)) hx (Or.inr h0)]
def lead : List Nat → Nat
  | [] => 0
  | x :: s => if 128 ≤ x then lead s + 1 else 0
theorem lead_le : ∀ s : List Nat, lead s ≤ s.length
  | [] => Nat.le_refl _
  | x :: s => by
    rw [lead]
    split
    · simpa using lead_le s
    · simp
theorem lead_hi : ∀ (s : List Nat) (j : Nat), j < lead s → 128 ≤ s.getD j 0
  | [], j, h => absurd h (by simp [lead])
  | x :: s, 0, h => by
    rw [lead] at h
    split at h
    · assumption
    · omega
  | x :: s, j + 1, h => by
    rw [lead] at h
    split at h
    · simpa using lead_hi s j (by omega)
    · omega
theorem lead_lo : ∀ s : List Nat, lead s < s.length → s.getD (lead s) 0 < 128
  | [], h => absurd h (by simp)
  | x :: s, h => by
    by_cases hx : 128 ≤ x
    · rw [lead, if_pos hx] at h ⊢
      simpa using lead_lo s (by simpa using h)
    · rw [lead, if_neg hx]
      simpa using Nat.lt_of_not_le hx
theorem lead_vb : ∀ (s n : Nat) (r : List Nat), (vb n).length = s → lead (vb n ++ r) + 1 = (vb n).length
  | 0, n, r, h => by have := vb_length_pos n; omega
  | s + 1, n, r, h => by
    by_cases h1 : n < 128
    · rw [vb_small h1]; simp only [List.cons_append, lead, if_neg (show ¬ 128 ≤ n by omega), List.length_cons, List.length_nil]
    · rw [vb_big h1, List.length_cons] at h ⊢
      rw [List.cons_append, lead, if_pos (by omega), lead_vb s (n / 128) r (by omega)]
def vbad (s : List Nat) (i : Nat) : Prop := (s.getD i 0 = 0 ∧ 0 < i) ∨ (i = 9 ∧ 1 < s.getD i 0)
instance (s : List Nat) (i : Nat) : Decidable (vbad s i) := by unfold vbad; infer_instance
def vtake (s : List Nat) : Nat × List Nat × Nat :=
  if 10 ≤ lead s then (0, [], 3) else if lead s = s.length then (0, [], 2) else if vbad s (lead s) then (0, [], 3)
  else (num (s.take (lead s + 1)), s.drop (lead s + 1), 0)
theorem take_snoc {s : List Nat} {i : Nat} (h : i < s.length) : s.take (i + 1) = s.take i ++ [s.getD i 0] := by
  rw [List.take_succ_eq_append_getElem h, List.getD_eq_getElem?_getD, List.getElem?_eq_getElem h]; rfl
theorem take_hi {s : List Nat} {i : Nat} (hs : ∀ x ∈ s, x < 256) (hi : i ≤ lead s) : ∀ y ∈ s.take i, 128 ≤ y ∧ y < 256 := by
  intro y hy
  refine ⟨?_, hs y (List.mem_of_mem_take hy)⟩
  obtain ⟨j, hj, rfl⟩ := List.mem_iff_getElem.1 hy
  rw [List.length_take] at hj
  have := lead_hi s j (by omega)
  rw [List.getD_eq_getElem?_getD, List.getElem?_eq_getElem (by omega)] at this
  rw [List.getElem_take]
  exact this
theorem canon {s : List Nat} (hs : ∀ x ∈ s, x < 256) (h10 : lead s < 10) (hl : lead s < s.length) (hb : ¬ vbad s (lead s)) :
    num (s.take (lead s + 1)) < 18446744073709551616 ∧ vb (num (s.take (lead s + 1))) = s.take (lead s + 1) := by
  have hx := lead_lo s hl
  have hn := num_lt (s.take (lead s))
  rw [List.length_take, Nat.min_eq_left (by omega)] at hn
  unfold vbad at hb
  refine ⟨?_, ?_⟩
  · rw [take_snoc hl, num_snoc, List.length_take, Nat.min_eq_left (by omega), Nat.mod_eq_of_lt hx]
    rcases Nat.lt_or_ge (lead s) 9 with h9 | h9
    · have h3 : (128 : Nat) ^ (lead s) ≤ 128 ^ 8 := Nat.pow_le_pow_right (by omega) (by omega)
      have h4 : s.getD (lead s) 0 * 128 ^ (lead s) ≤ 127 * 128 ^ 8 := Nat.mul_le_mul (by omega) h3
      omega
    · have h9' : lead s = 9 := by omega
      have h5 : s.getD (lead s) 0 ≤ 1 := by omega
      have h4 : s.getD (lead s) 0 * 128 ^ (lead s) ≤ 1 * 128 ^ 9 := Nat.mul_le_mul h5 (by rw [h9']; exact Nat.le_refl _)
      rw [h9'] at hn h4 ⊢
      omega
  · rw [take_snoc hl]
    refine vb_num _ _ (take_hi hs (Nat.le_refl _)) hx ?_
    by_cases h0 : lead s = 0
    · left; rw [h0]; rfl
    · right; omega
theorem not_canon {s : List Nat} (h10 : lead s < 10) (hl : lead s < s.length) (hb : vbad s (lead s)) :
    vb (num (s.take (lead s + 1)) % 18446744073709551616) ≠ s.take (lead s + 1) := by
  intro h
  have hx := lead_lo s hl
  have e := congrArg num h
  rw [num_vb] at e
  have hlen := congrArg List.length h
  rw [List.length_take, Nat.min_eq_left (by omega)] at hlen
  rcases hb with ⟨h0, hi⟩ | ⟨h9, h1⟩
  · have h2 : num (s.take (lead s + 1)) < 128 ^ lead s := by
      rw [take_snoc hl, h0, num_snoc]
      have := num_lt (s.take (lead s))
      rw [List.length_take, Nat.min_eq_left (by omega)] at this
      simpa using this
    rw [← e] at h2
    have := vb_len_le (lead s) _ hi h2
    omega
  · have h2 : 2 * 128 ^ 9 ≤ num (s.take (lead s + 1)) := by
      rw [take_snoc hl, num_snoc, List.length_take, Nat.min_eq_left (by omega), Nat.mod_eq_of_lt hx, h9]
      have : 2 * 128 ^ 9 ≤ s.getD 9 0 * 128 ^ 9 := Nat.mul_le_mul (by rw [h9] at h1; omega) (Nat.le_refl _)
      omega
    have h3 : num (s.take (lead s + 1)) % 18446744073709551616 < 18446744073709551616 := Nat.mod_lt _ (by omega)
    omega
theorem vtake_vb {n : Nat} (h : n < 18446744073709551616) (r : List Nat) : vtake (vb n ++ r) = (n, r, 0) := by
  have hl := lead_vb _ n r rfl
  have h10 := vb_length_le10 h
  have hp := vb_length_pos n
  have e1 : (vb n ++ r).take (lead (vb n ++ r) + 1) = vb n := by rw [hl, List.take_left]
  have hlt : lead (vb n ++ r) < (vb n ++ r).length := by rw [List.length_append]; omega
  unfold vtake
  rw [if_neg (by omega), if_neg (by omega), if_neg, hl, List.take_left, List.drop_left, num_vb]
  intro hb
  refine not_canon (by omega) hlt hb ?_
  rw [e1, num_vb, Nat.mod_eq_of_lt h]
theorem vtake_ok {s : List Nat} (hs : ∀ x ∈ s, x < 256) (h : (vtake s).2.2 = 0) : (vtake s).1 < 18446744073709551616 ∧ vb (vtake s).1 ++ (vtake s).2.1 = s := by
  unfold vtake at h ⊢
  by_cases h1 : 10 ≤ lead s
  · rw [if_pos h1] at h; exact absurd h (by simp)
  rw [if_neg h1] at h ⊢
  by_cases h2 : lead s = s.length
  · rw [if_pos h2] at h; exact absurd h (by simp)
  rw [if_neg h2] at h ⊢
  by_cases h3 : vbad s (lead s)
  · rw [if_pos h3] at h; exact absurd h (by simp)
  rw [if_neg h3]
  obtain ⟨c1, c2⟩ := canon hs (by omega) (Nat.lt_of_le_of_ne (lead_le s) h2) h3
  refine ⟨c1, ?_⟩
  rw [c2, List.take_append_drop]
theorem vtake_rest {s : List Nat} : (vtake s).2.1.length ≤ s.length ∧ ∀ x ∈ (vtake s).2.1, x ∈ s := by
  unfold vtake
  split
  · simp
  split
  · simp
  split
  · simp
  · refine ⟨by simp, fun x hx => List.mem_of_mem_drop hx⟩
theorem vtake_lt {s : List Nat} (hs : ∀ x ∈ s, x < 256) : (vtake s).1 < 18446744073709551616 := by
  unfold vtake
  split
  · simp
  split
  · simp
  split
  · simp
  · have := lead_le s
    exact (canon hs (by omega) (by omega) (by assumption)).1
def isLen (n l : Nat) : Prop := n < 2 ^ l ∧ (l = 0 ∨ 2 ^ (l - 1) ≤ n)
instance (n l : Nat) : Decidable (isLen n l) := by unfold isLen; infer_instance
theorem isLen_up {n l m : Nat} (hn : 2 ^ m ≤ n) (h : isLen (n / 2 ^ m) l) : isLen n (l + m) := by
  obtain ⟨h1, h2⟩ := h
  have hp : 0 < 2 ^ m := Nat.two_pow_pos m
  have hq : 1 ≤ n / 2 ^ m := (Nat.le_div_iff_mul_le hp).2 (by omega)
  have hl : l ≠ 0 := by
    intro h0
    rw [h0] at h1
    omega
  refine ⟨?_, Or.inr ?_⟩
  · rw [Nat.pow_add]; exact (Nat.div_lt_iff_lt_mul hp).1 h1
  · have h3 := h2.resolve_left hl
    rw [show l + m - 1 = (l - 1) + m by omega, Nat.pow_add]
    exact (Nat.le_div_iff_mul_le hp).1 h3
theorem isLen_vb {n l : Nat} (h : isLen n l) : ((vb n).length : Int) = if 1 < (l + 6) / 7 then (((l + 6) / 7 : Nat) : Int) else 1 := by
  obtain ⟨h1, h2⟩ := h
  have hle : n < 128 ^ ((l + 6) / 7) := by
    rw [show (128 : Nat) = 2 ^ 7 from rfl, ← Nat.pow_mul]
    exact Nat.lt_of_lt_of_le h1 (Nat.pow_le_pow_right (by omega) (by omega))
  split
  · next hs =>
    have hge : 128 ^ ((l + 6) / 7 - 1) ≤ n := by
      rw [show (128 : Nat) = 2 ^ 7 from rfl, ← Nat.pow_mul]
      exact Nat.le_trans (Nat.pow_le_pow_right (by omega) (by omega)) (h2.resolve_left (by omega))
    have a := vb_len_le _ n (by omega) hle
    have b := vb_len_ge _ n hge
    omega
  · next hs =>
    have h128 : n < 128 := by
      refine Nat.lt_of_lt_of_le hle ?_
      exact Nat.le_trans (Nat.pow_le_pow_right (by omega) (show (l + 6) / 7 ≤ 1 by omega)) (by simp)
    rw [vb_small h128]; rfl
def stp (c : Nat) : Nat := if c % 2 = 1 then (c / 2) ^^^ 3988292384 else c / 2
def ent (i : Nat) : Nat := stp (stp (stp (stp (stp (stp (stp (stp i)))))))
def tbl : List Nat := (List.range 256).map ent
def mor (t : List Nat) : Nat → List Nat → Nat
  | c, [] => c
  | c, x :: b => mor t (t.getD ((c % 256) ^^^ x) 0 ^^^ (c / 256)) b
def csum (t b : List Nat) : Nat := mor t 4294967295 b ^^^ 4294967295
theorem tbl_length : tbl.length = 256 := by simp [tbl]
theorem tbl_lt : ∀ x ∈ tbl, x < 4294967296 := by decide +kernel
theorem nxt_lt {t : List Nat} (ht : ∀ x ∈ t, x < 4294967296) (c x : Nat) (hc : c < 4294967296) : t.getD ((c % 256) ^^^ x) 0 ^^^ (c / 256) < 4294967296 :=
  xor_lt32 (getD_lt ht (by omega)) (by omega)
theorem mor_lt {t : List Nat} (ht : ∀ x ∈ t, x < 4294967296) : ∀ (b : List Nat) (c : Nat), c < 4294967296 → mor t c b < 4294967296
  | [], c, hc => hc
  | x :: b, c, hc => mor_lt ht b _ (nxt_lt ht c x hc)
theorem mor_append (t : List Nat) : ∀ (a b : List Nat) (c : Nat), mor t c (a ++ b) = mor t (mor t c a) b
  | [], b, c => rfl
  | x :: a, b, c => mor_append t a b _
theorem csum_lt {t : List Nat} (ht : ∀ x ∈ t, x < 4294967296) (b : List Nat) : csum t b < 4294967296 := xor_lt32 (mor_lt ht b _ (by omega)) (by omega)
theorem tbl_at {j : Nat} (h : j < 256) : tbl.getD j 0 = ent j := by
  simp only [tbl, List.getD_eq_getElem?_getD, List.getElem?_map, List.getElem?_range h, Option.map_some, Option.getD_some]
theorem xor_mod256 {c x : Nat} (hx : x < 256) : (c ^^^ x) % 256 = (c % 256) ^^^ x := by
  have := Nat.xor_mod_two_pow (a := c) (b := x) (n := 8)
  rw [show (2 : Nat) ^ 8 = 256 from rfl, Nat.mod_eq_of_lt hx] at this
  exact this
def four (c : Nat) : List Nat := [c % 256, c / 256 % 256, c / 65536 % 256, c / 16777216 % 256]
theorem four_lt (c : Nat) : ∀ x ∈ four c, x < 256 := by
  intro x hx
  simp only [four, List.mem_cons, List.not_mem_nil, or_false] at hx
  omega
theorem four_length (c : Nat) : (four c).length = 4 := rfl
def sealed (t b : List Nat) : List Nat := b ++ four (csum t b)
theorem sealed_length (t b : List Nat) : (sealed t b).length = b.length + 4 := by simp [sealed, four_length]
theorem sealed_lt (t : List Nat) {b : List Nat} (hb : ∀ x ∈ b, x < 256) : ∀ x ∈ sealed t b, x < 256 := by
  intro x hx
  rcases List.mem_append.1 hx with h | h
  · exact hb x h
  · exact four_lt _ x h
def opened (t s : List Nat) : List Nat × Nat := if s.length < 4 then ([], 2) else if four (csum t (s.take (s.length - 4))) = s.drop (s.length - 4) then (s.take (s.length - 4), 0) else ([], 4)
theorem open_sealed (t b : List Nat) : opened t (sealed t b) = (b, 0) := by
  unfold opened
  rw [sealed_length, if_neg (by omega), show b.length + 4 - 4 = b.length by omega]
  unfold sealed
  rw [List.take_left, List.drop_left, if_pos rfl]
/-- The lengths of bytes in bits. -/
def lenL : List Int := [0, 1, 2, 2, 3, 3, 3, 3, 4, 4, 4, 4, 4, 4, 4, 4, 5, 5, 5, 5, 5, 5, 5, 5, 5, 5, 5, 5, 5, 5, 5, 5, 6, 6, 6, 6, 6, 6, 6, 6, 6, 6, 6, 6, 6, 6, 6, 6, 6, 6, 6, 6, 6, 6, 6, 6, 6, 6, 6, 6, 6, 6, 6, 6, 7, 7, 7, 7, 7, 7, 7, 7, 7, 7, 7, 7, 7, 7, 7, 7, 7, 7, 7, 7, 7, 7, 7, 7, 7, 7, 7, 7, 7, 7, 7, 7, 7, 7, 7, 7, 7, 7, 7, 7, 7, 7, 7, 7, 7, 7, 7, 7, 7, 7, 7, 7, 7, 7, 7, 7, 7, 7, 7, 7, 7, 7, 7, 7, 8, 8, 8, 8, 8, 8, 8, 8, 8, 8, 8, 8, 8, 8, 8, 8, 8, 8, 8, 8, 8, 8, 8, 8, 8, 8, 8, 8, 8, 8, 8, 8, 8, 8, 8, 8, 8, 8, 8, 8, 8, 8, 8, 8, 8, 8, 8, 8, 8, 8, 8, 8, 8, 8, 8, 8, 8, 8, 8, 8, 8, 8, 8, 8, 8, 8, 8, 8, 8, 8, 8, 8, 8, 8, 8, 8, 8, 8, 8, 8, 8, 8, 8, 8, 8, 8, 8, 8, 8, 8, 8, 8, 8, 8, 8, 8, 8, 8, 8, 8, 8, 8, 8, 8, 8, 8, 8, 8, 8, 8, 8, 8, 8, 8, 8, 8, 8, 8, 8, 8, 8, 8, 8, 8, 8, 8, 8, 8]
theorem lenL_at : ∀ v ∈ List.range 256, ∃ l ∈ List.range 9, lenL[v]? = some (l : Int) ∧ isLen v l := by decide +kernel
def bl (n : Nat) : Nat := if n = 0 then 0 else bl (n / 2) + 1
termination_by n
decreasing_by omega
theorem isLen_bl (n : Nat) : isLen n (bl n) := by
  induction n using Nat.strongRecOn with
  | ind n ih =>
    by_cases h : n = 0
    · rw [bl, if_pos h, h]; exact ⟨by decide, .inl rfl⟩
    · rw [bl, if_neg h]
      by_cases h1 : n = 1
      · subst h1
        have e : bl (1 / 2) = 0 := by rw [bl]; rfl
        rw [e]; exact ⟨by decide, .inr (by decide)⟩
      · exact isLen_up (m := 1) (by omega) (by simpa using ih (n / 2) (by omega))
theorem isLen_unique {n a b : Nat} (ha : isLen n a) (hb : isLen n b) : a = b := by
  obtain ⟨a1, a2⟩ := ha
  obtain ⟨b1, b2⟩ := hb
  rcases Nat.lt_trichotomy a b with h | h | h
  · have h1 : 2 ^ a ≤ 2 ^ (b - 1) := Nat.pow_le_pow_right (by omega) (by omega)
    have := b2.resolve_left (by omega)
    omega
  · exact h
  · have h1 : 2 ^ b ≤ 2 ^ (a - 1) := Nat.pow_le_pow_right (by omega) (by omega)
    have := a2.resolve_left (by omega)
    omega
def u8 (n : Nat) : PV := .int .u8 n
def u32 (n : Nat) : PV := .int .u32 n
attribute [simp] u8 u32
/-- Bytes. -/
@[simp] abbrev bV (l : List Nat) (o : Bool) : PV := .lst 1 (l.map u8) o
end Go.Proofs.YtdphjapaoaokmaaDoor.E
