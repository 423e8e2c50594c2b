-- lemmas of this session beside the kit's printed words: make with a capacity, []byte(s), []byte("const")
import Derived.Test.YtkbdlgohmafglaaWMore
import Derived.Test.YtkbdlgohmafglaaWShare
import Derived.Test.YtkbdlgohmafglaaWNEv
import Derived.Lib.SlBytesConst
set_option linter.unusedVariables false
set_option linter.unusedSimpArgs false
namespace Go.Proofs.YtkbdlgohmafglaaW.PrintWords
open Go.RowKit
theorem F_block_int {k : IntKind} {W : World} {g : Nat} {e : TypeId} {cs : Array Value} {fr : Nat × Nat} (hg : W.heap[g]? = some (.cells cs e fr)) (xs : List Int) (hm : xs.length ≤ 9223372036854775807)
    (hc : ∀ j, j < xs.length → cs[j]? = some (.int k (xs.getD j 0))) {ok : Nat → Prop} (hok : ok g) : Kd.F (Kd.int k) W ok (some ⟨g, 0, none⟩) xs.length xs := by
  intro W' hW
  have hlt : g < W.heap.size := (Array.getElem?_eq_some_iff.1 hg).1
  have h2 := (hW g hok hlt).trans hg
  refine Kd.C_of_reads (d := (0 : Int)) ⟨rfl, hm, fun _ => ⟨_, rfl, fun j hj => ?_⟩⟩
  rw [add_plain]
  simp [World.cell?, h2, hc j hj]
theorem bytesWorld_grown (W : World) (e : TypeId) (s : ByteArray) : W.grownBy (Lib.bytesWorld W e s) none :=
  ⟨rfl, rfl, rfl, by rw [Lib.bytesWorld_size]; omega, fun k hk _ => Lib.bytesWorld_at_old W e s k hk⟩
namespace Kd
theorem C_cast {α : Type} {d : Kd α} {w : World} {A : Option Addr} {n m : Nat} {xs : List α} (h : n = m) (hc : d.C w A n xs) : d.C w A m xs := h ▸ hc
section
variable {P : Program} {ops : Array Oper} {rest : List Oper} {o o2 : Oper} {a : Act} {Q : Exit → Act → World → Prop} {Kc : Act → World → Prop}
theorem F_bytes (W : World) (e : TypeId) (s : ByteArray) (hsz : s.size ≤ 9223372036854775807) : F (Kd.int .u8) (Lib.bytesWorld W e s) (fun k => W.heap.size ≤ k) (some ⟨W.heap.size, 0, none⟩) (bytesOf s).length (bytesOf s) := by
  refine F_block_int (Lib.bytesWorld_at_new W e s) (bytesOf s) (by rw [bytesOf_length]; exact hsz) (fun j hj => ?_) (Nat.le_refl _)
  have h := Lib.bytesWorld_cell W e s j (by rw [bytesOf_length] at hj; exact hj)
  simp only [World.cell?, Lib.bytesWorld_at_new] at h
  simp only [Option.isSome_none, Bool.false_eq_true, if_false] at h
  rw [h]
  have h' : j < s.data.toList.length := by rw [data_length]; rw [bytesOf_length] at hj; exact hj
  simp [bytesOf, List.getD_eq_getElem?_getD, List.getElem?_eq_getElem h']
theorem grown_le (W : World) (n : Nat) (e : TypeId) : n ≤ grownCap W n 0 e := by
  unfold grownCap
  show n ≤ n + _
  omega
/-- []byte(s): a row that is read alone. -/
theorem V_bytes {w0 W : World} (base e : Nat) (hgd : o.guard = none) {N : Tmp} (hd : o.dst = some N) (src dst : TypeId) (x : Operand) (ho : o.op = .convert src dst x) (s : ByteArray) (hx : a.eval x = .string s) {u : TypeDesc}
    (hs : P.underlying src = some u) (hdt : P.underlying dst = some (.slice e)) (he : P.underlying e = some (.int .u8)) (hsz : s.size ≤ 9223372036854775807) (HB : Below base w0 W) (hbase : base ≤ W.heap.size)
    (h : ∀ v1 w1, V (Kd.int .u8) e w1 base (fun k => W.heap.size ≤ k) v1 (bytesOf s) → Below base w0 w1 → W.grownBy w1 none → (∃ b, v1.ownBlock = some b ∧ W.heap.size ≤ b) → wpList P ops Q rest (a.put o.dst v1) w1) : wpList P ops Q (o :: rest) a W := by
  have hr := print_bytes (P := P) src dst e hs hdt he s W
  refine event_run hgd (by simp [execOp, ho, hx, hr]; rfl) (h _ _ ⟨_, _, by rw [bytesOf_length], by rw [bytesOf_length]; exact grown_le W s.size e, F_bytes W e s hsz⟩ (bytes_below HB hbase e s) (bytesWorld_grown W e s) ⟨W.heap.size, by simp [Value.ownBlock], Nat.le_refl _⟩)
/-- make([]T, n, m). -/
theorem R_makeCap {α : Type} (d : Kd α) {w0 W : World} (base e : Nat) (hgd : o.guard = none) {N : Tmp} (hd : o.dst = some N) (t : TypeId) (x y : Operand) (ho : o.op = .makeSlice t x y) (n m : Int) (hx : a.eval x = .int .i64 n) (hy : a.eval y = .int .i64 m)
    (ht : P.underlying t = some (.slice e)) (z : Value) (bytes : Nat) (hinfo : (P.info? e).map (fun i => (i.zero, i.size, i.bytes)) = some (some z, d.sz, bytes)) (hz : z.cells.size = d.sz) (hs0 : 0 < d.sz) (hb0 : 0 < bytes)
    (z0 : α) {ok okp : Nat → Prop} (hzero : d.M W base okp z0 z.cells.toList) (hok : ∀ k, okp k → ok k) (hfresh : ok W.heap.size) (h0 : 0 ≤ n) (hnm : n ≤ m) (hl : m.toNat * bytes ≤ 281474976710656) (HB : Below base w0 W) (hbase : base ≤ W.heap.size)
    (h : ∀ v1 w1, d.R e w1 base ok v1 (List.replicate n.toNat z0) → Below base w0 w1 → W.grownBy w1 none → (∃ b, v1.ownBlock = some b ∧ W.heap.size ≤ b) → wpList P ops Q rest (a.put o.dst v1) w1) : wpList P ops Q (o :: rest) a W := by
  obtain ⟨c, rfl⟩ := Int.eq_ofNat_of_zero_le (Int.le_trans h0 hnm)
  obtain ⟨n, rfl⟩ := Int.eq_ofNat_of_zero_le h0
  simp only [Int.toNat_natCast] at hl h
  have hnc : n ≤ c := by omega
  obtain ⟨i0, hi, hzz⟩ := Option.map_eq_some_iff.1 hinfo
  simp only [Prod.mk.injEq] at hzz
  obtain ⟨hz0, hz1, hz2⟩ := hzz
  have hm : c ≤ 281474976710656 := Nat.le_trans (Nat.le_mul_of_pos_right _ hb0) hl
  have hr := run_make (P := P) W t e i0 z ht hi hz0 .i64 .i64 (n : Int) (c : Int) (by omega) (by omega)
    (by
      have h3 : ((i0.bytes * c : Nat) : Int) ≤ 281474976710656 := by rw [hz2, Nat.mul_comm]; omega
      rwa [Int.natCast_mul] at h3) (by omega)
  simp only [Int.toNat_natCast] at hr
  rw [hz1] at hr
  have hsz : (madeCells z.cells (c * d.sz)).size = c * d.sz := by simp [size_madeCells]
  have hpre : (madeCells z.cells (c * d.sz)).toList.take (n * d.sz) = (madeCells z.cells (n * d.sz)).toList := by
    apply List.ext_getElem
    · simp [size_madeCells, Nat.min_eq_left hnc]
    · intro i h1 h2
      simp [madeCells, hz]
  refine event_run hgd (by simp [execOp, ho, hx, hy, hr]; exact ⟨rfl, rfl⟩) (h _ _ ⟨fun k hk => ?_, (madeCells z.cells (n * d.sz)).toList, ?_, ?_⟩ (HB.alloc hbase _) (World.grownBy_alloc W _ none) ⟨W.heap.size, by simp [Value.ownBlock], Nat.le_refl _⟩)
  · have : W.heap.size = k := by simpa [Value.ownBlock] using hk
    subst this
    exact hfresh
  · refine ⟨by simp [size_madeCells], .inr ⟨W.heap.size, c, madeCells z.cells (c * d.sz), by simp, hbase, heap_alloc_new W _, by simpa using hnc, by unfold maxLen; omega, hsz, ?_⟩⟩
    rw [List.length_replicate]
    exact hpre
  · refine (reps_made hz hs0 hzero n).imp_ (fun p cc hp => d.M_mono (fun k hk => ⟨hok k hk.1, fun he => ?_⟩) (M_below (d.M_bound hp) (below_alloc (Below.refl _ _) _)))
    have h3 : k = W.heap.size := by simpa [Value.ownBlock] using he
    have := hk.2.2.1
    omega
/-- []byte("const"): a literal, and the mark of a conversion: a row that is read alone. -/
theorem V_mark {w0 W : World} (base e : Nat) (hgd : o.guard = none) (hgd2 : o2.guard = none) {N : Tmp} (hd : o.dst = some N) (t : TypeId) (ho2 : o2.op = .convert t t (.tmp N)) (ht : P.underlying t = some (.slice e)) (he : P.underlying e = some (.int .u8))
    (hN : N < a.tmps.size) {xs : List Int} {inner : List Value} (hin : inner = xs.map (Value.int .u8))
    (hrun : (execOp a.eval o).run P W = .ok (.value (.slice (some ⟨W.heap.size, 0, none⟩) xs.length xs.length)) (W.alloc (.cells inner.toArray e))) (HB : Below base w0 W) (hbase : base ≤ W.heap.size) (hm : xs.length ≤ 9223372036854775807)
    (h : ∀ v1 w1, V (Kd.int .u8) e w1 base (fun k => W.heap.size ≤ k) v1 xs → Below base w0 w1 → W.grownBy w1 none → (∃ b, v1.ownBlock = some b ∧ W.heap.size ≤ b) → wpList P ops Q rest ((a.put o.dst v1).put o2.dst v1) w1) : wpList P ops Q (o :: o2 :: rest) a W := by
  have hr := Lib.run_convert_bytes_const (P := P) W t e inner.toArray xs.length xs.length ht he
  have hev : (a.put o.dst (.slice (some ⟨W.heap.size, 0, none⟩) xs.length xs.length)).eval (.tmp N) = .slice (some ⟨W.heap.size, 0, none⟩) xs.length xs.length := by
    rw [hd]
    simp [Act.put, Act.eval, hN]
  refine event_run hgd hrun (event_run hgd2 (v := .slice (some ⟨W.heap.size, 0, none⟩) xs.length xs.length) (w1 := W.alloc (.cells inner.toArray e (inner.toArray.size, inner.toArray.size + 1))) (by simp [execOp, ho2, hev, hr]) (h _ _ ⟨_, _, rfl, Nat.le_refl _, ?_⟩ (HB.alloc hbase _) (World.grownBy_alloc W _ none) ⟨W.heap.size, by simp [Value.ownBlock], Nat.le_refl _⟩))
  refine F_block_int (heap_alloc_new W _) xs hm (fun j hj => ?_) (Nat.le_refl _)
  subst hin
  simp [List.getD_eq_getElem?_getD, List.getElem?_eq_getElem hj]
end
end Kd
end Go.Proofs.YtkbdlgohmafglaaW.PrintWords
namespace Go.Proofs.YtkbdlgohmafglaaW.PrintLast
/-- More is known from here on. -/
theorem more_ {P : Program} {ops : Array Oper} {Q : Exit → Act → World → Prop} {md : Region.Mode} {S : World → Prop} {fuel : Nat} {l : Array Bool} {a : Act} {w : World} (S' : World → Prop) (h0 : S' w) (himp : ∀ w, S' w → S w)
    (h : S' w → wpAnyLast P md ops Q S' [] fuel l a w) : wpAnyLast P md ops Q S [] fuel l a w := by
  have go : ∀ (fuel : Nat) (l : Array Bool) (a : Act) (w : World), S' w → wpAnyLast P md ops Q S' [] fuel l a w → wpAnyLast P md ops Q S [] fuel l a w := by
    intro fuel
    induction fuel with
    | zero => intro l a w _ h; exact h
    | succ fuel ih =>
      intro l a w hS h
      exact ⟨h.1, fun i hi => wpOp_mono (fun a' w' h' => ⟨fun hn _ => himp _ (h'.1 hn hS), ih _ a' w' (h'.1 (by simp) hS) h'.2⟩) (h.2 i hi)⟩
  exact go fuel l a w h0 (h h0)
/-- A call of a function that stands in a slot. -/
theorem gate_callv {P : Program} {ops : Array Oper} {Q : Exit → Act → World → Prop} {rest : List Oper} {o : Oper} {a : Act} {W : World} {N : Tmp} {x : Tmp} {as : Array Operand} {ts : Array TypeId} (_hd : o.dst = some N) (_ho : o.op = .call { callee := .value (.tmp x), args := as, argTypes := ts })
    (h : wpList P ops Q (o :: rest) a W) : wpList P ops Q (o :: rest) a W := h
theorem runs_callv {P : Program} {oi : Oper} {a : Act} {w : World} {f : FuncId} {fn : Func} {as : Array Operand} {ts : Array TypeId} {x : Operand} (hf : P.funcs[f]? = some fn) (hname : (fn.name == "runtime.NumGoroutine") = false) (hb : fn.body.isSome = true) (first captured args : Array Value)
    (hop : oi.op = .call { callee := .value x, args := as, argTypes := ts }) (hx : a.eval x = .func (.func f) first captured) (hargs : first ++ as.map a.eval ++ captured = args) : (execOp a.eval oi).run P w = .ok (.enter f args) w := by
  have he := enters_ hf hname hb args w
  unfold execOp
  simp [hop, resolve, Deferred.ofValue, hx, invoke, hargs, he]
theorem goesV_ {P : Program} {ops : Array Oper} {Q : Exit → Act → World → Prop} {rest : List Oper} {oi : Oper} {a : Act} {w : World} (N : Option Tmp) (hd : oi.dst = N) (hg : oi.guard = none) {f : FuncId} {fn : Func} {as : Array Operand} {ts : Array TypeId} {x : Operand}
    (hf : P.funcs[f]? = some fn) (hname : (fn.name == "runtime.NumGoroutine") = false) (hb : fn.body.isSome = true) (first captured args : Array Value)
    (hop : oi.op = .call { callee := .value x, args := as, argTypes := ts }) (hx : a.eval x = .func (.func f) first captured) (hargs : first ++ as.map a.eval ++ captured = args)
    (h : Calls P f args w fun e w' => ∃ v, e = .returned v ∧ wpList P ops Q rest (a.put N v) w') : wpList P ops Q (oi :: rest) a w := by
  refine wpList_plain hg fun K hK => ?_
  unfold Oper.wp
  rw [runs_callv hf hname hb first captured args hop hx hargs, Oper.upon_enter]
  refine h.mono fun e w'' hh => ?_
  obtain ⟨v, rfl, hk⟩ := hh
  subst hd
  exact hK _ _ hk
theorem goesW_ {P : Program} {ops : Array Oper} {Q : Exit → Act → World → Prop} {oi : Oper} {N : Option Tmp} {a : Act} {w : World} {K : Act → World → Prop} {f : FuncId} {fn : Func} {as : Array Operand} {ts : Array TypeId} {x : Operand}
    (hf : P.funcs[f]? = some fn) (hname : (fn.name == "runtime.NumGoroutine") = false) (hb : fn.body.isSome = true) (first captured args : Array Value)
    (hw : Region.wanted oi (yielded ops a.tmps) = true) (hN : oi.dst = N) (hop : oi.op = .call { callee := .value x, args := as, argTypes := ts }) (hx : a.eval x = .func (.func f) first captured) (hargs : first ++ as.map a.eval ++ captured = args)
    (h : Calls P f args w fun e w' => ∃ v, e = .returned v ∧ K (a.put N v) w') : if Region.wanted oi (yielded ops a.tmps) = true then Oper.wp P oi a w K Q else K (a.put N undef) w :=
  call_ f args hw hN (runs_callv hf hname hb first captured args hop hx hargs) h
/-! Comparisons of strings, as they run. -/
theorem str_geq (P : Program) (t : TypeId) (a b : ByteArray) (W : World) : (binOp .geq t (.string a) (.string b)).run P W = .ok (.bool (!Op.bytesLess a.toList b.toList)) W := rfl
theorem str_lss (P : Program) (t : TypeId) (a b : ByteArray) (W : World) : (binOp .lss t (.string a) (.string b)).run P W = .ok (.bool (Op.bytesLess a.toList b.toList)) W := rfl
theorem str_gtr (P : Program) (t : TypeId) (a b : ByteArray) (W : World) : (binOp .gtr t (.string a) (.string b)).run P W = .ok (.bool !(Op.bytesLess a.toList b.toList || a.toList == b.toList)) W := rfl
theorem str_leq (P : Program) (t : TypeId) (a b : ByteArray) (W : World) : (binOp .leq t (.string a) (.string b)).run P W = .ok (.bool (Op.bytesLess a.toList b.toList || a.toList == b.toList)) W := rfl
/-! Short names, for short texts. -/
open Go.Proofs.YtkbdlgohmafglaaW.PrintWords in
theorem bA : type_of% @below_alloc := @below_alloc
open Go.Proofs.YtkbdlgohmafglaaW.PrintWords in
theorem bN : type_of% @pw_below_drewN := @pw_below_drewN
open Go.Proofs.YtkbdlgohmafglaaW.PrintWords in
theorem bD : type_of% @below_drew1 := @below_drew1
open Go.Proofs.YtkbdlgohmafglaaW.PrintWords in
theorem rN : type_of% @Kd.R_drewN := @Kd.R_drewN
open Go.Proofs.YtkbdlgohmafglaaW.PrintWords in
theorem rA : type_of% @Kd.R_alloc := @Kd.R_alloc
open Go.Proofs.YtkbdlgohmafglaaW.PrintWords in
theorem rD : type_of% @Kd.R_drew := @Kd.R_drew
end Go.Proofs.YtkbdlgohmafglaaW.PrintLast
