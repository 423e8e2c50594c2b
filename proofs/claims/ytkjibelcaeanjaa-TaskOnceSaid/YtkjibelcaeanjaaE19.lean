/- A logic of plain values, part 19: regions in the text's order, and the flow of control. -/
import Derived.Test.YtkjibelcaeanjaaE18
namespace Go.Proofs.Ytkjibelcaeanjaa.E
open Go Go.RowKit
set_option linter.unusedVariables false
set_option linter.unusedSimpArgs false
def compGd (all : Array Oper) : Option (Nat × Bool) → Option (Option (Nat × Bool))
  | none => some none
  | some (j, want) => ((all[j]?).bind (·.dst)).map fun t => some (t, want)
/-- The slots that an operation of a region takes. -/
def takenDsts (h : Hint) (ops : List Oper) : List Nat := ops.flatMap fun o => match o.op with
  | .assign (.tmp t) | .store _ _ (.tmp t) | .box _ (.tmp t) | .extract (.tmp t) _ => [t]
  | .call c => match c.callee, c.args.toList with
    | .builtin .append, .tmp t :: _ => [t]
    | .value (.func f), as => (as.zip (takesOf h f)).filterMap fun | (.tmp t, true) => some t | _ => none
    | _, _ => []
  | _ => []
/-- The slice literals that a conversion of the region takes. -/
def litDsts (ops : List Oper) : List Nat := ops.filterMap fun o => match o.op with
  | .convert s d (.tmp t) => if s = d then some t else none
  | _ => none
/-- What is taken out of a tuple: of its first slice only. -/
def extDsts (P : Program) (ops : List Oper) : List Nat := (ops.foldl (fun acc o => match o.op, o.dst with
  | .extract (.tmp t) _, some d => (match P.underlying o.type with
    | some (.slice _) => if acc.1.contains t then acc else (t :: acc.1, d :: acc.2)
    | some (.struct _) => if acc.1.contains t then acc else (t :: acc.1, d :: acc.2)
    | _ => acc)
  | _, _ => acc) (([], []) : List Nat × List Nat)).2
def rh (P : Program) (h : Hint) (all : Array Oper) : Hint := { h with mvs := takenDsts h all.toList, lits := litDsts all.toList, exts := extDsts P all.toList }
def compOps (P : Program) (h : Hint) (all : Array Oper) : List Oper → Option (List POp)
  | [] => some []
  | o :: os => (compOp P (rh P h all) o).bind fun k => (compGd all o.guard).bind fun gd => (compOps P h all os).map (⟨o.dst, gd, k⟩ :: ·)
/-- What a guard says: a bool, or nothing (its operation was not done). -/
def gval : PV → Option (Option Bool)
  | .bool b => some (some b)
  | .tup [] => some none
  | _ => none
/-- The operations one behind the other. -/
def runOps (P : Program) : List POp → (List PV → Heap → Prop) → List PV → Heap → Prop
  | [], K, st, H => K st H
  | op :: ops, K, st, H =>
    match op.gd with
    | none => stepOp P op (runOps P ops K) st H
    | some (t, want) => ∃ b, gval (st.getD t .unit) = some b ∧ (if b = some want then stepOp P op (runOps P ops K) st H else runOps P ops K (putSt st op.dst (.tup [])) H)
section
variable {P : Program} {hint : Hint} {out : List Nat} {st : List PV} {H : Heap} {a : Act} {w : World} {g : Ghost} {K : List PV → Heap → Prop}
theorem slot_bool (h : VRl true w g st a.tmps.toList) {t : Nat} {b : Bool} (hb : st.getD t .unit = .bool b) : a.tmps[t]? = some (.bool b) := by
  by_cases ht : t < st.length
  · obtain ⟨v, h1, h2⟩ := VRl_get h (List.getElem?_eq_getElem ht)
    have e1 : st.getD t .unit = st[t] := by simp [List.getD, List.getElem?_eq_getElem ht]
    rw [← e1, hb] at h2
    cases h2
    rw [← Array.getElem?_toList]
    exact h1
  · rw [List.getD, List.getElem?_eq_none (Nat.le_of_not_lt ht)] at hb
    cases hb
theorem slot_gval {all : Array Oper} {j : Nat} (h : VRl true w g st a.tmps.toList) {t : Nat} (ht : (all[j]?).bind (·.dst) = some t) {q : Option Bool} (hq : gval (st.getD t .unit) = some q) : yielded all a.tmps j = q := by
  unfold yielded
  rw [ht, Option.bind_some]
  unfold gval at hq
  split at hq
  · rename_i b hb
    cases hq
    rw [slot_bool h hb]
  · rename_i hb
    cases hq
    by_cases ht : t < st.length
    · obtain ⟨v, h1, h2⟩ := VRl_get h (List.getElem?_eq_getElem ht)
      have e1 : st.getD t .unit = st[t] := by simp [List.getD, List.getElem?_eq_getElem ht]
      rw [← e1, hb] at h2
      obtain ⟨vs, rfl, _⟩ := h2
      rw [← Array.getElem?_toList, h1]
    · rw [List.getD, List.getElem?_eq_none (Nat.le_of_not_lt ht)] at hb
      cases hb
  · cases hq
theorem wanted_spec {all : Array Oper} {o : Oper} {gd : Option (Nat × Bool)} (hg : compGd all o.guard = some gd) (h : VRl true w g st a.tmps.toList) :
    (gd = none → Region.wanted o (yielded all a.tmps) = true) ∧ ∀ t want b, gd = some (t, want) → gval (st.getD t .unit) = some b → Region.wanted o (yielded all a.tmps) = decide (b = some want) := by
  unfold compGd at hg
  split at hg
  · rename_i hn
    cases hg
    exact ⟨fun _ => by simp [Region.wanted, hn], fun t want b e => by cases e⟩
  · rename_i j want hn
    obtain ⟨t, ht, rfl⟩ := map_spec hg
    refine ⟨fun e => by simp at e, fun t' want' b e hb => ?_⟩
    simp only [Option.some.injEq, Prod.mk.injEq] at e
    obtain ⟨rfl, rfl⟩ := e
    simp only [Region.wanted, hn, slot_gval h ht hb]
    cases b with
    | none => simp
    | some b => cases b <;> cases want <;> rfl
theorem put_rel (h : Rel out st H a w g) (d : Option Nat) : Rel out (putSt st d (.tup [])) H (a.put d undef) w g := by
  refine ⟨h.wr, h.hp, VRl_put h.tm ⟨#[], rfl, rfl⟩, fun b => ?_, ?_⟩
  · have h2 := count_put_le b (d := d) (x := .tup []) (v := undef) h.tm
    have e3 : toks (.tup []) undef = [] := by simp [toks, undef, toksL]
    rw [e3, List.count_nil] at h2
    have := h.un b
    omega
  · have : (a.put d undef).defers = a.defers := by cases d <;> rfl
    rw [this]
    exact h.df
theorem ops_sound {all : Array Oper} {QQ : Exit → Act → World → Prop} : ∀ (n i : Nat) {pops : List POp} {st : List PV} {H : Heap} {a : Act} {w : World} {g : Ghost}, i + n = all.size → compOps P hint all (all.toList.drop i) = some pops → runOps P pops K st H → Rel out st H a w g →
    (∀ a' w', After out w g K a' w' → QQ .normal a' w') → wpOps P all QQ (List.range' i n) a w
  | 0, i, pops, st, H, a, w, g, hi, hc, hr, h, hQ => by
    have hd : all.toList.drop i = [] := List.drop_of_length_le (by show all.size ≤ i; omega)
    rw [hd] at hc
    cases hc
    exact hQ a w ⟨st, H, g, hr, h, Evol.refl _ _ _⟩
  | n + 1, i, pops, st, H, a, w, g, hi, hc, hr, h, hQ => by
    have hlt : i < all.size := by omega
    have hd : all.toList.drop i = all[i] :: all.toList.drop (i + 1) := by
      rw [List.drop_eq_getElem_cons (by exact hlt)]
      rfl
    rw [hd] at hc
    obtain ⟨k, hk, hc⟩ := bind_spec hc
    obtain ⟨gd, hgd, hc⟩ := bind_spec hc
    obtain ⟨ps, hps, rfl⟩ := map_spec hc
    have ho : all[i]? = some all[i] := Array.getElem?_eq_getElem hlt
    obtain ⟨w1, w2⟩ := wanted_spec hgd h.tm
    have go : ∀ a' w', After out w g (runOps P ps K) a' w' → wpOps P all QQ (List.range' (i + 1) n) a' w' := by
      rintro a' w' ⟨st', H', g', q1, q2, q3⟩
      exact ops_sound n (i + 1) (by omega) hps q1 q2 fun a2 w2 ⟨s2, H2, g2, r1, r2, r3⟩ => hQ a2 w2 ⟨s2, H2, g2, r1, r2, q3.trans r3⟩
    rw [show List.range' i (n + 1) = i :: List.range' (i + 1) n from rfl]
    simp only [wpOps, ho]
    have step : ∀ (hs : stepOp P ⟨all[i].dst, gd, k⟩ (runOps P ps K) st H), Region.wanted all[i] (yielded all a.tmps) = true →
        if Region.wanted all[i] (yielded all a.tmps) = true then all[i].wp P a w (wpOps P all QQ (List.range' (i + 1) n)) QQ ∨ all[i].asks P a w ∧ LetsOut QQ else wpOps P all QQ (List.range' (i + 1) n) (a.put all[i].dst undef) w := by
      intro hs hw
      rw [if_pos hw]
      exact .inl (Oper.wp_mono go (step_sound (op := ⟨all[i].dst, gd, k⟩) hk rfl h hs))
    unfold runOps at hr
    cases gd with
    | none => exact step hr (w1 rfl)
    | some p =>
      obtain ⟨t, want⟩ := p
      obtain ⟨b, hb, hr⟩ := hr
      have hw := w2 t want b rfl hb
      by_cases hbw : b = some want
      · rw [if_pos hbw] at hr
        exact step hr (by rw [hw]; simp [hbw])
      · rw [if_neg hbw] at hr
        rw [if_neg (by rw [hw]; simp [hbw])]
        exact go _ _ ⟨_, H, g, hr, put_rel h _, Evol.refl _ _ _⟩
end
/-! ## the flow of control -/
inductive PCode where
  | skip
  | region (ops : List POp)
  | draw (ops : List POp) (late : List (Nat × Nat))
  | drawN (ops : List POp) (late : List (Nat × Nat)) (news : List (Nat × Nat × Nat × Nat))
  | seq (a b : PCode)
  | cond (c : Arg) (a b : PCode)
  | block (id : Nat) (b : PCode)
  | loop (b : PCode)
  | exit (id : Nat)
  | ret
  deriving Inhabited
inductive PExit where
  | normal
  | exit (id : Nat)
  | ret
def PExit.conv : PExit → Exit
  | .normal => .normal
  | .exit id => .exit id
  | .ret => .ret
abbrev PPost := PExit → List PV → Heap → Prop
def PostOf (out : List Nat) (w : World) (g : Ghost) (Q : PPost) (e : Exit) (a' : Act) (w' : World) : Prop :=
  ∃ pe st' H' g', e = PExit.conv pe ∧ Q pe st' H' ∧ Rel out st' H' a' w' g' ∧ Evol out w g w' g'
theorem PostOf.trans {out : List Nat} {w w1 : World} {g g1 : Ghost} {Q : PPost} {e : Exit} {a' : Act} {w' : World} (hE : Evol out w g w1 g1) (h : PostOf out w1 g1 Q e a' w') : PostOf out w g Q e a' w' := by
  obtain ⟨pe, st', H', g', h1, h2, h3, h4⟩ := h
  exact ⟨pe, st', H', g', h1, h2, h3, hE.trans h4⟩
def thenP (K : List PV → Heap → Prop) (Q : PPost) : PPost
  | .normal, st, H => K st H
  | e, st, H => Q e st H
def inBlockP (id : Nat) (Q : PPost) : PPost
  | .exit id', st, H => if id' = id then Q .normal st H else Q (.exit id') st H
  | e, st, H => Q e st H
theorem wp_loop_n {P : Program} {Q : Exit → Act → World → Prop} {c : Code} (I : Nat → Act → World → Prop) {n : Nat} {a : Act} {w : World} (h₀ : I n a w)
    (round : ∀ n a w, I n a w → c.wp P (Exit.then (fun a' w' => ∃ m, m < n ∧ I m a' w') Q) a w) : (Code.loop c).wp P Q a w := by
  intro b k cs
  have key : ∀ n a w, I n a w → ∃ e a' w', Q e a' w' ∧ Arrives P (lone (b.at a (.code c :: .inLoop c :: k)) cs w) b k cs e a' w' := by
    intro n
    induction n using Nat.strongRecOn with
    | _ n ih =>
      intro a w hI
      obtain ⟨e, a₁, w₁, hq, harr⟩ := round n a w hI b (.inLoop c :: k) cs
      cases e with
      | normal =>
        obtain ⟨m, hlt, hI₁⟩ := hq
        obtain ⟨e₂, a₂, w₂, hq₂, harr₂⟩ := ih m hlt a₁ w₁ hI₁
        exact ⟨e₂, a₂, w₂, hq₂, .of_steps (Steps.trans harr (.one step_inLoop)) harr₂⟩
      | exit id => exact ⟨_, a₁, w₁, hq, .pass (x := .inLoop c) rfl (fun _ _ => .inl (by simp)) harr⟩
      | goto l => exact ⟨_, a₁, w₁, hq, .pass (x := .inLoop c) rfl (fun _ _ => .inl (by simp)) harr⟩
      | ret => exact ⟨_, a₁, w₁, hq, .pass (x := .inLoop c) rfl (fun _ _ => .inl (by simp)) harr⟩
      | panic ch => exact ⟨_, a₁, w₁, hq, .pass (x := .inLoop c) rfl (fun _ _ => .inl (by simp)) harr⟩
      | outgrown => exact ⟨_, a₁, w₁, hq, .pass (x := .inLoop c) rfl (fun _ _ => .inl (by simp)) harr⟩
  obtain ⟨e, a', w', hq, harr⟩ := key n a w h₀
  exact ⟨e, a', w', hq, .of_steps (.one step_loop) harr⟩
end Go.Proofs.Ytkjibelcaeanjaa.E
