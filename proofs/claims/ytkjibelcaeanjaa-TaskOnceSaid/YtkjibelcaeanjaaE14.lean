/- A logic of plain values, part 14: .. (2). -/
import Derived.Test.YtkjibelcaeanjaaE13
namespace Go.Proofs.Ytkjibelcaeanjaa.E
open Go Go.RowKit
set_option linter.unusedVariables false
set_option linter.unusedSimpArgs false
section
variable {P : Program} {hint : Hint} {k : PK} {out : List Nat} {st : List PV} {H : Heap} {a : Act} {w : World} {g : Ghost} {r : PV} {d : Option Tmp} {ty : TypeId} {pos : String} {af : Array Edge} {gd : Option (Nat × Bool)}
theorem does_slice (h : Rel out st H a w g) {t : TypeId} {x : Operand} {lo hi mx : Option Operand} (hk : compSlice P t x lo hi mx = some k) (hv : pev st H k = some r) : Does P ⟨d, .slice t x lo hi mx, ty, pos, af, gd⟩ k st a w g r := by
  unfold compSlice at hk
  split at hk
  · rename_i e ht
    obtain ⟨i, hi', hk⟩ := bind_spec hk
    obtain ⟨p, hp, hk⟩ := bind_spec hk
    obtain ⟨lo', hlo, hk⟩ := bind_spec hk
    obtain ⟨hi2, hhi, hk⟩ := bind_spec hk
    obtain ⟨mx', hmx, rfl⟩ := map_spec hk
    obtain ⟨z, h1, h2⟩ := sliP_run (P := P) ht hi' hv (arg_spec h.tm hp) (opt_spec h.tm hlo) (opt_spec h.tm hhi) (opt_spec h.tm hmx)
    exact Does.same h rfl ⟨z, by unfold execOp; exact run_v h1, h2⟩
  · rename_i ht
    split at hk
    · cases hk
    · rename_i hmx
      obtain ⟨p, hp, hk⟩ := bind_spec hk
      obtain ⟨lo', hlo, hk⟩ := bind_spec hk
      obtain ⟨hi2, hhi, rfl⟩ := map_spec hk
      have : mx = none := by cases mx <;> simp_all
      subst this
      obtain ⟨z, h1, h2⟩ := slsP_run (P := P) ht hv (arg_spec h.tm hp) (opt_spec h.tm hlo) (opt_spec h.tm hhi)
      exact Does.same h rfl ⟨z, by unfold execOp; exact run_v h1, h2⟩
  · cases hk
theorem toList_one {α : Type} {c : Array α} {x : α} (h : c.toList = [x]) : c = #[x] := by apply Array.toList_inj.1; rw [h]
theorem toList_two {α : Type} {c : Array α} {x y : α} (h : c.toList = [x, y]) : c = #[x, y] := by apply Array.toList_inj.1; rw [h]
theorem does_builtin (h : Rel out st H a w g) {b : Builtin} {args : Array Operand} {ts : Array TypeId} (hk : compBuiltin P b ts.toList args.toList = some k) (hv : pev st H k = some r) :
    Does P ⟨d, .call ⟨.builtin b, args, ts⟩, ty, pos, af, gd⟩ k st a w g r := by
  unfold compBuiltin at hk
  split at hk
  · rename_i t tx x y hts hargs
    have e1 := toList_two hts
    have e2 := toList_two hargs
    subst e1 e2
    split at hk
    · rename_i e dx ht htx
      obtain ⟨i, hi, hk⟩ := bind_spec hk
      obtain ⟨z, hz, hk⟩ := bind_spec hk
      obtain ⟨⟨c1, c2, c3, c4⟩, hk⟩ := ite_spec hk
      obtain ⟨p, hp, hk⟩ := bind_spec hk
      obtain ⟨q, hq, rfl⟩ := map_spec hk
      have hdx : dx = .string ∨ ∃ e2, dx = .slice e2 := by
        cases dx <;> simp at c4
        · exact .inl rfl
        · exact .inr ⟨_, rfl⟩
      obtain ⟨v', w', g', h1, h2⟩ := appP_run (P := P) (ty := ty) ht htx hdx hi hz c1 c2 c3 h.wr hv (argT_spec h.tm hp) (VR_weak _ _ (arg_spec h.tm hq))
      obtain ⟨h3, h4⟩ := take_spec h.tm hp
      refine ⟨v', w', g', _, ?_, h2, h3, h4⟩
      simp only [execOp, resolve, invoke, builtin, Sem.run_bind, Sem.run_pure, Result.andThen_ok, List.map_toArray, List.map_cons, List.map_nil, h1]
    · cases hk
  · rename_i t x hts hargs
    have e1 := toList_one hts
    have e2 := toList_one hargs
    subst e1 e2
    split at hk
    · rename_i ht
      obtain ⟨p, hp, rfl⟩ := map_spec hk
      obtain ⟨z, h1, h2⟩ := lenS_run (P := P) (ty := ty) ht hv (arg_spec h.tm hp)
      exact Does.same h rfl ⟨z, by simp only [execOp, resolve, invoke, builtin, Sem.run_bind, Sem.run_pure, Result.andThen_ok, List.map_toArray, List.map_cons, List.map_nil, h1], h2⟩
    · rename_i ht
      obtain ⟨p, hp, rfl⟩ := map_spec hk
      obtain ⟨z, h1, h2⟩ := lenL_run (P := P) (ty := ty) ht hv (arg_spec h.tm hp)
      exact Does.same h rfl ⟨z, by simp only [execOp, resolve, invoke, builtin, Sem.run_bind, Sem.run_pure, Result.andThen_ok, List.map_toArray, List.map_cons, List.map_nil, h1], h2⟩
    · cases hk
  · rename_i x y hargs
    have e2 := toList_two hargs
    subst e2
    obtain ⟨p, hp, hk⟩ := bind_spec hk
    obtain ⟨q, hq, rfl⟩ := map_spec hk
    obtain ⟨z, h1, h2⟩ := mmP_run (P := P) (ts := ts) (ty := ty) (mx := true) (w := w) (g := g) hv (arg_spec h.tm hp) (arg_spec h.tm hq)
    refine Does.same h rfl ⟨z, ?_, h2⟩
    simp only [if_true] at h1
    simp only [execOp, resolve, invoke, builtin, Sem.run_bind, Sem.run_pure, Result.andThen_ok, List.map_toArray, List.map_cons, List.map_nil, h1]
  · rename_i x y hargs
    have e2 := toList_two hargs
    subst e2
    obtain ⟨p, hp, hk⟩ := bind_spec hk
    obtain ⟨q, hq, rfl⟩ := map_spec hk
    obtain ⟨z, h1, h2⟩ := mmP_run (P := P) (ts := ts) (ty := ty) (mx := false) (w := w) (g := g) hv (arg_spec h.tm hp) (arg_spec h.tm hq)
    refine Does.same h rfl ⟨z, ?_, h2⟩
    simp only [Bool.false_eq_true, if_false] at h1
    simp only [execOp, resolve, invoke, builtin, Sem.run_bind, Sem.run_pure, Result.andThen_ok, List.map_toArray, List.map_cons, List.map_nil, h1]
  · cases hk
theorem does_extF (h : Rel out st H a w g) {x : Operand} {p : Arg} {i : Nat} (hp : compArg x = some p) (hv : pev st H (.ext false p i) = some r) : Does P ⟨d, .extract x i, ty, pos, af, gd⟩ (.ext false p i) st a w g r := by
  have h1 := arg_spec h.tm hp
  have h0 : toks (arg st p) (a.eval x) = [] := arg_toks
  simp only [pev, Bool.false_eq_true, if_false] at hv
  unfold extP at hv
  split at hv
  · rename_i vs hvs
    rw [hvs] at h1 h0
    obtain ⟨us, hu, hl⟩ := h1
    obtain ⟨u, hu1, hu2⟩ := VRl_get hl hv
    rw [hu] at h0
    have h0 : toksL vs us.toList = [] := by simpa [toks] using h0
    refine Does.same h rfl ⟨u, ?_, hu2, List.eq_nil_iff_forall_not_mem.mpr fun b hb => ?_⟩
    · unfold execOp
      refine run_v ?_
      have : us[i]? = some u := by rw [← Array.getElem?_toList]; exact hu1
      simp [hu, Instr.extract, this]
    · have := count_toksL_set b vs us.toList i (lend r) r u u hv hu1
      rw [toks_lend, List.count_nil, h0, List.count_nil] at this
      have := List.count_pos_iff.mpr hb
      omega
  · cases hv
theorem does_ext (h : Rel out st H a w g) {x : Operand} {p : Arg} {i : Nat} {tk : Bool} (hp : compArg x = some p) (hv : pev st H (.ext tk p i) = some r) : Does P ⟨d, .extract x i, ty, pos, af, gd⟩ (.ext tk p i) st a w g r := by
  cases tk
  · exact does_extF h hp hv
  have h1 := argT_spec h.tm hp
  simp only [pev, if_true] at hv
  unfold extP at hv
  split at hv
  · rename_i vs hvs
    rw [hvs] at h1
    obtain ⟨us, hu, hl⟩ := h1
    obtain ⟨u, hu1, hu2⟩ := VRl_get hl hv
    have hrun : (execOp a.eval ⟨d, .extract x i, ty, pos, af, gd⟩).run P w = .ok (.value u) w := by
      unfold execOp
      refine run_v ?_
      have : us[i]? = some u := by rw [← Array.getElem?_toList]; exact hu1
      simp [hu, Instr.extract, this]
    unfold compArg at hp
    split at hp
    · rename_i t
      cases hp
      simp only [argT] at hvs
      by_cases ht : t < st.length
      · obtain ⟨v, q1, q2⟩ := VRl_get h.tm (List.getElem?_eq_getElem ht)
        have e1 : st.getD t .unit = st[t] := by simp [List.getD, List.getElem?_eq_getElem ht]
        have e2 : a.tmps.getD t undef = v := by simp only [Array.getD_eq_getD_getElem?, ← Array.getElem?_toList, q1, Option.getD_some]
        have e3 : v = .tuple us := by rw [← e2]; exact hu
        subst e3
        have hset : a.tmps.toList.set t (.tuple us) = a.tmps.toList := by
          obtain ⟨hl, hv⟩ := List.getElem?_eq_some_iff.1 q1
          rw [← hv]
          exact List.set_getElem_self hl
        have hus : us.toList.set i u = us.toList := by
          obtain ⟨hl, hv⟩ := List.getElem?_eq_some_iff.1 hu1
          rw [← hv]
          exact List.set_getElem_self hl
        have hgd : vs.getD i .unit = r := by simp [List.getD, hv]
        have hst : st[t] = .tup vs := by rw [← e1]; exact hvs
        have hxt : extTake st (.t t) i = st.set t (.tup (vs.set i (lend r))) := by
          simp only [extTake, hvs, hgd]
        have hvr : VR true w g (.tup (vs.set i (lend r))) (.tuple us) := by
          have := VRl_set i hl (VR_lend (o := true) _ _ (VR_weak _ _ hu2))
          rw [hus] at this
          exact ⟨us, rfl, this⟩
        have c1 : ∀ b, (toks (.tup (vs.set i (lend r))) (.tuple us)).count b + (toks r u).count b = (toks (.tup vs) (.tuple us)).count b := fun b => by
          have := count_toksL_set b vs us.toList i (lend r) r u u hv hu1
          rw [hus, toks_lend, List.count_nil] at this
          simp only [toks]
          omega
        have c2 : ∀ b, (toksL (extTake st (.t t) i) a.tmps.toList).count b + (toks r u).count b = (toksL st a.tmps.toList).count b := fun b => by
          have := count_toksL_set b st a.tmps.toList t (.tup (vs.set i (lend r))) st[t] (.tuple us) (.tuple us) (List.getElem?_eq_getElem ht) q1
          rw [hset, hst] at this
          rw [hxt]
          have := c1 b
          omega
        refine ⟨u, w, g, toks r u, hrun, Step.move h.wr hu2 fun b => ?_, ?_, fun b => ?_⟩
        · have := c2 b
          have := h.un b
          omega
        · show VRl true w g (extTake st (.t t) i) _
          rw [hxt]
          have := VRl_set t h.tm hvr
          rw [hset] at this
          exact this
        · have := c2 b
          show (toksL (extTake st (.t t) i) _).count b + _ ≤ _
          omega
      · have e1 : st.getD t .unit = .unit := by rw [List.getD, List.getElem?_eq_none (Nat.le_of_not_lt ht)]; rfl
        rw [e1] at hvs
        cases hvs
    · obtain ⟨x, h1, rfl⟩ := Option.map_eq_some_iff.mp hp
      simp only [argT] at hvs
      subst hvs
      unfold constPV at h1
      split at h1
      · obtain ⟨_, _, h1⟩ := map_spec h1; cases h1
      · split at h1
        · cases h1
        · cases h1
      · unfold constCell at h1
        split at h1 <;> cases h1
    · cases hp
      simp only [argT] at hvs
      cases hvs
    · cases hp
  · cases hv
theorem does_nck (h : Rel out st H a w g) {x : Operand} {p : Arg} (hp : compArg x = some p) (hv : pev st H (.nck p) = some r) : Does P ⟨d, .nilCheck x, ty, pos, af, gd⟩ (.nck p) st a w g r := by
  obtain ⟨h1, h2⟩ := nckP_run (P := P) (dst := d) (ty := ty) (pos := pos) (after := af) (gd := gd) hv (arg_spec h.tm hp)
  exact Does.same h rfl ⟨_, h1, h2⟩
theorem does_mkf (h : Rel out st H a w g) {fn : Fn} {first cap : Array Operand} {f c : List Arg} (hf : compArgs first.toList = some f) (hc : compArgs cap.toList = some c) (hv : pev st H (.mkf fn f c) = some r) :
    Does P ⟨d, .makeFunc fn first cap, ty, pos, af, gd⟩ (.mkf fn f c) st a w g r := by
  cases hv
  obtain ⟨h1, _⟩ := args_spec h.tm hf
  obtain ⟨h2, _⟩ := args_spec h.tm hc
  refine Does.same h rfl ⟨.func fn (first.map a.eval) (cap.map a.eval), by unfold execOp; exact run_v rfl, ⟨_, _, rfl, ?_, ?_⟩, by simp [toks]⟩
  · rw [Array.toList_map]; exact VRl_weak _ _ h1
  · rw [Array.toList_map]; exact VRl_weak _ _ h2
end
end Go.Proofs.Ytkjibelcaeanjaa.E
