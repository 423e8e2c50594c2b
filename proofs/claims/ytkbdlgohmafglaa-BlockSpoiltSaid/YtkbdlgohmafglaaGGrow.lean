-- contracts proved by hand
import Derived.Test.YtkbdlgohmafglaaPAx0
namespace Go.Proofs.Ytkbdlgohmafglaa.PA
open Go.RowKit Go.Proofs.YtkbdlgohmafglaaW.PrintWords Go.Proofs.YtkbdlgohmafglaaW.PrintLast Go.Proofs.YtkbdlgohmafglaaW.PrintMore
attribute [local go_sem] max2_int min2_int max_two min_two max_three min_three max_four min_four str_geq str_lss str_gtr str_leq
set_option linter.unusedVariables false
set_option linter.unusedSimpArgs false
/-! slices.Grow of a nil slice: by hand -/
theorem grow_nil (n : Int) (w : World) (h0 : 0 ≤ n) (hn : n ≤ 140737488355328) :
    Calls Try.prog 30 #[.slice none 0 0, .int .i64 n] w fun e w' => ∃ v : Value, e = .returned v ∧ Kd.R (Kd.int .u8) 5 w' w.heap.size (fun _ => True) v [] ∧ Below w.heap.size w w' := by
  have c1 : decide (n < 0) = false := decide_eq_false (by omega)
  have e1 : IntKind.i64.wrap n = n := by rw [IntKind.wrap_i64]; omega
  have hcap : ∀ W : World, (Instr.slice 23 (.slice none 0 0) none (some (.int .i64 0)) none).run Try.prog W = .ok (.slice none 0 0) W := fun W => by rfl
  by_cases hp : 0 < n
  · have c2 : decide (0 < n) = true := decide_eq_true hp
    obtain ⟨i0, hi0, _, hsz, _⟩ := info_parts info5
    go_enter Try.func30, Try.ntmps30
    go_wp2_with (first | (at_builtin; refine Kd.R_append_zeros (Kd.int .u8) (w0 := w) w.heap.size rfl (.tmp 20) (.tmp 21) 23 3 5 (.int .u8 0) 1 rfl Try.underlying23 Try.underlying3 info5 rfl (by decide) (by omega) (.slice none 0 0) [] (0 : Int) n (fun _ => True) rfl rfl rfl (fun _ _ => trivial) (Kd.R_nil _ _ _ _ _) h0 (Below.refl _ _) (Nat.le_refl _) (by simp; omega) ?_; intro v1 w1 hr hb hg hat; obtain ⟨A1, cc1, ev⟩ := Kd.R_slice hr; subst ev; have hl1 := (Kd.R_reads' hr).1; have hl2 := (Kd.R_reads' hr).2.1; have hcut := cut_to (P := Try.prog) 23 5 .i64 Try.underlying23 hi0 A1 ([] ++ List.replicate n.toNat (0 : Int)).length cc1 0 (by omega) (by omega) hl2; have hr2 := Aside0.mk (Kd.R_take (m := 0) hr (Nat.zero_le _)); have hb2 := Aside0.mk hb; clear hr hb hg hat hl1 hl2))
    go_ret
    exact ⟨_, rfl, by simpa using hr2.out, hb2.out⟩
  · obtain rfl : n = 0 := by omega
    go_enter Try.func30, Try.ntmps30
    go_wp2
    go_ret
    exact ⟨_, rfl, Kd.R_nil _ _ _ _ _, Below.refl _ _⟩

end Go.Proofs.Ytkbdlgohmafglaa.PA
