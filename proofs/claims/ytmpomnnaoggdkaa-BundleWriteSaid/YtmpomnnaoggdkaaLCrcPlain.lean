import Derived.Test.YtmpomnnaoggdkaaLCrc
import Derived.Test.YtmpomnnaoggdkaaLCrcSeal
import Derived.Test.YtmpomnnaoggdkaaLCrcRef
import Derived.Test.YtmpomnnaoggdkaaPAx9
-- the reference's sums without a table
set_option linter.unusedVariables false
set_option linter.unusedSimpArgs false
namespace Go.Proofs.Ytmpomnnaoggdkaa.Pure
open Go.RowKit Go.Proofs.Ytmpomnnaoggdkaa.PA Go.Proofs.YtmpomnnaoggdkaaW.PrintWords Go.Proofs.YtmpomnnaoggdkaaW.PrintLast Go.Proofs.YtmpomnnaoggdkaaW.PrintMore
theorem entry_val : (List.range 256).all (fun i => threshingref02_Entry.f 20 (i : Int) == some ((ent i : Nat) : Int)) = true := by decide +kernel
theorem entry_ev (i : Nat) (h : i < 256) : Ev (fun k => threshingref02_Entry.f k (i : Int)) ((ent i : Nat) : Int) := by
  have e := List.all_eq_true.1 entry_val i (List.mem_range.2 h)
  exact Ev.of (fun k => threshingref02_Entry.mono _ k) (k := 20) (by simpa using e)
theorem tbl_at {j : Nat} (h : j < 256) : tbl.getD j 0 = ent j := by
  simp only [tbl, List.getD_eq_getElem?_getD, List.getElem?_map, List.getElem?_range h, Option.map_some, Option.getD_some]
theorem xor_mod256 {c x : Nat} (hx : x < 256) : (c ^^^ x) % 256 = (c % 256) ^^^ x := by
  have := Nat.xor_mod_two_pow (a := c) (b := x) (n := 8)
  rw [show (2 : Nat) ^ 8 = 256 from rfl, Nat.mod_eq_of_lt hx] at this
  exact this
theorem rplain_loop {b : List Nat} (hb : ∀ x ∈ b, x < 256) (hl : b.length ≤ 140737488351232) (d : Nat) : ∀ (i c : Nat), i + d = b.length → c < 4294967296 →
    Ev (fun k => threshingref02_Plain.l0 k (ci b) (c : Int) (i : Int)) ((mor tbl c (b.drop i) ^^^ 4294967295 : Nat) : Int) := by
  induction d with
  | zero =>
    intro i c hi hc
    refine Ev.succ ?_
    simp only [threshingref02_Plain.l0, ci_length]
    refine Ev.neg (by omega) (Ev.done ?_)
    rw [List.drop_eq_nil_of_le (by omega), mor, show (4294967295 : Int) = ((4294967295 : Nat) : Int) from rfl, x32 _ _ hc (by omega)]
  | succ d ih =>
    intro i c hi hc
    have hil : i < b.length := by omega
    have e : b.drop i = b[i] :: b.drop (i + 1) := List.drop_eq_getElem_cons hil
    have hx : b[i] < 256 := hb _ (List.getElem_mem _)
    refine Ev.succ ?_
    simp only [threshingref02_Plain.l0, ci_length, rd_ci, List.getD_eq_getElem?_getD, List.getElem?_eq_getElem hil, Option.getD_some]
    have h1 : ((b[i] : Int) % 4294967296) = (b[i] : Int) := by omega
    have h2 : Int.tmod ((c ^^^ b[i] : Nat) : Int) 256 = (((c % 256) ^^^ b[i] : Nat) : Int) := by
      rw [show (256 : Int) = ((256 : Nat) : Int) from rfl, tmod_nat, xor_mod256 hx]
    have hj : (c % 256) ^^^ b[i] < 256 := xor_lt8 (by omega) hx
    have h3 : (Int.tdiv (c : Int) 256) % 4294967296 = ((c / 256 : Nat) : Int) := by
      rw [show (256 : Int) = ((256 : Nat) : Int) from rfl, tdiv_nat]; omega
    rw [h1, x32 c b[i] hc (by omega), h2, w64n _ (by omega), h3, e, mor, tbl_at hj]
    refine Ev.pos (by omega) (Ev.pos (by omega) (Ev.bind (entry_ev _ hj) ?_))
    have he : ent ((c % 256) ^^^ b[i]) < 4294967296 := by rw [← tbl_at hj]; exact getD_lt tbl_lt (by omega)
    rw [x32 _ _ he (by omega), w64s i (by omega)]
    exact ih (i + 1) _ (by omega) (xor_lt32 he (by omega))
theorem rplain_ev {b : List Nat} (hb : ∀ x ∈ b, x < 256) (hl : b.length ≤ 140737488351232) : Ev (fun k => threshingref02_Plain.f k (ci b)) ((sum tbl b : Nat) : Int) := by
  have := rplain_loop hb hl b.length 0 4294967295 (by omega) (by omega)
  simp only [threshingref02_Plain.f]
  exact this
theorem rsealed_ev {b : List Nat} (hb : ∀ x ∈ b, x < 256) (hl : b.length + 4 ≤ 140737488351232) : Ev (fun k => threshingref02_Sealed.f k (ci b)) (ci (sealed tbl b)) := by
  simp only [threshingref02_Sealed.f, Option.bind_some, List.nil_append, List.length_nil, ci_length]
  refine Ev.pos (by omega) (Ev.bind (rplain_ev hb (by omega)) (Ev.const (rfour_eq _ (sum_lt tbl_lt b)) (Ev.pos (by rw [ci_length, four_length]; omega) (Ev.done ?_))))
  rw [← ci_append]; rfl
end Go.Proofs.Ytmpomnnaoggdkaa.Pure
