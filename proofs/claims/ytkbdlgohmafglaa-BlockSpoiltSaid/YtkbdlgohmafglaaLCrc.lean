import Derived.Test.YtkbdlgohmafglaaLBase
import Derived.Test.YtkbdlgohmafglaaPAx1
-- what the functions of crc and of its reference answer
set_option linter.unusedVariables false
set_option linter.unusedSimpArgs false
namespace Go.Proofs.Ytkbdlgohmafglaa.Pure
open Go.RowKit Go.Proofs.Ytkbdlgohmafglaa.PA Go.Proofs.YtkbdlgohmafglaaW.PrintWords Go.Proofs.YtkbdlgohmafglaaW.PrintLast Go.Proofs.YtkbdlgohmafglaaW.PrintMore
def stp (c : Nat) : Nat := if c % 2 = 1 then (c / 2) ^^^ 3988292384 else c / 2
def ent (i : Nat) : Nat := stp (stp (stp (stp (stp (stp (stp (stp i)))))))
def tbl : List Nat := (List.range 256).map ent
def mor (t : List Nat) : Nat → List Nat → Nat
  | c, [] => c
  | c, x :: b => mor t (t.getD ((c % 256) ^^^ x) 0 ^^^ (c / 256)) b
def sum (t b : List Nat) : Nat := mor t 4294967295 b ^^^ 4294967295
theorem tbl_length : tbl.length = 256 := by simp [tbl]
theorem tbl_lt : ∀ x ∈ tbl, x < 4294967296 := by decide +kernel
theorem table_val : crc_Table.f 3000 = some (ci tbl) := by decide +kernel
theorem table_ev : Ev (fun k => crc_Table.f k) (ci tbl) := Ev.of crc_Table.mono table_val
theorem nxt_lt {t : List Nat} (ht : ∀ x ∈ t, x < 4294967296) (c x : Nat) (hc : c < 4294967296) : t.getD ((c % 256) ^^^ x) 0 ^^^ (c / 256) < 4294967296 :=
  xor_lt32 (getD_lt ht (by omega)) (by omega)
theorem mor_lt {t : List Nat} (ht : ∀ x ∈ t, x < 4294967296) : ∀ (b : List Nat) (c : Nat), c < 4294967296 → mor t c b < 4294967296
  | [], c, hc => hc
  | x :: b, c, hc => mor_lt ht b _ (nxt_lt ht c x hc)
theorem mor_append (t : List Nat) : ∀ (a b : List Nat) (c : Nat), mor t c (a ++ b) = mor t (mor t c a) b
  | [], b, c => rfl
  | x :: a, b, c => mor_append t a b _
theorem more_loop {t b : List Nat} (ht : t.length = 256) (ht2 : ∀ x ∈ t, x < 4294967296) (hb : ∀ x ∈ b, x < 256) (hl : b.length ≤ 140737488351232) (d : Nat) :
    ∀ (i c : Nat), i + d = b.length → c < 4294967296 → Ev (fun k => crc_More.l0 k (ci t) (c : Int) (ci b) (b.length : Int) (i : Int)) ((mor t c (b.drop i) : Nat), 0) := by
  induction d with
  | zero =>
    intro i c hi hc
    refine Ev.succ ?_
    simp only [crc_More.l0]
    refine Ev.neg (by omega) ?_
    rw [List.drop_eq_nil_of_le (by omega)]
    exact Ev.now _
  | succ d ih =>
    intro i c hi hc
    have hlt : i < b.length := by omega
    have hx : b.getD i 0 < 256 := getD_lt hb (by omega)
    have hd : b.drop i = b.getD i 0 :: b.drop (i + 1) := by
      rw [List.drop_eq_getElem_cons hlt, List.getD_eq_getElem?_getD, List.getElem?_eq_getElem hlt]; rfl
    have hix := xor_lt8 (show c % 256 < 256 by omega) hx
    have e1 : Go.bits .xor .u8 ((c : Int) % 256) (rd (ci b) (i : Int)) = (((c % 256) ^^^ b.getD i 0 : Nat) : Int) := by
      rw [rd_ci, show ((c : Int) % 256) = ((c % 256 : Nat) : Int) from by omega]; exact x8 _ _ (by omega) hx
    have e2 : Go.bits .xor .u32 (rd (ci t) (((c % 256) ^^^ b.getD i 0 : Nat) : Int)) ((c : Int) / 256) = ((t.getD ((c % 256) ^^^ b.getD i 0) 0 ^^^ (c / 256) : Nat) : Int) := by
      rw [rd_ci, show ((c : Int) / 256) = ((c / 256 : Nat) : Int) from by omega]; exact x32 _ _ (getD_lt ht2 (by omega)) (by omega)
    refine Ev.succ ?_
    simp only [crc_More.l0, e1, e2, ci_length]
    refine Ev.pos (by omega) (Ev.pos (by omega) (Ev.pos (by omega) (Ev.pos (by omega) (Ev.pos (by omega) ?_))))
    rw [w64s i (by omega), hd]
    exact ih (i + 1) _ (by omega) (nxt_lt ht2 c _ hc)
theorem more_ev {t b : List Nat} (ht : t.length = 256) (ht2 : ∀ x ∈ t, x < 4294967296) (hb : ∀ x ∈ b, x < 256) (hl : b.length ≤ 140737488351232) (c : Nat) (hc : c < 4294967296) :
    Ev (fun k => crc_More.f k (ci t) (c : Int) (ci b)) ((mor t c b : Nat), 0) := by
  simp only [crc_More.f, ci_length]
  exact Ev.pos (by omega) (more_loop ht ht2 hb hl b.length 0 c (by omega) hc)
theorem more_bad {t : List Nat} (ht : t.length ≠ 256) (c : Int) (b : List Int) : Ev (fun k => crc_More.f k (ci t) c b) (0, 1) := by
  simp only [crc_More.f, ci_length]
  exact Ev.neg (by omega) (Ev.now _)
theorem sum_lt {t : List Nat} (ht : ∀ x ∈ t, x < 4294967296) (b : List Nat) : sum t b < 4294967296 := xor_lt32 (mor_lt ht b _ (by omega)) (by omega)
theorem sum_ev {t b : List Nat} (ht : t.length = 256) (ht2 : ∀ x ∈ t, x < 4294967296) (hb : ∀ x ∈ b, x < 256) (hl : b.length ≤ 140737488351232) :
    Ev (fun k => crc_Sum.f k (ci t) (ci b)) ((sum t b : Nat), 0) := by
  simp only [crc_Sum.f]
  refine Ev.bind (more_ev ht ht2 hb hl 4294967295 (by omega)) ?_
  refine Ev.pos rfl ?_
  have h := x32 4294967295 (mor t 4294967295 b) (by omega) (mor_lt ht2 b _ (by omega))
  rw [Nat.xor_comm] at h
  exact Ev.done (congrArg some (Prod.ext h rfl))
theorem sum_bad {t : List Nat} (ht : t.length ≠ 256) (b : List Int) : Ev (fun k => crc_Sum.f k (ci t) b) (0, 1) := by
  simp only [crc_Sum.f]
  exact Ev.bind (more_bad ht _ b) (Ev.neg (by decide) (Ev.now _))
end Go.Proofs.Ytkbdlgohmafglaa.Pure
