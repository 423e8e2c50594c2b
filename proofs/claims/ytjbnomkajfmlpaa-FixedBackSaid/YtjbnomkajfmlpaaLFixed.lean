import Derived.Test.YtjbnomkajfmlpaaLText
import Derived.Test.YtjbnomkajfmlpaaPAx1
import Derived.Test.YtjbnomkajfmlpaaPAx4
import Derived.Test.YtjbnomkajfmlpaaPAx2
import Derived.Test.YtjbnomkajfmlpaaPAx3
-- files of records of one width: what is cut, read and written
set_option linter.unusedVariables false
set_option linter.unusedSimpArgs false
set_option linter.unusedSectionVars false
namespace Go.Proofs.Ytjbnomkajfmlpaa.Pure
open Go.RowKit Go.Proofs.Ytjbnomkajfmlpaa.PA Go.Proofs.YtjbnomkajfmlpaaW.PrintWords Go.Proofs.YtjbnomkajfmlpaaW.PrintLast Go.Proofs.YtjbnomkajfmlpaaW.PrintMore
theorem alive_val : threshinglaw09_alive.f 60 = some true := by decide +kernel
theorem alive_ev : Ev (fun k => threshinglaw09_alive.f k) true := Ev.of threshinglaw09_alive.mono alive_val
def pcL (b : List Int) (w i : Nat) : ByteArray := strOfNums ((b.take (i * w + w)).drop (i * w))
def pc (b : List Int) (w i : Nat) : S47 := ⟨((i * w : Nat) : Int), [[pcL b w i]]⟩
def isW (a : Int) : Bool := decide (1 ≤ a ∧ a ≤ 1000)
theorem isWidth_eq (a : Int) : fixed_isWidth.f a = some (isW a) := by
  unfold fixed_isWidth.f isW
  by_cases h : 1 ≤ a
  · rw [if_pos h]; simp [h]
  · rw [if_neg h]; simp [h]
theorem ris_eq (a : Int) : threshingref09_is.f a = some (isW a) := by
  unfold threshingref09_is.f isW
  by_cases h : 1 ≤ a
  · rw [if_pos h]; simp [h]
  · rw [if_neg h]; simp [h]
theorem isW_nat {a : Int} (h : isW a = true) : ∃ w : Nat, a = (w : Int) ∧ 1 ≤ w ∧ w ≤ 1000 := by
  have h' := of_decide_eq_true h
  exact ⟨a.toNat, by omega, by omega, by omega⟩
theorem isW_of {w : Nat} (h1 : 1 ≤ w) (h2 : w ≤ 1000) : isW (w : Int) = true := decide_eq_true ⟨by omega, by omega⟩
section
variable {b : List Int} (hl : b.length ≤ 1000000) {w : Nat} (hw : 1 ≤ w) (hw2 : w ≤ 1000)
include hl hw hw2
omit hl hw2 in
theorem good_le : b.length / w * w ≤ b.length := Nat.div_mul_le_self _ _
omit hl hw2 in
theorem lt_q (i : Nat) : i < b.length / w ↔ i * w + w ≤ b.length := by
  rw [← Nat.succ_mul]; exact Nat.le_div_iff_mul_le hw
omit hw2 in
theorem whole_eq : fixed_whole.f b (w : Int) = some ((b.length / w * w : Nat) : Int) := by
  unfold fixed_whole.f
  have h := Nat.div_add_mod b.length w
  rw [Nat.mul_comm] at h
  rw [if_neg (by omega), show ((b.length : Int) % (w : Int)) = ((b.length % w : Nat) : Int) from by simp, w64 (by omega) (by omega)]
  congr 1
  omega
theorem pieces_loop (T : Int) : ∀ (d i : Nat) (acc : List S47), (∀ j, i ≤ j → j < i + d → ((j * w : Nat) : Int) < T ∧ j * w + w ≤ b.length) → ¬ ((((i + d) * w : Nat) : Int) < T) → acc.length + d < 4398046511104 →
    Ev (fun k => fixed_pieces.l0 k b ((i * w : Nat) : Int) T (w : Int) acc) (acc ++ (List.range' i d).map (pc b w))
  | 0, i, acc, h, he, ha => by
    refine Ev.succ ?_
    simp only [fixed_pieces.l0]
    refine Ev.neg he (Ev.done ?_)
    simp
  | d + 1, i, acc, h, he, ha => by
    obtain ⟨h1, h2⟩ := h i (Nat.le_refl _) (by omega)
    have e : wrap64 (((i * w : Nat) : Int) + (w : Int)) = ((i * w + w : Nat) : Int) := by rw [w64 (by omega) (by omega)]; omega
    refine Ev.succ ?_
    simp only [fixed_pieces.l0, e]
    refine Ev.pos h1 (Ev.pos (by omega) (Ev.pos (by omega) (Ev.pos (by omega) (Ev.pos (by omega) ?_))))
    rw [Int.toNat_natCast, Int.toNat_natCast, ← Nat.succ_mul]
    have := pieces_loop T d (i + 1) (acc ++ [pc b w i]) (fun j hj1 hj2 => h j (by omega) (by omega)) (by rw [show i + 1 + d = i + (d + 1) by omega]; exact he) (by rw [List.length_append]; simp; omega)
    rw [List.range'_succ, List.map_cons]
    rw [List.append_assoc, List.singleton_append] at this
    have e3 : pc b w i = (⟨((i * w : Nat) : Int), (([(([strOfNums ((b.take (Nat.succ i * w)).drop (i * w))] : List ByteArray))] : List (List ByteArray)))⟩ : S47) := by
      unfold pc pcL; rw [← Nat.succ_mul]
    rw [← e3]
    exact this
def pcs (b : List Int) (w n : Nat) : List S47 := (List.range n).map (pc b w)
def short (b : List Int) (w : Nat) : Int := if b.length / w * w < b.length then 2 else 0
theorem scan_ev : Ev (fun k => fixed_Scan.f k b (w : Int)) (pcs b w (b.length / w), ((b.length / w * w : Nat) : Int), short b w) := by
  simp only [fixed_Scan.f]
  have hq : b.length / w ≤ b.length := Nat.div_le_self _ _
  have hg := good_le (b := b) hw
  refine Ev.const (isWidth_eq _) (Ev.pos (isW_of hw hw2) (Ev.const (whole_eq hl hw) ?_))
  have p := pieces_loop hl hw hw2 ((b.length / w * w : Nat) : Int) (b.length / w) 0 [] (fun j _ hj => by
    have := (lt_q (b := b) hw j).1 (by omega)
    refine ⟨?_, this⟩
    have : (j + 1) * w ≤ b.length / w * w := Nat.mul_le_mul_right _ (by omega)
    rw [Nat.succ_mul] at this
    omega) (by rw [Nat.zero_add]; omega) (by simp; omega)
  rw [Nat.zero_mul, List.nil_append, ← List.range_eq_range'] at p
  have p2 : Ev (fun k => fixed_pieces.f k b 0 ((b.length / w * w : Nat) : Int) (w : Int)) (pcs b w (b.length / w)) := by
    simp only [fixed_pieces.f]; exact p
  unfold short
  by_cases h : b.length / w * w < b.length
  · rw [if_pos h]; exact Ev.pos (by omega) (Ev.bind p2 (Ev.now _))
  · rw [if_neg h]; exact Ev.neg (by omega) (Ev.bind p2 (Ev.now _))
theorem rscan_loop (d : Nat) : ∀ (i : Nat) (acc : List S47), i + d = b.length / w → acc.length + d < 4398046511104 →
    Ev (fun k => threshingref09_Scan.l0 k b (w : Int) acc ((i * w : Nat) : Int)) (acc ++ (List.range' i d).map (pc b w), ((b.length / w * w : Nat) : Int), short b w) := by
  induction d with
  | zero =>
    intro i acc hi ha
    have hg := good_le (b := b) hw
    have hq : ¬ i < b.length / w := by omega
    rw [lt_q hw] at hq
    have e : wrap64 (((i * w : Nat) : Int) + (w : Int)) = ((i * w + w : Nat) : Int) := by rw [← hi] at hg; simp only [Nat.add_zero] at hg; rw [w64 (by omega) (by omega)]; omega
    refine Ev.succ ?_
    simp only [threshingref09_Scan.l0, e]
    refine Ev.neg (by omega) ?_
    rw [List.range'_zero, List.map_nil, List.append_nil, show i = b.length / w by omega]
    unfold short
    by_cases h : b.length / w * w < b.length
    · rw [if_pos h]; exact Ev.pos (by omega) (Ev.now _)
    · rw [if_neg h]; exact Ev.neg (by omega) (Ev.now _)
  | succ d ih =>
    intro i acc hi ha
    have hq : i < b.length / w := by omega
    rw [lt_q hw] at hq
    have e : wrap64 (((i * w : Nat) : Int) + (w : Int)) = ((i * w + w : Nat) : Int) := by rw [w64 (by omega) (by omega)]; omega
    refine Ev.succ ?_
    simp only [threshingref09_Scan.l0, e]
    refine Ev.pos (by omega) (Ev.pos (by omega) (Ev.pos (by omega) (Ev.pos (by omega) ?_)))
    rw [Int.toNat_natCast, Int.toNat_natCast, ← Nat.succ_mul]
    have := ih (i + 1) (acc ++ [pc b w i]) (by omega) (by rw [List.length_append]; simp; omega)
    rw [List.range'_succ, List.map_cons]
    rw [List.append_assoc, List.singleton_append] at this
    have e3 : pc b w i = (⟨((i * w : Nat) : Int), (([(([strOfNums ((b.take (Nat.succ i * w)).drop (i * w))] : List ByteArray))] : List (List ByteArray)))⟩ : S47) := by
      unfold pc pcL; rw [← Nat.succ_mul]
    rw [← e3]
    exact this
theorem rscan_ev : Ev (fun k => threshingref09_Scan.f k b (w : Int)) (pcs b w (b.length / w), ((b.length / w * w : Nat) : Int), short b w) := by
  simp only [threshingref09_Scan.f]
  have hq : b.length / w ≤ b.length := Nat.div_le_self _ _
  have p := rscan_loop hl hw hw2 (b.length / w) 0 [] (by omega) (by simp; omega)
  rw [Nat.zero_mul, List.nil_append, ← List.range_eq_range'] at p
  exact Ev.const (ris_eq _) (Ev.pos (isW_of hw hw2) p)
omit hw2 in
theorem canon_eq (hw2 : w ≤ 1000) : fixed_Canon.f b (w : Int) = some (decide (b.length / w * w = b.length)) := by
  unfold fixed_Canon.f
  rw [isWidth_eq, Option.bind_some, isW_of hw hw2, if_pos rfl, whole_eq hl hw, Option.bind_some]
  congr 1
  rw [Bool.eq_iff_iff, beq_iff_eq, decide_eq_true_iff]
  omega
end
theorem scan_bad (b : List Int) {a : Int} (h : isW a = false) : Ev (fun k => fixed_Scan.f k b a) ([], 0, 1) := by
  simp only [fixed_Scan.f]
  exact Ev.const (isWidth_eq _) (Ev.neg (by rw [h]; decide) (Ev.now _))
theorem rscan_bad (b : List Int) {a : Int} (h : isW a = false) : Ev (fun k => threshingref09_Scan.f k b a) ([], 0, 1) := by
  simp only [threshingref09_Scan.f]
  exact Ev.const (ris_eq _) (Ev.neg (by rw [h]; decide) (Ev.now _))
theorem canon_bad (b : List Int) {a : Int} (h : isW a = false) : fixed_Canon.f b a = some false := by
  unfold fixed_Canon.f
  rw [isWidth_eq, Option.bind_some, h]
  rfl
end Go.Proofs.Ytjbnomkajfmlpaa.Pure
