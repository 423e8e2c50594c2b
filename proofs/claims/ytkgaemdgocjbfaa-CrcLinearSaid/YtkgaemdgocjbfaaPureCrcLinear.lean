/- LINES: of three rows of bytes of one length, at most 3000, the exclusive-or of their sums by the table is the sum of their exclusive-or, byte by byte; else the live question is answered. Condition: none beyond the row's own. -/
import Derived.Test.YtkgaemdgocjbfaaLCrcAlive
import Derived.Test.YtkgaemdgocjbfaaPAx2
namespace Go.Proofs.Ytkgaemdgocjbfaa.Pure
open Go.RowKit Go.Proofs.Ytkgaemdgocjbfaa.PA Go.Proofs.YtkgaemdgocjbfaaW.PrintWords Go.Proofs.YtkgaemdgocjbfaaW.PrintLast Go.Proofs.YtkgaemdgocjbfaaW.PrintMore
theorem stp_xor (a b : Nat) : stp (a ^^^ b) = stp a ^^^ stp b := by
  have h2 : (a ^^^ b) / 2 = a / 2 ^^^ b / 2 := Nat.xor_div_two
  have h1 : (a ^^^ b) % 2 = (a % 2 + b % 2) % 2 := by
    have h : (a ^^^ b) % 2 = a % 2 ^^^ b % 2 := Nat.xor_mod_two_pow (n := 1)
    rw [h]
    rcases Nat.mod_two_eq_zero_or_one a with ha | ha <;> rcases Nat.mod_two_eq_zero_or_one b with hb | hb <;> rw [ha, hb] <;> decide
  unfold stp
  rw [h2]
  rcases Nat.mod_two_eq_zero_or_one a with ha | ha <;> rcases Nat.mod_two_eq_zero_or_one b with hb | hb
  · rw [if_neg (by omega), if_neg (by omega), if_neg (by omega)]
  · rw [if_pos (by omega), if_neg (by omega), if_pos (by omega), Nat.xor_assoc]
  · rw [if_pos (by omega), if_pos (by omega), if_neg (by omega), Nat.xor_assoc, Nat.xor_assoc, Nat.xor_comm (b / 2)]
  · rw [if_neg (by omega), if_pos (by omega), if_pos (by omega)]
    rw [Nat.xor_assoc, ← Nat.xor_assoc 3988292384, Nat.xor_comm 3988292384, Nat.xor_assoc (b / 2), Nat.xor_self, Nat.xor_zero]
theorem ent_xor (a b : Nat) : ent (a ^^^ b) = ent a ^^^ ent b := by simp only [ent, stp_xor]
theorem tbl_at (i : Nat) (h : i < 256) : tbl.getD i 0 = ent i := by simp [tbl, List.getD_eq_getElem?_getD, h]
def xor3 : List Nat → List Nat → List Nat → List Nat
  | x :: a, y :: b, z :: c => (x ^^^ y ^^^ z) :: xor3 a b c
  | _, _, _ => []
theorem xor3_length : ∀ (a b c : List Nat), b.length = a.length → c.length = a.length → (xor3 a b c).length = a.length
  | [], _, _, _, _ => by simp [xor3]
  | x :: a, [], _, h, _ => by simp at h
  | x :: a, y :: b, [], _, h => by simp at h
  | x :: a, y :: b, z :: c, h, h' => by simp [xor3]; exact xor3_length a b c (by simpa using h) (by simpa using h')
theorem xor3_lt : ∀ (a b c : List Nat), (∀ x ∈ a, x < 256) → (∀ x ∈ b, x < 256) → (∀ x ∈ c, x < 256) → ∀ x ∈ xor3 a b c, x < 256
  | [], _, _, _, _, _ => by simp [xor3]
  | x :: a, [], _, _, _, _ => by simp [xor3]
  | x :: a, y :: b, [], _, _, _ => by simp [xor3]
  | x :: a, y :: b, z :: c, ha, hb, hc => by
    intro w hw
    rcases List.mem_cons.1 hw with rfl | hw
    · exact xor_lt8 (xor_lt8 (ha x (by simp)) (hb y (by simp))) (hc z (by simp))
    · exact xor3_lt a b c (fun w h => ha w (by simp [h])) (fun w h => hb w (by simp [h])) (fun w h => hc w (by simp [h])) w hw
theorem xor3_get : ∀ (a b c : List Nat) (i : Nat), b.length = a.length → c.length = a.length → (xor3 a b c).getD i 0 = a.getD i 0 ^^^ b.getD i 0 ^^^ c.getD i 0
  | [], b, c, i, h, h' => by
    obtain rfl : b = [] := by cases b <;> simp_all
    obtain rfl : c = [] := by cases c <;> simp_all
    simp [xor3]
  | x :: a, [], _, _, h, _ => by simp at h
  | x :: a, y :: b, [], _, _, h => by simp at h
  | x :: a, y :: b, z :: c, 0, h, h' => by simp [xor3]
  | x :: a, y :: b, z :: c, i + 1, h, h' => by
    have := xor3_get a b c i (by simpa using h) (by simpa using h')
    simpa [xor3] using this
theorem xor_6 (a b c x y z : Nat) : (a ^^^ b ^^^ c) ^^^ (x ^^^ y ^^^ z) = (a ^^^ x) ^^^ (b ^^^ y) ^^^ (c ^^^ z) := by ac_rfl
theorem mor3 : ∀ (a b c : List Nat) (p q r : Nat), b.length = a.length → c.length = a.length → (∀ x ∈ a, x < 256) → (∀ x ∈ b, x < 256) → (∀ x ∈ c, x < 256) →
    mor tbl (p ^^^ q ^^^ r) (xor3 a b c) = mor tbl p a ^^^ mor tbl q b ^^^ mor tbl r c
  | [], b, c, p, q, r, h, h', _, _, _ => by
    obtain rfl : b = [] := by cases b <;> simp_all
    obtain rfl : c = [] := by cases c <;> simp_all
    simp [xor3, mor]
  | x :: a, [], _, _, _, _, h, _, _, _, _ => by simp at h
  | x :: a, y :: b, [], _, _, _, _, h, _, _, _ => by simp at h
  | x :: a, y :: b, z :: c, p, q, r, h, h', ha, hb, hc => by
    have hx := ha x (by simp); have hy := hb y (by simp); have hz := hc z (by simp)
    have e : ∀ u v : Nat, (u ^^^ v) % 256 = u % 256 ^^^ v % 256 := fun u v => Nat.xor_mod_two_pow (n := 8)
    have f : ∀ u v : Nat, (u ^^^ v) / 256 = u / 256 ^^^ v / 256 := fun u v => Nat.xor_div_two_pow (n := 8)
    simp only [xor3, mor]
    rw [← mor3 a b c _ _ _ (by simpa using h) (by simpa using h') (fun w h => ha w (by simp [h])) (fun w h => hb w (by simp [h])) (fun w h => hc w (by simp [h]))]
    congr 1
    rw [e, e, f, f, xor_6, tbl_at _ (xor_lt8 (xor_lt8 (xor_lt8 (by omega) hx) (xor_lt8 (by omega) hy)) (xor_lt8 (by omega) hz)), tbl_at _ (xor_lt8 (by omega) hx), tbl_at _ (xor_lt8 (by omega) hy), tbl_at _ (xor_lt8 (by omega) hz), ent_xor, ent_xor, xor_6]
theorem sum3 (a b c : List Nat) (h : b.length = a.length) (h' : c.length = a.length) (ha : ∀ x ∈ a, x < 256) (hb : ∀ x ∈ b, x < 256) (hc : ∀ x ∈ c, x < 256) :
    sum tbl a ^^^ sum tbl b ^^^ sum tbl c = sum tbl (xor3 a b c) := by
  have e := mor3 a b c 4294967295 4294967295 4294967295 h h' ha hb hc
  have o : 4294967295 ^^^ 4294967295 ^^^ 4294967295 = 4294967295 := by decide
  rw [o] at e
  unfold sum
  rw [e, ← xor_6, o]
theorem lin_loop {a b c : List Nat} (h : b.length = a.length) (h' : c.length = a.length) (hl : a.length ≤ 3000) (ha : ∀ x ∈ a, x < 256) (hb : ∀ x ∈ b, x < 256) (hc : ∀ x ∈ c, x < 256) (d : Nat) :
    ∀ i, i + d = a.length → Ev (fun k => threshinglaw02_CrcLinear.l0 k (ci a) (ci b) (ci c) (ci ((xor3 a b c).take i)) (i : Int)) true := by
  have hz := xor3_length a b c h h'
  have hzl := xor3_lt a b c ha hb hc
  induction d with
  | zero =>
    intro i hi
    rw [List.take_of_length_le (by omega)]
    refine Ev.succ ?_
    simp only [threshinglaw02_CrcLinear.l0, ci_length]
    refine Ev.neg (by omega) (Ev.bind table_ev ?_)
    refine Ev.bind (sum_ev tbl_length tbl_lt ha (by omega)) (Ev.bind (sum_ev tbl_length tbl_lt hb (by omega)) (Ev.bind (sum_ev tbl_length tbl_lt hc (by omega)) (Ev.bind (sum_ev tbl_length tbl_lt hzl (by omega)) (Ev.bind alive_ev ?_))))
    refine Ev.pos (by simp) (Ev.pos (by simp) (Ev.done ?_))
    have h1 := sum_lt tbl_lt a; have h2 := sum_lt tbl_lt b; have h3 := sum_lt tbl_lt c
    rw [x32 _ _ h1 h2, x32 _ _ (xor_lt32 h1 h2) h3, sum3 a b c h h' ha hb hc]
    simp
  | succ d ih =>
    intro i hi
    have hlt : i < a.length := by omega
    have hx : a.getD i 0 < 256 := getD_lt ha (by omega)
    have hy : b.getD i 0 < 256 := getD_lt hb (by omega)
    have hw : c.getD i 0 < 256 := getD_lt hc (by omega)
    have ht : (xor3 a b c).take (i + 1) = (xor3 a b c).take i ++ [a.getD i 0 ^^^ b.getD i 0 ^^^ c.getD i 0] := by
      rw [← xor3_get a b c i h h', List.take_succ_eq_append_getElem (by omega), List.getD_eq_getElem?_getD, List.getElem?_eq_getElem (by omega)]; rfl
    refine Ev.succ ?_
    simp only [threshinglaw02_CrcLinear.l0, ci_length, rd_ci]
    rw [x8 _ _ hx hy, x8 _ _ (xor_lt8 hx hy) hw, w64s i (by omega)]
    refine Ev.pos (by omega) (Ev.pos (by omega) (Ev.pos (by omega) (Ev.pos (by omega) (Ev.pos (by rw [List.length_take]; omega) ?_))))
    have e := ih (i + 1) (by omega)
    rw [ht, ci_append] at e
    exact e
theorem CrcLinear : threshinglaw02_CrcLinear.Pure := by
  intro l0 l1 l2 _ _ h0 _ _ h1 _ _ h2
  obtain ⟨a, rfl, ha⟩ := u8s h0
  obtain ⟨b, rfl, hb⟩ := u8s h1
  obtain ⟨c, rfl, hc⟩ := u8s h2
  refine Ev.rounds (g := fun k => threshinglaw02_CrcLinear.f k (ci a) (ci b) (ci c)) ?_
  have out : ∀ x y z, Ev (fun k => threshinglaw02_CrcLinear.j0 k x y z true) true := by
    intro x y z
    refine Ev.succ ?_
    simp only [threshinglaw02_CrcLinear.j0]
    exact Ev.pos (by simp) (Ev.bind alive_ev (Ev.now _))
  simp only [threshinglaw02_CrcLinear.f, ci_length]
  by_cases g0 : (a.length : Int) > 3000
  · exact Ev.pos g0 (out _ _ _)
  refine Ev.neg g0 ?_
  by_cases g1 : (b.length : Int) = (a.length : Int)
  · refine Ev.pos g1 ?_
    by_cases g2 : (c.length : Int) = (a.length : Int)
    · rw [show ((c.length : Int) != (a.length : Int)) = false from by simpa using g2]
      refine Ev.succ ?_
      simp only [threshinglaw02_CrcLinear.j0]
      exact Ev.neg (by decide) (lin_loop (by omega) (by omega) (by omega) ha hb hc a.length 0 (by omega))
    · rw [show ((c.length : Int) != (a.length : Int)) = true from by simpa using g2]
      exact out _ _ _
  · exact Ev.neg g1 (out _ _ _)
end Go.Proofs.Ytkgaemdgocjbfaa.Pure
