import Derived.Test.YtjbnomkajfmlpaaLBase
-- texts and their bytes (no program in sight)
set_option linter.unusedVariables false
set_option linter.unusedSimpArgs false
namespace Go.Proofs.Ytjbnomkajfmlpaa.Pure
open Go.RowKit Go.Proofs.YtjbnomkajfmlpaaW.PrintWords Go.Proofs.YtjbnomkajfmlpaaW.PrintLast Go.Proofs.YtjbnomkajfmlpaaW.PrintMore
theorem bytes_ext {a b : ByteArray} (h : a.toList = b.toList) : a = b := by
  rw [Go.ByteArray.toList_eq, Go.ByteArray.toList_eq] at h
  exact ByteArray.ext (Array.ext' h)
theorem strs_toList (l : List Int) : (strOfNums l).toList = l.map fun n => UInt8.ofNat n.toNat := by
  rw [Go.ByteArray.toList_eq, strOfNums_data]
theorem strs_bytes (s : ByteArray) : strOfNums (bytesOf s) = s := by
  apply bytes_ext
  rw [strs_toList, bytesOf, List.map_map, Go.ByteArray.toList_eq]
  conv => rhs; rw [← List.map_id s.data.toList]
  refine List.map_congr_left (fun x hx => ?_)
  simp
theorem bytes_strs {l : List Int} (h : ∀ x ∈ l, 0 ≤ x ∧ x < 256) : bytesOf (strOfNums l) = l := by
  rw [bytesOf, ← Go.ByteArray.toList_eq, strs_toList, List.map_map]
  conv => rhs; rw [← List.map_id l]
  refine List.map_congr_left (fun x hx => ?_)
  obtain ⟨h0, h1⟩ := h x hx
  obtain ⟨n, rfl⟩ := Int.eq_ofNat_of_zero_le h0
  simp
  omega
theorem strs_sz (l : List Int) : (strOfNums l).size = l.length := by
  have h := congrArg List.length (strs_toList l)
  rw [Go.ByteArray.toList_eq, List.length_map, Array.length_toList] at h
  exact h
theorem bytes_range (s : ByteArray) : ∀ x ∈ bytesOf s, 0 ≤ x ∧ x < 256 := by
  intro x hx
  obtain ⟨b, _, rfl⟩ := List.mem_map.1 hx
  have := b.toNat_lt
  omega
theorem strs_inj {a b : List Int} (ha : ∀ x ∈ a, 0 ≤ x ∧ x < 256) (hb : ∀ x ∈ b, 0 ≤ x ∧ x < 256) (h : (strOfNums a).toList = (strOfNums b).toList) : a = b := by
  rw [← bytes_strs ha, ← bytes_strs hb, bytes_ext h]
theorem bytes8 {l : List Int} (h : ∀ x ∈ l, (Lit.int .u8 x).wf = true) : ∀ x ∈ l, 0 ≤ x ∧ x < 256 := fun x hx => wf_u8 (h x hx)
end Go.Proofs.Ytjbnomkajfmlpaa.Pure
