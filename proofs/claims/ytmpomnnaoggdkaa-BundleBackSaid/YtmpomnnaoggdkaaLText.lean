import Derived.Test.YtmpomnnaoggdkaaLBase
-- texts and their bytes (no program in sight)
set_option linter.unusedVariables false
set_option linter.unusedSimpArgs false
namespace Go.Proofs.Ytmpomnnaoggdkaa.Pure
open Go.RowKit Go.Proofs.YtmpomnnaoggdkaaW.PrintWords Go.Proofs.YtmpomnnaoggdkaaW.PrintLast Go.Proofs.YtmpomnnaoggdkaaW.PrintMore
theorem bytes_ext {a b : ByteArray} (h : a.toList = b.toList) : a = b := by
  rw [Go.ByteArray.toList_eq, Go.ByteArray.toList_eq] at h
  exact ByteArray.ext (Array.ext' h)
theorem strs_toList (l : List Int) : (strOfNums l).toList = l.map fun n => UInt8.ofNat n.toNat := by
  rw [Go.ByteArray.toList_eq, strOfNums_data]
theorem strs_bytes (s : ByteArray) : strOfNums (bytesOf s) = s := by
  apply bytes_ext
  rw [strs_toList, bytesOf, List.map_map, Go.ByteArray.toList_eq]
  conv => rhs; rw [← List.map_id s.data.toList]
  refine List.map_congr_left (fun x hx => ?_)
  simp
theorem strs_sz (l : List Int) : (strOfNums l).size = l.length := by
  have h := congrArg List.length (strs_toList l)
  rw [Go.ByteArray.toList_eq, List.length_map, Array.length_toList] at h
  exact h
end Go.Proofs.Ytmpomnnaoggdkaa.Pure
