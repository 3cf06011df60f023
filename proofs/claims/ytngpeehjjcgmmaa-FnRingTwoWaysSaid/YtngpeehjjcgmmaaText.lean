/- Bytes and numbers at a place, of pieces and of what is put together. No program, no condition. -/
import Derived.Test.YtngpeehjjcgmmaaRingE
namespace Go.Proofs.Ytngpeehjjcgmmaa

theorem byteAt_append (a b : ByteArray) (k : Nat) : byteAt (a ++ b) k = if k < a.size then byteAt a k else byteAt b (k - a.size) := by
  unfold byteAt
  simp only [ByteArray.data_append, Array.toList_append, List.getD_eq_getElem?_getD]
  by_cases h : k < a.size
  · rw [if_pos h, List.getElem?_append_left (by simpa using h)]
  · rw [if_neg h, List.getElem?_append_right (by simpa using h)]; simp
theorem byteAt_extract (s : ByteArray) (a b k : Nat) (h : a + k < b) : byteAt (s.extract a b) k = byteAt s (a + k) := by
  unfold byteAt
  simp only [ByteArray.data_extract, Array.toList_extract, List.getD_eq_getElem?_getD]
  rw [List.extract_eq_take_drop, List.getElem?_take, if_pos (by omega), List.getElem?_drop]

theorem angleAt_append (a b : List Int) (k : Nat) : angleAt (a ++ b) k = if k < a.length then angleAt a k else angleAt b (k - a.length) := by
  unfold angleAt
  simp only [List.getD_eq_getElem?_getD]
  by_cases h : k < a.length
  · rw [if_pos h, List.getElem?_append_left h]
  · rw [if_neg h, List.getElem?_append_right (by omega)]
theorem angleAt_drop (a : List Int) (m k : Nat) : angleAt (a.drop m) k = angleAt a (m + k) := by
  unfold angleAt
  simp only [List.getD_eq_getElem?_getD, List.getElem?_drop]
theorem angleAt_take (a : List Int) (m k : Nat) (h : k < m) : angleAt (a.take m) k = angleAt a k := by
  unfold angleAt
  simp only [List.getD_eq_getElem?_getD, List.getElem?_take, if_pos h]
theorem angleAt_one (z : Int) : angleAt [z] 0 = z := rfl

end Go.Proofs.Ytngpeehjjcgmmaa
