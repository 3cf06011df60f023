/- The program's 'list': the angles and folds of a ring from its first crease on. No condition but sizes. -/
import Derived.Test.YtngpeehjjcgmmaaRingF
import Derived.Test.YtngpeehjjcgmmaaBytes
import Derived.Test.YtngpeehjjcgmmaaText
namespace Go.Proofs.Ytngpeehjjcgmmaa
open Go.RowKit

def angTo (x : Nat → Int) (k : Nat) : List Int := (List.range k).map x
def folTo (f : Nat → Nat) (k : Nat) : List UInt8 := (List.range k).map fun i => UInt8.ofNat (f i)
theorem angTo_succ (x : Nat → Int) (k : Nat) : angTo x (k + 1) = angTo x k ++ [x k] := by simp [angTo, List.range_succ]
theorem folTo_succ (f : Nat → Nat) (k : Nat) : folTo f (k + 1) = folTo f k ++ [UInt8.ofNat (f k)] := by simp [folTo, List.range_succ]
theorem angTo_len (x : Nat → Int) (k : Nat) : (angTo x k).length = k := by simp [angTo]
theorem folTo_len (f : Nat → Nat) (k : Nat) : (folTo f k).length = k := by simp [folTo]
theorem angleAt_angTo (x : Nat → Int) {n k : Nat} (h : k < n) : angleAt (angTo x n) k = x k := by
  simp [angleAt, angTo, List.getD_eq_getElem?_getD, h]
theorem byteAt_folTo (f : Nat → Nat) {n k : Nat} (h : k < n) (hf : f k < 256) : byteAt ⟨(folTo f n).toArray⟩ k = f k := by
  simp [byteAt, folTo, List.getD_eq_getElem?_getD, h]
  omega


end Go.Proofs.Ytngpeehjjcgmmaa
