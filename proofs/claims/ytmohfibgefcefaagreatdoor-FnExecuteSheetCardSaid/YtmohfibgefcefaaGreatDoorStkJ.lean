/- The corner of four cells: the program's. No condition but sizes. -/
import Derived.Test.YtmohfibgefcefaaGreatDoorStkI
namespace Go.Proofs.YtmohfibgefcefaaGreatDoor
open Go.RowKit

abbrev btx (cs : List UInt8) : ByteArray := ⟨cs.toArray⟩
theorem btx_list (cs : List UInt8) : (btx cs).data.toList = cs := rfl
theorem btx_size (cs : List UInt8) : (btx cs).size = cs.length := by show (List.toArray cs).size = _; simp
theorem crO_len (l : List UInt8) (r c r' c' : Int) : (crO l r c r' c').length ≤ 1 := by
  unfold crO; split <;> simp
/-- what a function of a text and whether it is one tells -/
def txtV (o : Option (List UInt8)) : Value := .tuple #[.string (btx (o.getD [])), .bool o.isSome]
end Go.Proofs.YtmohfibgefcefaaGreatDoor
