/- Levels, creases and corners of a text: the reference's. No condition but sizes. -/
import Derived.Test.YtmohfibgefcefaaGreatDoorSpkH
import Derived.Test.YtmohfibgefcefaaGreatDoorSpecA
namespace Go.Proofs.YtmohfibgefcefaaGreatDoor
open Go.RowKit

/-- the stack of a text, empty where there is none -/
def stkO (l : List UInt8) : List Cl := if shB l then stackT l else []
theorem stkO_yes {l : List UInt8} (h : shB l = true) : stkO l = stackT l := by unfold stkO; rw [if_pos h]
theorem stkO_no {l : List UInt8} (h : shB l = false) : stkO l = [] := by unfold stkO; rw [if_neg (by rw [h]; decide)]
theorem stkO_len (l : List UInt8) : (stkO l).length ≤ 32 := by
  cases h : shB l with
  | true =>
    obtain ⟨q1, q2⟩ := shB_parts h
    rw [stkO_yes h, stackT_len q2]
    exact pow5 q1
  | false => rw [stkO_no h]; simp
/-- a level as a number -/
def levZ (o : Option Nat) : Int := match o with | some k => (k : Int) | none => -1
set_option maxHeartbeats 400000 in
theorem spec_SheetStack (s : ByteArray) (w : World) (hs : s.size ≤ 1000) :
    Calls Tryz.prog 9 #[.string s] w fun e w' => (∃ v, e = .returned (.tuple #[v, .bool (shB s.data.toList)]) ∧ SlC w' v (stkO s.data.toList)) ∧ Below w.heap.size w w' := by
  have HV := Lib.hid (spec_SheetValid s w hs)
  cases hv : shB s.data.toList with
  | false =>
    rw [hv] at HV
    rw [stkO_no hv]
    clear hv
    go_enter Tryz.func9, Tryz.ntmps9
    go_wp2_with fail
    refine HV.out.mono ?_
    rintro e _ ⟨rfl, rfl⟩
    go_wp2_with fail
    go_ret2
    exact ⟨⟨_, rfl, _, 0, rfl, RowV.nil _ _, Nat.le_refl _, by unfold maxLen; omega⟩, (Below.refl _ _).alloc (Nat.le_refl _) _⟩
  | true =>
    rw [hv] at HV
    rw [stkO_yes hv]
    have HS := Lib.hid (fun W : World => spec_l4Stack s W hv)
    clear hv
    go_enter Tryz.func9, Tryz.ntmps9
    go_wp2_with fail
    refine HV.out.mono ?_
    rintro e _ ⟨rfl, rfl⟩
    go_wp2_with fail
    refine (HS.out w).mono ?_
    rintro e w1 ⟨⟨v, rfl, h⟩, hb⟩
    go_wp2_with fail
    go_ret2
    exact ⟨⟨_, rfl, h⟩, hb⟩
/-- the crease of two levels -/
def crZ (T : List Cl) (a b : Option Nat) : List UInt8 := match a, b with
  | some a, some b => [creaseT T a b]
  | _, _ => []
theorem crsT_crZ (T : List Cl) (r c r' c' : Nat) : crsT T r c r' c' = crZ T (levelT T r c) (levelT T r' c') := by
  unfold crsT crZ
  rfl
theorem levelT_lt {T : List Cl} {r c k : Nat} (h : levelT T r c = some k) : k < T.length := by
  unfold levelT at h
  exact (List.findIdx?_eq_some_iff_getElem.1 h).1
end Go.Proofs.YtmohfibgefcefaaGreatDoor
