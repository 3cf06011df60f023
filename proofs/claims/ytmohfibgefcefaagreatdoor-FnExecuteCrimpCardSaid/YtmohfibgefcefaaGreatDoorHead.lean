/- The head of the translation, letter by letter: so that the closed facts on it are cheap. No condition. -/
import Derived.Test.YtmohfibgefcefaaGreatDoorRows
import Derived.WalkKit
import Derived.ProofKit
namespace Go.Proofs.YtmohfibgefcefaaGreatDoor

def headNums : List Nat := [104, 97, 114, 110, 101, 115, 115, 32, 98, 99, 48, 52, 56, 57, 97, 101, 97, 98, 53, 55, 54, 49, 101, 55, 101, 55, 53, 52, 99, 98, 50, 54, 56, 99, 97, 49, 50, 54, 56, 52, 98, 55, 56, 52, 50, 50, 51, 53, 55, 102, 50, 56, 97, 55, 48, 52, 54, 52, 57, 98, 49, 52, 51, 48, 101, 53, 57, 52, 98, 49, 55, 102, 32, 99, 117, 116, 32, 97, 116, 32, 108, 111, 111, 112, 46, 101, 120, 97, 109, 112, 108, 101, 47, 102, 108, 97, 116, 102, 111, 108, 100, 105, 110, 103, 47, 108, 97, 119, 115, 46, 70, 110, 69, 120, 101, 99, 117, 116, 101, 83, 104, 101, 101, 116, 32, 108, 111, 111, 112, 46, 101, 120, 97, 109, 112, 108, 101, 47, 102, 108, 97, 116, 102, 111, 108, 100, 105, 110, 103, 47, 108, 97, 119, 115, 46, 70, 110, 69, 120, 101, 99, 117, 116, 101, 86, 101, 114, 116, 101, 120, 32, 108, 111, 111, 112, 46, 101, 120, 97, 109, 112, 108, 101, 47, 102, 108, 97, 116, 102, 111, 108, 100, 105, 110, 103, 47, 108, 97, 119, 115, 46, 70, 110, 69, 120, 101, 99, 117, 116, 101, 83, 116, 114, 105, 112, 32, 108, 111, 111, 112, 46, 101, 120, 97, 109, 112, 108, 101, 47, 102, 108, 97, 116, 102, 111, 108, 100, 105, 110, 103, 47, 108, 97, 119, 115, 46, 70, 110, 69, 120, 101, 99, 117, 116, 101, 67, 114, 105, 109, 112]
def headL : List Char := headNums.map Char.ofNat
theorem head_str : Tryz.prog.initOrder = String.ofList headL := by kernel_rfl
theorem head_toList : Tryz.prog.initOrder.toList = headL := by rw [head_str]; exact String.toList_ofList
def headWords : List (List Nat) := [[99, 117, 116], [97, 116], [108, 111, 111, 112, 46, 101, 120, 97, 109, 112, 108, 101, 47, 102, 108, 97, 116, 102, 111, 108, 100, 105, 110, 103, 47, 108, 97, 119, 115, 46, 70, 110, 69, 120, 101, 99, 117, 116, 101, 83, 104, 101, 101, 116], [108, 111, 111, 112, 46, 101, 120, 97, 109, 112, 108, 101, 47, 102, 108, 97, 116, 102, 111, 108, 100, 105, 110, 103, 47, 108, 97, 119, 115, 46, 70, 110, 69, 120, 101, 99, 117, 116, 101, 86, 101, 114, 116, 101, 120], [108, 111, 111, 112, 46, 101, 120, 97, 109, 112, 108, 101, 47, 102, 108, 97, 116, 102, 111, 108, 100, 105, 110, 103, 47, 108, 97, 119, 115, 46, 70, 110, 69, 120, 101, 99, 117, 116, 101, 83, 116, 114, 105, 112], [108, 111, 111, 112, 46, 101, 120, 97, 109, 112, 108, 101, 47, 102, 108, 97, 116, 102, 111, 108, 100, 105, 110, 103, 47, 108, 97, 119, 115, 46, 70, 110, 69, 120, 101, 99, 117, 116, 101, 67, 114, 105, 109, 112]]
theorem head_words : behindMainWord (wordsSigns Tryz.prog.initOrder.toList) = headWords.map (·.map Char.ofNat) := by
  rw [head_toList]
  kernel_rfl
/-- what 'mayEnter', 'liftsFinal', 'make' and 'headLifts' make of the head's words: found by Lean itself -/
def mayF : { F : Program → List (List Char) → Bool // ∀ P : Program, P.mayEnter = F P (behindMainWord (wordsSigns P.initOrder.toList)) } := by
  constructor
  case property =>
    intro P
    unfold Program.mayEnter
    generalize behindMainWord (wordsSigns P.initOrder.toList) = ws
    exact rfl
def liftsF : { F : Program → List (List Char) → List String // ∀ P : Program, P.headLifts = F P (behindMainWord (wordsSigns P.initOrder.toList)) } := by
  constructor
  case property =>
    intro P
    unfold Program.headLifts
    generalize behindMainWord (wordsSigns P.initOrder.toList) = ws
    exact rfl
def finalF : { F : Program → List (List Char) → List String → Bool // ∀ P : Program, P.liftsFinal = F P (behindMainWord (wordsSigns P.initOrder.toList)) P.headLifts } := by
  constructor
  case property =>
    intro P
    unfold Program.liftsFinal
    generalize P.headLifts = l
    generalize behindMainWord (wordsSigns P.initOrder.toList) = ws
    exact rfl
def makeF : { F : Program → List (List Char) → List String → Option Make // ∀ P : Program, P.make = F P (behindMainWord (wordsSigns P.initOrder.toList)) P.headLifts } := by
  constructor
  case property =>
    intro P
    unfold Program.make
    generalize P.headLifts = l
    generalize behindMainWord (wordsSigns P.initOrder.toList) = ws
    exact rfl
theorem may_at {P : Program} {ws : List (List Char)} (h : behindMainWord (wordsSigns P.initOrder.toList) = ws) : P.mayEnter = mayF.1 P ws := by rw [← h]; exact mayF.2 P
theorem lifts_at {P : Program} {ws : List (List Char)} (h : behindMainWord (wordsSigns P.initOrder.toList) = ws) : P.headLifts = liftsF.1 P ws := by rw [← h]; exact liftsF.2 P
theorem final_at {P : Program} {ws : List (List Char)} {l : List String} (h : behindMainWord (wordsSigns P.initOrder.toList) = ws) (h2 : P.headLifts = l) : P.liftsFinal = finalF.1 P ws l := by rw [← h, ← h2]; exact finalF.2 P
theorem make_at {P : Program} {ws : List (List Char)} {l : List String} (h : behindMainWord (wordsSigns P.initOrder.toList) = ws) (h2 : P.headLifts = l) : P.make = makeF.1 P ws l := by rw [← h, ← h2]; exact makeF.2 P
theorem head_lifts : Tryz.prog.headLifts = [] := (lifts_at head_words).trans (by kernel_rfl)
theorem head_mayEnter : Tryz.prog.mayEnter = true := (may_at head_words).trans (by kernel_rfl)
theorem head_liftsFinal : Tryz.prog.liftsFinal = false := (final_at head_words head_lifts).trans (by kernel_rfl)
theorem head_make : Tryz.prog.make = some .cut := (make_at head_words head_lifts).trans (by kernel_rfl)

end Go.Proofs.YtmohfibgefcefaaGreatDoor
