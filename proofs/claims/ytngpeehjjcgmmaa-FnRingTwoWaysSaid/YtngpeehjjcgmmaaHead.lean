/- The head of the translation, letter by letter: so that the closed facts on it are cheap. No condition. -/
import Derived.Test.YtngpeehjjcgmmaaRows
import Derived.WalkKit
import Derived.ProofKit
namespace Go.Proofs.Ytngpeehjjcgmmaa

def headNums : List Nat := [104, 97, 114, 110, 101, 115, 115, 32, 102, 57, 98, 52, 99, 50, 97, 97, 51, 54, 100, 98, 101, 100, 100, 49, 99, 102, 53, 50, 50, 97, 53, 56, 102, 48, 55, 55, 50, 100, 97, 100, 97, 53, 100, 55, 51, 57, 52, 48, 102, 98, 53, 97, 57, 54, 97, 48, 53, 100, 100, 101, 54, 99, 102, 50, 49, 101, 52, 50, 100, 57, 55, 50, 32, 99, 117, 116, 32, 97, 116, 32, 108, 111, 111, 112, 46, 101, 120, 97, 109, 112, 108, 101, 47, 102, 108, 97, 116, 102, 111, 108, 100, 105, 110, 103, 47, 108, 97, 119, 115, 46, 70, 110, 86, 101, 114, 116, 101, 120, 82, 105, 110, 103, 32, 108, 111, 111, 112, 46, 101, 120, 97, 109, 112, 108, 101, 47, 102, 108, 97, 116, 102, 111, 108, 100, 105, 110, 103, 47, 108, 97, 119, 115, 46, 70, 110, 82, 105, 110, 103, 84, 119, 111, 87, 97, 121, 115]
def headL : List Char := headNums.map Char.ofNat
theorem head_str : Try.prog.initOrder = String.ofList headL := by kernel_rfl
theorem head_toList : Try.prog.initOrder.toList = headL := by rw [head_str]; exact String.toList_ofList
def headWords : List (List Nat) := [[99, 117, 116], [97, 116], [108, 111, 111, 112, 46, 101, 120, 97, 109, 112, 108, 101, 47, 102, 108, 97, 116, 102, 111, 108, 100, 105, 110, 103, 47, 108, 97, 119, 115, 46, 70, 110, 86, 101, 114, 116, 101, 120, 82, 105, 110, 103], [108, 111, 111, 112, 46, 101, 120, 97, 109, 112, 108, 101, 47, 102, 108, 97, 116, 102, 111, 108, 100, 105, 110, 103, 47, 108, 97, 119, 115, 46, 70, 110, 82, 105, 110, 103, 84, 119, 111, 87, 97, 121, 115]]
theorem head_words : behindMainWord (wordsSigns Try.prog.initOrder.toList) = headWords.map (·.map Char.ofNat) := by
  rw [head_toList]
  kernel_rfl
/-- what 'mayEnter', 'liftsFinal', 'make' and 'headLifts' make of the head's words: found by Lean itself -/
def mayF : { F : Program → List (List Char) → Bool // ∀ P : Program, P.mayEnter = F P (behindMainWord (wordsSigns P.initOrder.toList)) } := by
  constructor
  case property =>
    intro P
    unfold Program.mayEnter
    generalize behindMainWord (wordsSigns P.initOrder.toList) = ws
    exact rfl
def liftsF : { F : Program → List (List Char) → List String // ∀ P : Program, P.headLifts = F P (behindMainWord (wordsSigns P.initOrder.toList)) } := by
  constructor
  case property =>
    intro P
    unfold Program.headLifts
    generalize behindMainWord (wordsSigns P.initOrder.toList) = ws
    exact rfl
def finalF : { F : Program → List (List Char) → List String → Bool // ∀ P : Program, P.liftsFinal = F P (behindMainWord (wordsSigns P.initOrder.toList)) P.headLifts } := by
  constructor
  case property =>
    intro P
    unfold Program.liftsFinal
    generalize P.headLifts = l
    generalize behindMainWord (wordsSigns P.initOrder.toList) = ws
    exact rfl
def makeF : { F : Program → List (List Char) → List String → Option Make // ∀ P : Program, P.make = F P (behindMainWord (wordsSigns P.initOrder.toList)) P.headLifts } := by
  constructor
  case property =>
    intro P
    unfold Program.make
    generalize P.headLifts = l
    generalize behindMainWord (wordsSigns P.initOrder.toList) = ws
    exact rfl
theorem may_at {P : Program} {ws : List (List Char)} (h : behindMainWord (wordsSigns P.initOrder.toList) = ws) : P.mayEnter = mayF.1 P ws := by rw [← h]; exact mayF.2 P
theorem lifts_at {P : Program} {ws : List (List Char)} (h : behindMainWord (wordsSigns P.initOrder.toList) = ws) : P.headLifts = liftsF.1 P ws := by rw [← h]; exact liftsF.2 P
theorem final_at {P : Program} {ws : List (List Char)} {l : List String} (h : behindMainWord (wordsSigns P.initOrder.toList) = ws) (h2 : P.headLifts = l) : P.liftsFinal = finalF.1 P ws l := by rw [← h, ← h2]; exact finalF.2 P
theorem make_at {P : Program} {ws : List (List Char)} {l : List String} (h : behindMainWord (wordsSigns P.initOrder.toList) = ws) (h2 : P.headLifts = l) : P.make = makeF.1 P ws l := by rw [← h, ← h2]; exact makeF.2 P
theorem head_lifts : Try.prog.headLifts = [] := (lifts_at head_words).trans (by kernel_rfl)
theorem head_mayEnter : Try.prog.mayEnter = true := (may_at head_words).trans (by kernel_rfl)
theorem head_liftsFinal : Try.prog.liftsFinal = false := (final_at head_words head_lifts).trans (by kernel_rfl)
theorem head_make : Try.prog.make = some .cut := (make_at head_words head_lifts).trans (by kernel_rfl)

end Go.Proofs.Ytngpeehjjcgmmaa
