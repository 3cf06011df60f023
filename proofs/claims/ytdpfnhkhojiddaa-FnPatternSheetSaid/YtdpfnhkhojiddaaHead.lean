/- The head of the translation, letter by letter: so that the closed facts on it are cheap. No condition. -/
import Derived.Test.YtdpfnhkhojiddaaRows
import Derived.WalkKit
import Derived.ProofKit
namespace Go.Proofs.Ytdpfnhkhojiddaa

def headNums : List Nat := [104, 97, 114, 110, 101, 115, 115, 32, 97, 50, 101, 53, 98, 102, 102, 48, 52, 101, 54, 49, 97, 98, 98, 99, 53, 51, 50, 101, 57, 53, 52, 52, 49, 100, 54, 102, 53, 54, 55, 98, 50, 49, 101, 51, 53, 102, 51, 56, 98, 56, 97, 55, 50, 49, 97, 56, 48, 97, 53, 101, 48, 54, 57, 57, 98, 56, 52, 56, 53, 56, 99, 57, 32, 99, 117, 116, 32, 97, 116, 32, 108, 111, 111, 112, 46, 101, 120, 97, 109, 112, 108, 101, 47, 102, 108, 97, 116, 102, 111, 108, 100, 105, 110, 103, 47, 108, 97, 119, 115, 46, 70, 110, 67, 111, 114, 110, 101, 114, 32, 108, 111, 111, 112, 46, 101, 120, 97, 109, 112, 108, 101, 47, 102, 108, 97, 116, 102, 111, 108, 100, 105, 110, 103, 47, 108, 97, 119, 115, 46, 70, 110, 80, 97, 116, 116, 101, 114, 110, 83, 104, 101, 101, 116]
def headL : List Char := headNums.map Char.ofNat
theorem head_str : Try.prog.initOrder = String.ofList headL := by kernel_rfl
theorem head_toList : Try.prog.initOrder.toList = headL := by rw [head_str]; exact String.toList_ofList
def headWords : List (List Nat) := [[99, 117, 116], [97, 116], [108, 111, 111, 112, 46, 101, 120, 97, 109, 112, 108, 101, 47, 102, 108, 97, 116, 102, 111, 108, 100, 105, 110, 103, 47, 108, 97, 119, 115, 46, 70, 110, 67, 111, 114, 110, 101, 114], [108, 111, 111, 112, 46, 101, 120, 97, 109, 112, 108, 101, 47, 102, 108, 97, 116, 102, 111, 108, 100, 105, 110, 103, 47, 108, 97, 119, 115, 46, 70, 110, 80, 97, 116, 116, 101, 114, 110, 83, 104, 101, 101, 116]]
theorem head_words : behindMainWord (wordsSigns Try.prog.initOrder.toList) = headWords.map (·.map Char.ofNat) := by
  rw [head_toList]
  kernel_rfl
/-- what 'mayEnter', 'liftsFinal', 'make' and 'headLifts' make of the head's words: found by Lean itself -/
def mayF : { F : Program → List (List Char) → Bool // ∀ P : Program, P.mayEnter = F P (behindMainWord (wordsSigns P.initOrder.toList)) } := by
  constructor
  case property =>
    intro P
    unfold Program.mayEnter
    generalize behindMainWord (wordsSigns P.initOrder.toList) = ws
    exact rfl
def liftsF : { F : Program → List (List Char) → List String // ∀ P : Program, P.headLifts = F P (behindMainWord (wordsSigns P.initOrder.toList)) } := by
  constructor
  case property =>
    intro P
    unfold Program.headLifts
    generalize behindMainWord (wordsSigns P.initOrder.toList) = ws
    exact rfl
def finalF : { F : Program → List (List Char) → List String → Bool // ∀ P : Program, P.liftsFinal = F P (behindMainWord (wordsSigns P.initOrder.toList)) P.headLifts } := by
  constructor
  case property =>
    intro P
    unfold Program.liftsFinal
    generalize P.headLifts = l
    generalize behindMainWord (wordsSigns P.initOrder.toList) = ws
    exact rfl
def makeF : { F : Program → List (List Char) → List String → Option Make // ∀ P : Program, P.make = F P (behindMainWord (wordsSigns P.initOrder.toList)) P.headLifts } := by
  constructor
  case property =>
    intro P
    unfold Program.make
    generalize P.headLifts = l
    generalize behindMainWord (wordsSigns P.initOrder.toList) = ws
    exact rfl
theorem may_at {P : Program} {ws : List (List Char)} (h : behindMainWord (wordsSigns P.initOrder.toList) = ws) : P.mayEnter = mayF.1 P ws := by rw [← h]; exact mayF.2 P
theorem lifts_at {P : Program} {ws : List (List Char)} (h : behindMainWord (wordsSigns P.initOrder.toList) = ws) : P.headLifts = liftsF.1 P ws := by rw [← h]; exact liftsF.2 P
theorem final_at {P : Program} {ws : List (List Char)} {l : List String} (h : behindMainWord (wordsSigns P.initOrder.toList) = ws) (h2 : P.headLifts = l) : P.liftsFinal = finalF.1 P ws l := by rw [← h, ← h2]; exact finalF.2 P
theorem make_at {P : Program} {ws : List (List Char)} {l : List String} (h : behindMainWord (wordsSigns P.initOrder.toList) = ws) (h2 : P.headLifts = l) : P.make = makeF.1 P ws l := by rw [← h, ← h2]; exact makeF.2 P
theorem head_lifts : Try.prog.headLifts = [] := (lifts_at head_words).trans (by kernel_rfl)
theorem head_mayEnter : Try.prog.mayEnter = true := (may_at head_words).trans (by kernel_rfl)
theorem head_liftsFinal : Try.prog.liftsFinal = false := (final_at head_words head_lifts).trans (by kernel_rfl)
theorem head_make : Try.prog.make = some .cut := (make_at head_words head_lifts).trans (by kernel_rfl)

end Go.Proofs.Ytdpfnhkhojiddaa
