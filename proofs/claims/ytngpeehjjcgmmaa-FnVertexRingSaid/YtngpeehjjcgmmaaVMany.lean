/- VertexMany and VertexFirst, the program's and the reference's. No condition but sizes. -/
import Derived.Test.YtngpeehjjcgmmaaImplB
import Derived.Test.YtngpeehjjcgmmaaSpecF
import Derived.Test.YtngpeehjjcgmmaaFoldsNum
namespace Go.Proofs.Ytngpeehjjcgmmaa
open Go.RowKit

/-- for how many of the first m texts the vertex folds -/
def cntV (xs : List Int) : Nat → Nat
  | 0 => 0
  | m + 1 => cntV xs m + (if vfB xs (txt xs.length m) then 1 else 0)
def vmI (xs : List Int) : Int := if avB xs then (cntV xs (2 ^ xs.length) : Int) else -1
/-- the first of g ranks from k on whose text folds -/
def fstV (xs : List Int) : Nat → Nat → Option Nat
  | _, 0 => none
  | k, g + 1 => if vfB xs (txt xs.length k) then some k else fstV xs (k + 1) g
def vfo (xs : List Int) : Option Nat := if avB xs then fstV xs 0 (2 ^ xs.length) else none
def vfoT (xs : List Int) : ByteArray := match vfo xs with | some k => txt xs.length k | none => ByteArray.empty
theorem cntV_le (xs : List Int) (m : Nat) : cntV xs m ≤ m := by
  induction m with
  | zero => exact Nat.le_refl _
  | succ m ih => unfold cntV; split <;> omega
theorem pow_le_1024 {n : Nat} (h : n ≤ 10) : 2 ^ n ≤ 1024 := Nat.pow_le_pow_right (by decide : 1 ≤ 2) h
theorem wrap_pow {n P : Nat} (h : P = 2 ^ n) (hP : P ≤ 1024) : wrap64 (2 ^ n) = (P : Int) := by
  rw [show (2 : Int) ^ n = ((2 ^ n : Nat) : Int) from by simp, ← h]
  unfold wrap64; omega
theorem fstV_none {xs : List Int} (h : ∀ s, vfB xs s = false) (g k : Nat) : fstV xs k g = none := by
  induction g generalizing k with
  | zero => rfl
  | succ g ih => rw [fstV, h, if_neg (by decide)]; exact ih _
theorem vfo_ac {xs : List Int} (h : acB xs = false) : vfo xs = none := by
  unfold vfo
  split
  · exact fstV_none (fun s => by unfold vfB; rw [h]; rfl) _ _
  · rfl
theorem vfo_av {xs : List Int} (h : avB xs = false) : vfo xs = none := by
  unfold vfo; rw [h]; rfl
theorem fstV_step (xs : List Int) (k P : Nat) (h : k < P) : fstV xs k (P - k) = if vfB xs (txt xs.length k) then some k else fstV xs (k + 1) (P - (k + 1)) := by
  rw [show P - k = (P - (k + 1)) + 1 from by omega]; rfl


end Go.Proofs.Ytngpeehjjcgmmaa
