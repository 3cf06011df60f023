/- Texts joined by a byte and split at it. No program, no condition. -/
import Derived.Lib.SplitLaws
import Derived.Lib.CountLaws
import Derived.Lib.Split
namespace Go.Proofs.YtmohfibgefcefaaGreatDoor
open Go

/-- a text out of its bytes -/
abbrev btj (cs : List UInt8) : ByteArray := ⟨cs.toArray⟩
/-- pieces with a byte between them -/
def joinC (c : UInt8) : List (List UInt8) → List UInt8
  | [] => []
  | [x] => x
  | x :: y :: r => x ++ c :: joinC c (y :: r)
theorem index_none {a : List UInt8} {c : UInt8} (h : c ∉ a) : Lib.index a [c] = -1 := by
  induction a with
  | nil => rfl
  | cons b l ih =>
    have h1 : c ≠ b := fun e => h (by simp [e])
    have h2 : c ∉ l := fun e => h (by simp [e])
    have hp : [c].isPrefixOf (b :: l) = false := by simp [List.isPrefixOf, h1]
    unfold Lib.index
    rw [hp, ih h2]; rfl
theorem index_first {a r : List UInt8} {c : UInt8} (h : c ∉ a) : Lib.index (a ++ c :: r) [c] = (a.length : Int) := by
  induction a with
  | nil =>
    show Lib.index (c :: r) [c] = 0
    unfold Lib.index
    have hp : [c].isPrefixOf (c :: r) = true := by simp [List.isPrefixOf]
    rw [hp]; rfl
  | cons b l ih =>
    have h1 : c ≠ b := fun e => h (by simp [e])
    have h2 : c ∉ l := fun e => h (by simp [e])
    have hp : [c].isPrefixOf (b :: (l ++ c :: r)) = false := by simp [List.isPrefixOf, h1]
    show Lib.index (b :: (l ++ c :: r)) [c] = _
    unfold Lib.index
    rw [hp, ih h2]
    have hne : ((l.length : Int) == -1) = false := by rw [beq_eq_false_iff_ne]; omega
    simp only [Bool.false_eq_true, if_false, hne, List.length_cons]
    omega
theorem indexB_none {a : List UInt8} {c : UInt8} (h : c ∉ a) : Lib.indexB (btj a) (btj [c]) = -1 := index_none h
theorem indexB_first {a r : List UInt8} {c : UInt8} (h : c ∉ a) : Lib.indexB (btj (a ++ c :: r)) (btj [c]) = (a.length : Int) := index_first h
theorem ext_head (a r : List UInt8) : (btj (a ++ r)).extract 0 a.length = btj a := by
  apply ByteArray.ext; apply Array.ext'
  rw [ByteArray.data_extract, Array.toList_extract, List.extract_eq_take_drop]
  show ((a ++ r).drop 0).take (a.length - 0) = a
  simp
theorem ext_tail (a r : List UInt8) (c : UInt8) : (btj (a ++ c :: r)).extract (a.length + 1) (btj (a ++ c :: r)).size = btj r := by
  apply ByteArray.ext; apply Array.ext'
  rw [ByteArray.data_extract, Array.toList_extract, List.extract_eq_take_drop]
  have hs : (btj (a ++ c :: r)).size = a.length + 1 + r.length := by show (List.toArray _).size = _; simp; omega
  rw [hs]
  show ((a ++ c :: r).drop (a.length + 1)).take (a.length + 1 + r.length - (a.length + 1)) = r
  rw [List.drop_append, List.drop_of_length_le (by omega)]
  simp
theorem count_join (c : UInt8) (xs : List (List UInt8)) (h0 : xs ≠ []) (hx : ∀ x ∈ xs, c ∉ x) : Lib.countB (btj (joinC c xs)) (btj [c]) + 1 = xs.length := by
  induction xs with
  | nil => exact absurd rfl h0
  | cons x r ih =>
    cases r with
    | nil =>
      show Lib.countB (btj x) (btj [c]) + 1 = 1
      rw [Lib.countB_miss _ _ (indexB_none (hx x (by simp)))]
    | cons y r =>
      show Lib.countB (btj (x ++ c :: joinC c (y :: r))) (btj [c]) + 1 = _
      rw [Lib.countB_hit _ (btj [c]) x.length (show 1 ≤ (btj [c]).size from Nat.le_refl 1) (indexB_first (hx x (by simp)))]
      have e : (btj [c]).size = 1 := rfl
      rw [e, ext_tail]
      have := ih (by simp) (fun z hz => hx z (by simp at hz ⊢; exact Or.inr hz))
      simp only [List.length_cons] at this ⊢
      omega
theorem split_join (c : UInt8) (xs : List (List UInt8)) (h0 : xs ≠ []) (hx : ∀ x ∈ xs, c ∉ x) : Lib.splitB (btj [c]) 0 (Lib.countB (btj (joinC c xs)) (btj [c])) (btj (joinC c xs)) = xs.map btj := by
  induction xs with
  | nil => exact absurd rfl h0
  | cons x r ih =>
    cases r with
    | nil =>
      show Lib.splitB _ 0 _ (btj x) = [btj x]
      rw [Lib.splitB_miss _ _ _ _ (indexB_none (hx x (by simp)))]
    | cons y r =>
      have hi := indexB_first (r := joinC c (y :: r)) (hx x (by simp))
      have hc : Lib.countB (btj (joinC c (x :: y :: r))) (btj [c]) = Lib.countB (btj (joinC c (y :: r))) (btj [c]) + 1 := by
        show Lib.countB (btj (x ++ c :: joinC c (y :: r))) (btj [c]) = _
        rw [Lib.countB_hit _ (btj [c]) x.length (show 1 ≤ (btj [c]).size from Nat.le_refl 1) hi]
        have e : (btj [c]).size = 1 := rfl
        rw [e, ext_tail]; omega
      rw [hc]
      show Lib.splitB _ 0 (_ + 1) (btj (x ++ c :: joinC c (y :: r))) = _
      rw [Lib.splitB_hit _ _ _ _ x.length hi]
      have e : (btj [c]).size = 1 := rfl
      rw [e, ext_tail, Nat.add_zero, ext_head, ih (by simp) (fun z hz => hx z (by simp at hz ⊢; exact Or.inr hz))]
      rfl
end Go.Proofs.YtmohfibgefcefaaGreatDoor
