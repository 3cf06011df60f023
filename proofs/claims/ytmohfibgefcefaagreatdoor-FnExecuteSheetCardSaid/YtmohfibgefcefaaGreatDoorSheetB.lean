/- Sheets folded letter by letter: their sizes. No condition. -/
import Derived.Test.YtmohfibgefcefaaGreatDoorStkD
namespace Go.Proofs.YtmohfibgefcefaaGreatDoor
open Go.RowKit

/-- as many stacks as places, all of m cells -/
def ShI (S : Sh) (m : Nat) : Prop := S.2.2.length = S.1 * S.2.1 ∧ ∀ x ∈ S.2.2, x.length = m
theorem putS_len (a b : List Cl) (h u : Bool) : (putS a b h u).length = a.length + b.length := by
  unfold putS; split <;> simp <;> omega
theorem foldW_inv {S : Sh} {m : Nat} (f u : Bool) (h : ShI S m) (he : S.2.1 % 2 = 0) : ShI (foldW S f u) (2 * m) := by
  refine ⟨?_, ?_⟩
  · show ((List.range S.1).flatMap _).length = S.1 * (S.2.1 / 2)
    have := gridTo_len (S.2.1 / 2) (fun i j => putS (shAt S i (stay j (S.2.1 / 2) f)) (shAt S i (moved j (S.2.1 / 2) f)) false u) S.1 0
    rw [gridTo_end] at this
    exact this
  · intro x hx
    obtain ⟨i, hi, hx⟩ := List.mem_flatMap.1 (show x ∈ (List.range S.1).flatMap _ from hx)
    obtain ⟨j, hj, rfl⟩ := List.mem_map.1 hx
    rw [List.mem_range] at hi hj
    rw [putS_len, h.2 _ (shAt_mem h.1 hi (by have := stay_lt f hj; omega)), h.2 _ (shAt_mem h.1 hi (by have := moved_lt f hj; omega))]
    omega
theorem foldH_inv {S : Sh} {m : Nat} (f u : Bool) (h : ShI S m) (he : S.1 % 2 = 0) : ShI (foldH S f u) (2 * m) := by
  refine ⟨?_, ?_⟩
  · show ((List.range (S.1 / 2)).flatMap _).length = (S.1 / 2) * S.2.1
    have := gridTo_len S.2.1 (fun i j => putS (shAt S (stay i (S.1 / 2) f) j) (shAt S (moved i (S.1 / 2) f) j) true u) (S.1 / 2) 0
    rw [gridTo_end] at this
    exact this
  · intro x hx
    obtain ⟨i, hi, hx⟩ := List.mem_flatMap.1 (show x ∈ (List.range (S.1 / 2)).flatMap _ from hx)
    obtain ⟨j, hj, rfl⟩ := List.mem_map.1 hx
    rw [List.mem_range] at hi hj
    rw [putS_len, h.2 _ (shAt_mem h.1 (by have := stay_lt f hi; omega) hj), h.2 _ (shAt_mem h.1 (by have := moved_lt f hi; omega) hj)]
    omega
theorem newSh_inv (h w : Nat) : ShI (newSh h w) 1 := by
  refine ⟨?_, ?_⟩
  · show ((List.range h).flatMap _).length = h * w
    have := gridTo_len w (fun i j => [(i, j, true, true)]) h 0
    rw [gridTo_end] at this
    exact this
  · intro x hx
    obtain ⟨i, hi, hx⟩ := List.mem_flatMap.1 (show x ∈ (List.range h).flatMap _ from hx)
    obtain ⟨j, hj, rfl⟩ := List.mem_map.1 hx
    rfl
theorem rowsT_cons (c : UInt8) (l : List UInt8) : rowsT (c :: l) = (if highB c then 2 else 1) * rowsT l := by
  unfold rowsT
  rw [List.countP_cons]
  split
  · rw [Nat.pow_succ]; omega
  · simp
theorem colsT_cons (c : UInt8) (l : List UInt8) : colsT (c :: l) = (if wideL c then 2 else 1) * colsT l := by
  unfold colsT
  rw [List.countP_cons]
  split
  · rw [Nat.pow_succ]; omega
  · simp
theorem letter_one {c : UInt8} (h : (wideL c || highB c) = true) : highB c = !wideL c := by
  unfold wideL highB at *
  simp only [Bool.or_eq_true, decide_eq_true_eq] at h
  rcases h with (((h | h) | h) | h) | (((h | h) | h) | h) <;> subst h <;> decide
/-- the sheet behind some letters, others still to come -/
structure ShK (S : Sh) (rest : List UInt8) (m : Nat) : Prop where
  rows : S.1 = rowsT rest
  cols : S.2.1 = colsT rest
  inv : ShI S m
theorem ShK.new (l : List UInt8) : ShK (newSh (rowsT l) (colsT l)) l 1 := ⟨rfl, rfl, newSh_inv _ _⟩
theorem ShK.step {S : Sh} {c : UInt8} {rest : List UInt8} {m : Nat} (h : ShK S (c :: rest) m) (hl : (wideL c || highB c) = true) : ShK (foldC S c) rest (2 * m) ∧ (highB c = false → S.2.1 % 2 = 0) ∧ (highB c = true → S.1 % 2 = 0) := by
  have h1 := h.rows
  have h2 := h.cols
  rw [rowsT_cons] at h1
  rw [colsT_cons] at h2
  have h3 := letter_one hl
  cases hw : wideL c with
  | true =>
    rw [hw] at h3
    simp only [Bool.not_true] at h3
    rw [hw, if_pos rfl] at h2
    rw [h3, if_neg (by decide)] at h1
    have he : S.2.1 % 2 = 0 := by omega
    refine ⟨?_, fun _ => he, fun e => by rw [h3] at e; cases e⟩
    unfold foldC
    rw [h3, if_neg (by decide)]
    exact ⟨by show S.1 = _; omega, by show S.2.1 / 2 = _; omega, foldW_inv _ _ h.inv he⟩
  | false =>
    rw [hw] at h3
    simp only [Bool.not_false] at h3
    rw [hw, if_neg (by decide)] at h2
    rw [h3, if_pos rfl] at h1
    have he : S.1 % 2 = 0 := by omega
    refine ⟨?_, fun e => (by rw [h3] at e; cases e), fun _ => he⟩
    unfold foldC
    rw [h3, if_pos rfl]
    exact ⟨by show S.1 / 2 = _; omega, by show S.2.1 = _; omega, foldH_inv _ _ h.inv he⟩
theorem pow5 {k : Nat} (h : k ≤ 5) : 2 ^ k ≤ 32 := Nat.le_trans (Nat.pow_le_pow_right (by omega) h) (by decide)
theorem rowsT_le {l : List UInt8} (h : l.length ≤ 5) : rowsT l ≤ 32 := pow5 (Nat.le_trans List.countP_le_length h)
theorem colsT_le {l : List UInt8} (h : l.length ≤ 5) : colsT l ≤ 32 := pow5 (Nat.le_trans List.countP_le_length h)
theorem rowsT_pos (l : List UInt8) : 0 < rowsT l := Nat.two_pow_pos _
theorem colsT_pos (l : List UInt8) : 0 < colsT l := Nat.two_pow_pos _
theorem ShK.all {S : Sh} {rest : List UInt8} {m : Nat} (h : ShK S rest m) (hl : ∀ c ∈ rest, (wideL c || highB c) = true) : ShK (foldAll S rest) [] (m * 2 ^ rest.length) := by
  induction rest generalizing S m with
  | nil => simpa [foldAll] using h
  | cons c r ih =>
    have h1 := (h.step (hl c (by simp))).1
    have h2 := ih h1 (fun d hd => hl d (by simp [hd]))
    have e : 2 * m * 2 ^ r.length = m * 2 ^ (c :: r).length := by
      rw [List.length_cons, Nat.pow_succ, Nat.mul_comm 2 m, Nat.mul_assoc, Nat.mul_comm 2]
    rw [e] at h2
    exact h2
theorem stackT_len {l : List UInt8} (hl : ∀ c ∈ l, (wideL c || highB c) = true) : (stackT l).length = 2 ^ l.length := by
  have h := (ShK.new l).all hl
  rw [Nat.one_mul] at h
  exact h.inv.2 _ (shAt_mem h.inv.1 (by rw [h.rows]; decide) (by rw [h.cols]; decide))
/-- a cell of a text's stack: its level and how it lies -/
def cellO (l : List UInt8) (r c : Int) : Option (Nat × Cl) :=
  if shB l = true ∧ 0 ≤ r ∧ r < (rowsT l : Int) ∧ 0 ≤ c ∧ c < (colsT l : Int) then
    (levelT (stackT l) r.toNat c.toNat).map fun k => (k, ((stackT l)[k]?).getD (0, 0, false, false))
  else none
/-- the crease between two cells -/
def crO (l : List UInt8) (r c r' c' : Int) : List UInt8 :=
  match cellO l r c, cellO l r' c' with
  | some a, some b => [if (if b.1 < a.1 then b.2 else a.2).2.2.1 then 86 else 77]
  | _, _ => []
def inT (l : List UInt8) (r c : Int) : Bool := decide (0 ≤ r) && decide (r < (rowsT l : Int)) && decide (0 ≤ c) && decide (c < (colsT l : Int))
/-- the four creases of a corner -/
def cornO (l : List UInt8) (r c : Int) : Option (List UInt8) :=
  if shB l = true ∧ inT l r c = true ∧ inT l (r + 1) (c + 1) = true then some (crO l r c r (c + 1) ++ crO l r (c + 1) (r + 1) (c + 1) ++ crO l (r + 1) c (r + 1) (c + 1) ++ crO l r c (r + 1) c) else none
/-- the texts that the reference draws: short ones, one of five letters, and what is no sheet -/
def DrawT (l : List UInt8) : Prop := shB l = true → l.length ≤ 4 ∨ l = [82, 85, 76, 68, 114]
end Go.Proofs.YtmohfibgefcefaaGreatDoor
