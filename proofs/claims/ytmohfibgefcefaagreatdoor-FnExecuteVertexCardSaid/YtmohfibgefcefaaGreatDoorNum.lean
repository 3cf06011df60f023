/- Numbers told by words, and the kinds of lines of the desk. No program, no condition. -/
import Derived.Lib.ItoaNum
namespace Go.Proofs.YtmohfibgefcefaaGreatDoor
open Go

/-- the digits of a word read behind a number -/
def numD : List UInt8 → Nat → Option Nat
  | [], a => some a
  | c :: r, a => if c.toNat < 48 ∨ 57 < c.toNat then none else numD r (a * 10 + (c.toNat - 48))
theorem numD_cons (c : UInt8) (r : List UInt8) (a : Nat) : numD (c :: r) a = if c.toNat < 48 ∨ 57 < c.toNat then none else numD r (a * 10 + (c.toNat - 48)) := rfl
/-- the number that a word tells -/
def numV (s : List UInt8) : Nat := if s.length < 1 ∨ 4 < s.length then 0 else (numD s 0).getD 0
theorem numD_dec : ∀ (b n : Nat), n < b → ∀ (a : Nat) (r : List UInt8), numD (Lib.decDigits n ++ r) a = numD r (a * 10 ^ (Lib.decDigits n).length + n) := by
  intro b
  induction b with
  | zero => intro n h; omega
  | succ b ih =>
    intro n h a r
    by_cases h10 : n < 10
    · rw [Lib.decDigits_one h10]
      have e : (UInt8.ofNat (48 + n)).toNat = 48 + n := by rw [UInt8.toNat_ofNat']; omega
      show (if (UInt8.ofNat (48 + n)).toNat < 48 ∨ 57 < (UInt8.ofNat (48 + n)).toNat then none else numD r (a * 10 + ((UInt8.ofNat (48 + n)).toNat - 48))) = _
      rw [e, if_neg (by omega)]
      congr 1
      simp
    · rw [Lib.decDigits, dif_neg h10, List.append_assoc, ih (n / 10) (by omega)]
      have e : (UInt8.ofNat (48 + n % 10)).toNat = 48 + n % 10 := by rw [UInt8.toNat_ofNat']; omega
      show (if (UInt8.ofNat (48 + n % 10)).toNat < 48 ∨ 57 < (UInt8.ofNat (48 + n % 10)).toNat then none else numD r (_ * 10 + ((UInt8.ofNat (48 + n % 10)).toNat - 48))) = _
      rw [e, if_neg (by omega)]
      congr 1
      rw [List.length_append, List.length_singleton, Nat.pow_succ, Nat.add_mul, Nat.mul_assoc]
      omega
theorem decDigits_pos : ∀ (n : Nat), 1 ≤ (Lib.decDigits n).length := by
  intro n
  by_cases h10 : n < 10
  · rw [Lib.decDigits_one h10]; simp
  · rw [Lib.decDigits, dif_neg h10, List.length_append]; simp
theorem decDigits_step {n m k : Nat} (h : n < m * 10) (ih : n / 10 < m → (Lib.decDigits (n / 10)).length ≤ k) : (Lib.decDigits n).length ≤ k + 1 := by
  by_cases h10 : n < 10
  · rw [Lib.decDigits_one h10]; simp
  · rw [Lib.decDigits, dif_neg h10, List.length_append]
    have := ih (by omega)
    simp; omega
theorem decDigits_one_le {n : Nat} (h : n < 10) : (Lib.decDigits n).length ≤ 1 := by rw [Lib.decDigits_one h]; simp
theorem decDigits_four {n : Nat} (h : n < 10000) : (Lib.decDigits n).length ≤ 4 :=
  decDigits_step (m := 1000) (by omega) fun h => decDigits_step (m := 100) (by omega) fun h => decDigits_step (m := 10) (by omega) fun h => decDigits_one_le h
theorem decDigits_three {n : Nat} (h : n < 1000) : (Lib.decDigits n).length ≤ 3 :=
  decDigits_step (m := 100) (by omega) fun h => decDigits_step (m := 10) (by omega) fun h => decDigits_one_le h
theorem numV_dec {n : Nat} (h : n < 10000) : numV (Lib.decDigits n) = n := by
  unfold numV
  have h1 := decDigits_pos n
  have h4 := decDigits_four h
  rw [if_neg (by omega)]
  have := numD_dec (n + 1) n (by omega) 0 []
  rw [List.append_nil] at this
  rw [this]
  show (some _).getD 0 = n
  simp
theorem numD_le : ∀ (s : List UInt8) (a : Nat), ∀ v, numD s a = some v → v < (a + 1) * 10 ^ s.length := by
  intro s
  induction s with
  | nil => intro a v h; cases h; simp
  | cons c r ih =>
    intro a v h
    unfold numD at h
    split at h
    · cases h
    · rename_i hc
      have := ih _ _ h
      rw [List.length_cons, Nat.pow_succ]
      refine Nat.lt_of_lt_of_le this ?_
      rw [Nat.mul_comm (10 ^ r.length) 10, ← Nat.mul_assoc]
      exact Nat.mul_le_mul_right _ (by omega)
theorem numV_lt (s : List UInt8) : numV s < 10000 := by
  unfold numV
  split
  · omega
  · rename_i h
    cases hv : numD s 0 with
    | none => simp
    | some v =>
      have := numD_le s 0 v hv
      have h2 : 10 ^ s.length ≤ 10 ^ 4 := Nat.pow_le_pow_right (by omega) (by omega)
      simp at this ⊢
      omega
theorem dec_no {c : UInt8} (hc : c.toNat < 48) : ∀ (b n : Nat), n < b → c ∉ Lib.decDigits n := by
  intro b
  induction b with
  | zero => intro n h; omega
  | succ b ih =>
    intro n h hm
    by_cases h10 : n < 10
    · rw [Lib.decDigits_one h10, List.mem_singleton] at hm
      subst hm
      rw [UInt8.toNat_ofNat'] at hc; omega
    · rw [Lib.decDigits, dif_neg h10, List.mem_append, List.mem_singleton] at hm
      rcases hm with hm | hm
      · exact ih (n / 10) (by omega) hm
      · subst hm
        rw [UInt8.toNat_ofNat'] at hc; omega

/-- the name of a kind of line -/
def cmdName : Nat → List UInt8
  | 0 => [97, 110, 103, 108, 101, 115]
  | 1 => [102, 111, 108, 100, 115]
  | 2 => [109, 97, 110, 121]
  | 3 => [102, 105, 114, 115, 116]
  | 4 => [116, 101, 115, 116]
  | 5 => [99, 114, 105, 109, 112]
  | 6 => [115, 116, 114, 105, 112]
  | 7 => [115, 116, 97, 99, 107]
  | 8 => [119, 111, 114, 100]
  | _ => [115, 116, 97, 109, 112, 115]
/-- how many further words it has at least -/
def cmdLeast : Nat → Nat
  | 0 => 1
  | 1 => 1
  | 2 => 0
  | 3 => 0
  | 4 => 0
  | 5 => 1
  | 6 => 2
  | 7 => 1
  | 8 => 1
  | _ => 1
/-- and at most -/
def cmdMost : Nat → Nat
  | 0 => 301
  | 1 => 1
  | 2 => 0
  | 3 => 0
  | 4 => 0
  | 5 => 1
  | 6 => 301
  | 7 => 1
  | 8 => 1
  | _ => 1
/-- whether a line's words are of a kind -/
def cmdIs (k : Nat) (x : List UInt8) (m : Nat) : Bool := cmdName k == x && decide (cmdLeast k ≤ m) && decide (m ≤ cmdMost k)
theorem cmdName_inj {i j : Nat} (hi : i < 10) (hj : j < 10) (h : cmdName i = cmdName j) : i = j := by
  have : ∀ i : Fin 10, ∀ j : Fin 10, cmdName i = cmdName j → i = j := by decide
  exact congrArg Fin.val (this ⟨i, hi⟩ ⟨j, hj⟩ h)
end Go.Proofs.YtmohfibgefcefaaGreatDoor
