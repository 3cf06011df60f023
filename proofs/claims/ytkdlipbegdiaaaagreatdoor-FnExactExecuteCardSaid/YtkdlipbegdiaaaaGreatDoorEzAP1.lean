/- Sheets folded letter by letter, and the creases round a corner. No program. Patterns with other numbers of creases: a vertex left out, two patterns joined. No program, no condition. Rings laid flat, told by the order of their places alone: which folds some order of layers has. No program, no condition. The tables of rings laid flat: turned, crimped, and without a crimp. No program, no condition. Patterns of the places of a ring: ranks, turned and crimped. No program, no condition. Numbers told by words, and the kinds of lines of the desk. No program, no condition. -/
import Derived.Test.YtkdlipbegdiaaaaGreatDoorEzAP0
import Derived.Lib.ItoaNum
namespace Go.Proofs.YtkdlipbegdiaaaaGreatDoor
/-- a cell as it lies in a stack: its row, its column, is its upper side up, does its head point up -/
abbrev Cl := Nat × Nat × Bool × Bool
/-- a cell turned over -/
def clT (high : Bool) (c : Cl) : Cl := (c.1, c.2.1, !c.2.2.1, c.2.2.2 ^^ high)
/-- does a letter fold the height -/
def highB (c : UInt8) : Bool := decide (c = 85) || decide (c = 68) || decide (c = 117) || decide (c = 100)
def wideL (c : UInt8) : Bool := decide (c = 82) || decide (c = 76) || decide (c = 114) || decide (c = 108)
/-- does the first half move -/
def firstB (c : UInt8) : Bool := decide (c = 85) || decide (c = 76) || decide (c = 117) || decide (c = 108)
def underB (c : UInt8) : Bool := decide (97 ≤ c.toNat)
/-- the place that stays, the place that moves -/
def stay (i half : Nat) (first : Bool) : Nat := if first then half + i else i
def moved (i half : Nat) (first : Bool) : Nat := if first then half - 1 - i else 2 * half - 1 - i
/-- a stack turned and put onto another -/
def putS (a b : List Cl) (high under : Bool) : List Cl := if under then (b.reverse.map (clT high)) ++ a else a ++ b.reverse.map (clT high)
/-- the stacks of a sheet: rows, columns, row by row -/
abbrev Sh := Nat × Nat × List (List Cl)
def shAt (S : Sh) (i j : Nat) : List Cl := (S.2.2[i * S.2.1 + j]?).getD []
/-- a row of a folded sheet -/
def foldW (S : Sh) (first under : Bool) : Sh :=
  (S.1, S.2.1 / 2, (List.range S.1).flatMap fun i => (List.range (S.2.1 / 2)).map fun j => putS (shAt S i (stay j (S.2.1 / 2) first)) (shAt S i (moved j (S.2.1 / 2) first)) false under)
def foldH (S : Sh) (first under : Bool) : Sh :=
  (S.1 / 2, S.2.1, (List.range (S.1 / 2)).flatMap fun i => (List.range S.2.1).map fun j => putS (shAt S (stay i (S.1 / 2) first) j) (shAt S (moved i (S.1 / 2) first) j) true under)
def foldC (S : Sh) (c : UInt8) : Sh := if highB c then foldH S (firstB c) (underB c) else foldW S (firstB c) (underB c)
/-- rows and columns of a text -/
def rowsT (l : List UInt8) : Nat := 2 ^ (l.countP highB)
def colsT (l : List UInt8) : Nat := 2 ^ (l.countP wideL)
def newSh (h w : Nat) : Sh := (h, w, (List.range h).flatMap fun i => (List.range w).map fun j => [(i, j, true, true)])
def foldAll (S : Sh) (l : List UInt8) : Sh := l.foldl foldC S
/-- the stack of a text -/
def stackT (l : List UInt8) : List Cl := shAt (foldAll (newSh (rowsT l) (colsT l)) l) 0 0
/-- does a text fold a sheet -/
def shB (l : List UInt8) : Bool := decide (l.length ≤ 5) && l.all fun c => wideL c || highB c
def letters : List UInt8 := [82, 76, 114, 108, 85, 68, 117, 100]
end Go.Proofs.YtkdlipbegdiaaaaGreatDoor
namespace Go.Proofs.YtkdlipbegdiaaaaGreatDoor
/-- the first t of n numbers filled in -/
def fillTo (f : Nat → Int) (n t : Nat) : List Int := (List.range n).map fun (k : Nat) => if k < t then f k else 0
theorem fillTo_len (f : Nat → Int) (n t : Nat) : (fillTo f n t).length = n := by simp [fillTo]
theorem fillTo_zero (f : Nat → Int) (n : Nat) : fillTo f n 0 = List.replicate n 0 := by
  apply List.ext_getElem?
  intro k
  by_cases hk : k < n <;> simp [fillTo, hk]
theorem fillTo_set (f : Nat → Int) {n t : Nat} : (fillTo f n t).set t (f t) = fillTo f n (t + 1) := by
  apply List.ext_getElem?
  intro k
  rw [List.getElem?_set]
  by_cases hk : k < n
  · by_cases e : t = k
    · subst e
      rw [if_pos rfl, fillTo_len, if_pos hk]
      simp [fillTo, hk]
    · rw [if_neg e]
      simp only [fillTo, List.getElem?_map, List.getElem?_range hk, Option.map_some]
      congr 1
      by_cases q : k < t
      · rw [if_pos q, if_pos (by omega)]
      · rw [if_neg q, if_neg (by omega)]
  · rw [List.getElem?_eq_none (by rw [fillTo_len]; omega), List.getElem?_eq_none (by rw [fillTo_len]; omega)]
    split
    · rw [fillTo_len, if_neg (by omega)]
    · rfl
end Go.Proofs.YtkdlipbegdiaaaaGreatDoor
namespace Go.Proofs.YtkdlipbegdiaaaaGreatDoor
/-- the number k of a list -/
def gd : List Nat → Nat → Nat
  | [], _ => 0
  | x :: _, 0 => x
  | _ :: r, k + 1 => gd r k
/-- strictly between -/
def betN (l a b : Nat) : Bool := (Nat.blt a l && Nat.blt l b) || (Nat.blt b l && Nat.blt l a)
/-- a part that must not lie between two others -/
def okA (lv : List Nat) (t : Nat × Nat × Nat) : Bool := !betN (gd lv t.1) (gd lv t.2.1) (gd lv t.2.2)
/-- two folds that must not cross -/
def okB (lv : List Nat) (t : Nat × Nat × Nat × Nat) : Bool :=
  (betN (gd lv t.2.2.1) (gd lv t.1) (gd lv t.2.1) == betN (gd lv t.2.2.2) (gd lv t.1) (gd lv t.2.1)) && (betN (gd lv t.1) (gd lv t.2.2.1) (gd lv t.2.2.2) == betN (gd lv t.2.1) (gd lv t.2.2.1) (gd lv t.2.2.2))
/-- the letter of the fold k, V or not -/
def bitN (n : Nat) (lv : List Nat) (k : Nat) : Bool := Nat.blt (gd lv ((k + n - 1) % n)) (gd lv k) == Nat.beq (((k + n - 1) % n) % 2) 0
def codeN (n : Nat) (lv : List Nat) : Nat := (List.range n).foldr (fun k a => 2 * a + (bitN n lv k).toNat) 0
def consA (n : Nat) (r : List Nat) : List (Nat × Nat × Nat) := (List.range n).flatMap fun k => ((List.range n).filter fun i => betN (gd r k) (gd r i) (gd r ((i + 1) % n))).map fun i => (i, (k + n - 1) % n, k)
def consB (n : Nat) (r : List Nat) : List (Nat × Nat × Nat × Nat) := (List.range n).flatMap fun k => ((List.range n).filter fun m => Nat.blt k m && Nat.beq (k % 2) (m % 2) && Nat.beq (gd r k) (gd r m)).map fun m => ((k + n - 1) % n, k, (m + n - 1) % n, m)
/-- a pattern of places, what it bars, and its folds with layers that have them -/
abbrev Ent := List Nat × List (Nat × Nat × Nat) × List (Nat × Nat × Nat × Nat) × List (Nat × List Nat)
def soundE (n : Nat) (ps : List (List Nat)) (e : Ent) : Bool := ps.all fun lv => !(e.2.1.all (okA lv) && e.2.2.1.all (okB lv)) || e.2.2.2.any fun c => Nat.beq c.1 (codeN n lv)
def witE (n : Nat) (ps : List (List Nat)) (e : Ent) : Bool := e.2.2.2.all fun c => (ps.any fun p => p == c.2) && e.2.1.all (okA c.2) && e.2.2.1.all (okB c.2) && Nat.beq (codeN n c.2) c.1
def entOk (n : Nat) (ps : List (List Nat)) (e : Ent) : Bool := (e.2.1 == consA n e.1) && (e.2.2.1 == consB n e.1) && soundE n ps e && witE n ps e
def perms2 : List (List Nat) := [[0, 1], [1, 0]]
def perms4 : List (List Nat) := [[0, 1, 2, 3], [0, 1, 3, 2], [0, 2, 1, 3], [0, 2, 3, 1], [0, 3, 1, 2], [0, 3, 2, 1], [1, 0, 2, 3], [1, 0, 3, 2], [1, 2, 0, 3], [1, 2, 3, 0], [1, 3, 0, 2], [1, 3, 2, 0], [2, 0, 1, 3], [2, 0, 3, 1], [2, 1, 0, 3], [2, 1, 3, 0], [2, 3, 0, 1], [2, 3, 1, 0], [3, 0, 1, 2], [3, 0, 2, 1], [3, 1, 0, 2], [3, 1, 2, 0], [3, 2, 0, 1], [3, 2, 1, 0]]
def perms6 : List (List Nat) := [[0, 1, 2, 3, 4, 5], [0, 1, 2, 3, 5, 4], [0, 1, 2, 4, 3, 5], [0, 1, 2, 4, 5, 3], [0, 1, 2, 5, 3, 4], [0, 1, 2, 5, 4, 3], [0, 1, 3, 2, 4, 5], [0, 1, 3, 2, 5, 4], [0, 1, 3, 4, 2, 5], [0, 1, 3, 4, 5, 2], [0, 1, 3, 5, 2, 4], [0, 1, 3, 5, 4, 2], [0, 1, 4, 2, 3, 5], [0, 1, 4, 2, 5, 3], [0, 1, 4, 3, 2, 5], [0, 1, 4, 3, 5, 2], [0, 1, 4, 5, 2, 3], [0, 1, 4, 5, 3, 2], [0, 1, 5, 2, 3, 4], [0, 1, 5, 2, 4, 3], [0, 1, 5, 3, 2, 4], [0, 1, 5, 3, 4, 2], [0, 1, 5, 4, 2, 3], [0, 1, 5, 4, 3, 2], [0, 2, 1, 3, 4, 5], [0, 2, 1, 3, 5, 4], [0, 2, 1, 4, 3, 5], [0, 2, 1, 4, 5, 3], [0, 2, 1, 5, 3, 4], [0, 2, 1, 5, 4, 3], [0, 2, 3, 1, 4, 5], [0, 2, 3, 1, 5, 4], [0, 2, 3, 4, 1, 5], [0, 2, 3, 4, 5, 1], [0, 2, 3, 5, 1, 4], [0, 2, 3, 5, 4, 1], [0, 2, 4, 1, 3, 5], [0, 2, 4, 1, 5, 3], [0, 2, 4, 3, 1, 5], [0, 2, 4, 3, 5, 1], [0, 2, 4, 5, 1, 3], [0, 2, 4, 5, 3, 1], [0, 2, 5, 1, 3, 4], [0, 2, 5, 1, 4, 3], [0, 2, 5, 3, 1, 4], [0, 2, 5, 3, 4, 1], [0, 2, 5, 4, 1, 3], [0, 2, 5, 4, 3, 1], [0, 3, 1, 2, 4, 5], [0, 3, 1, 2, 5, 4], [0, 3, 1, 4, 2, 5], [0, 3, 1, 4, 5, 2], [0, 3, 1, 5, 2, 4], [0, 3, 1, 5, 4, 2], [0, 3, 2, 1, 4, 5], [0, 3, 2, 1, 5, 4], [0, 3, 2, 4, 1, 5], [0, 3, 2, 4, 5, 1], [0, 3, 2, 5, 1, 4], [0, 3, 2, 5, 4, 1], [0, 3, 4, 1, 2, 5], [0, 3, 4, 1, 5, 2], [0, 3, 4, 2, 1, 5], [0, 3, 4, 2, 5, 1], [0, 3, 4, 5, 1, 2], [0, 3, 4, 5, 2, 1], [0, 3, 5, 1, 2, 4], [0, 3, 5, 1, 4, 2], [0, 3, 5, 2, 1, 4], [0, 3, 5, 2, 4, 1], [0, 3, 5, 4, 1, 2], [0, 3, 5, 4, 2, 1], [0, 4, 1, 2, 3, 5], [0, 4, 1, 2, 5, 3], [0, 4, 1, 3, 2, 5], [0, 4, 1, 3, 5, 2], [0, 4, 1, 5, 2, 3], [0, 4, 1, 5, 3, 2], [0, 4, 2, 1, 3, 5], [0, 4, 2, 1, 5, 3], [0, 4, 2, 3, 1, 5], [0, 4, 2, 3, 5, 1], [0, 4, 2, 5, 1, 3], [0, 4, 2, 5, 3, 1], [0, 4, 3, 1, 2, 5], [0, 4, 3, 1, 5, 2], [0, 4, 3, 2, 1, 5], [0, 4, 3, 2, 5, 1], [0, 4, 3, 5, 1, 2], [0, 4, 3, 5, 2, 1], [0, 4, 5, 1, 2, 3], [0, 4, 5, 1, 3, 2], [0, 4, 5, 2, 1, 3], [0, 4, 5, 2, 3, 1], [0, 4, 5, 3, 1, 2], [0, 4, 5, 3, 2, 1], [0, 5, 1, 2, 3, 4], [0, 5, 1, 2, 4, 3], [0, 5, 1, 3, 2, 4], [0, 5, 1, 3, 4, 2], [0, 5, 1, 4, 2, 3], [0, 5, 1, 4, 3, 2], [0, 5, 2, 1, 3, 4], [0, 5, 2, 1, 4, 3], [0, 5, 2, 3, 1, 4], [0, 5, 2, 3, 4, 1], [0, 5, 2, 4, 1, 3], [0, 5, 2, 4, 3, 1], [0, 5, 3, 1, 2, 4], [0, 5, 3, 1, 4, 2], [0, 5, 3, 2, 1, 4], [0, 5, 3, 2, 4, 1], [0, 5, 3, 4, 1, 2], [0, 5, 3, 4, 2, 1], [0, 5, 4, 1, 2, 3], [0, 5, 4, 1, 3, 2], [0, 5, 4, 2, 1, 3], [0, 5, 4, 2, 3, 1], [0, 5, 4, 3, 1, 2], [0, 5, 4, 3, 2, 1], [1, 0, 2, 3, 4, 5], [1, 0, 2, 3, 5, 4], [1, 0, 2, 4, 3, 5], [1, 0, 2, 4, 5, 3], [1, 0, 2, 5, 3, 4], [1, 0, 2, 5, 4, 3], [1, 0, 3, 2, 4, 5], [1, 0, 3, 2, 5, 4], [1, 0, 3, 4, 2, 5], [1, 0, 3, 4, 5, 2], [1, 0, 3, 5, 2, 4], [1, 0, 3, 5, 4, 2], [1, 0, 4, 2, 3, 5], [1, 0, 4, 2, 5, 3], [1, 0, 4, 3, 2, 5], [1, 0, 4, 3, 5, 2], [1, 0, 4, 5, 2, 3], [1, 0, 4, 5, 3, 2], [1, 0, 5, 2, 3, 4], [1, 0, 5, 2, 4, 3], [1, 0, 5, 3, 2, 4], [1, 0, 5, 3, 4, 2], [1, 0, 5, 4, 2, 3], [1, 0, 5, 4, 3, 2], [1, 2, 0, 3, 4, 5], [1, 2, 0, 3, 5, 4], [1, 2, 0, 4, 3, 5], [1, 2, 0, 4, 5, 3], [1, 2, 0, 5, 3, 4], [1, 2, 0, 5, 4, 3], [1, 2, 3, 0, 4, 5], [1, 2, 3, 0, 5, 4], [1, 2, 3, 4, 0, 5], [1, 2, 3, 4, 5, 0], [1, 2, 3, 5, 0, 4], [1, 2, 3, 5, 4, 0], [1, 2, 4, 0, 3, 5], [1, 2, 4, 0, 5, 3], [1, 2, 4, 3, 0, 5], [1, 2, 4, 3, 5, 0], [1, 2, 4, 5, 0, 3], [1, 2, 4, 5, 3, 0], [1, 2, 5, 0, 3, 4], [1, 2, 5, 0, 4, 3], [1, 2, 5, 3, 0, 4], [1, 2, 5, 3, 4, 0], [1, 2, 5, 4, 0, 3], [1, 2, 5, 4, 3, 0], [1, 3, 0, 2, 4, 5], [1, 3, 0, 2, 5, 4], [1, 3, 0, 4, 2, 5], [1, 3, 0, 4, 5, 2], [1, 3, 0, 5, 2, 4], [1, 3, 0, 5, 4, 2], [1, 3, 2, 0, 4, 5], [1, 3, 2, 0, 5, 4], [1, 3, 2, 4, 0, 5], [1, 3, 2, 4, 5, 0], [1, 3, 2, 5, 0, 4], [1, 3, 2, 5, 4, 0], [1, 3, 4, 0, 2, 5], [1, 3, 4, 0, 5, 2], [1, 3, 4, 2, 0, 5], [1, 3, 4, 2, 5, 0], [1, 3, 4, 5, 0, 2], [1, 3, 4, 5, 2, 0], [1, 3, 5, 0, 2, 4], [1, 3, 5, 0, 4, 2], [1, 3, 5, 2, 0, 4], [1, 3, 5, 2, 4, 0], [1, 3, 5, 4, 0, 2], [1, 3, 5, 4, 2, 0], [1, 4, 0, 2, 3, 5], [1, 4, 0, 2, 5, 3], [1, 4, 0, 3, 2, 5], [1, 4, 0, 3, 5, 2], [1, 4, 0, 5, 2, 3], [1, 4, 0, 5, 3, 2], [1, 4, 2, 0, 3, 5], [1, 4, 2, 0, 5, 3], [1, 4, 2, 3, 0, 5], [1, 4, 2, 3, 5, 0], [1, 4, 2, 5, 0, 3], [1, 4, 2, 5, 3, 0], [1, 4, 3, 0, 2, 5], [1, 4, 3, 0, 5, 2], [1, 4, 3, 2, 0, 5], [1, 4, 3, 2, 5, 0], [1, 4, 3, 5, 0, 2], [1, 4, 3, 5, 2, 0], [1, 4, 5, 0, 2, 3], [1, 4, 5, 0, 3, 2], [1, 4, 5, 2, 0, 3], [1, 4, 5, 2, 3, 0], [1, 4, 5, 3, 0, 2], [1, 4, 5, 3, 2, 0], [1, 5, 0, 2, 3, 4], [1, 5, 0, 2, 4, 3], [1, 5, 0, 3, 2, 4], [1, 5, 0, 3, 4, 2], [1, 5, 0, 4, 2, 3], [1, 5, 0, 4, 3, 2], [1, 5, 2, 0, 3, 4], [1, 5, 2, 0, 4, 3], [1, 5, 2, 3, 0, 4], [1, 5, 2, 3, 4, 0], [1, 5, 2, 4, 0, 3], [1, 5, 2, 4, 3, 0], [1, 5, 3, 0, 2, 4], [1, 5, 3, 0, 4, 2], [1, 5, 3, 2, 0, 4], [1, 5, 3, 2, 4, 0], [1, 5, 3, 4, 0, 2], [1, 5, 3, 4, 2, 0], [1, 5, 4, 0, 2, 3], [1, 5, 4, 0, 3, 2], [1, 5, 4, 2, 0, 3], [1, 5, 4, 2, 3, 0], [1, 5, 4, 3, 0, 2], [1, 5, 4, 3, 2, 0], [2, 0, 1, 3, 4, 5], [2, 0, 1, 3, 5, 4], [2, 0, 1, 4, 3, 5], [2, 0, 1, 4, 5, 3], [2, 0, 1, 5, 3, 4], [2, 0, 1, 5, 4, 3], [2, 0, 3, 1, 4, 5], [2, 0, 3, 1, 5, 4], [2, 0, 3, 4, 1, 5], [2, 0, 3, 4, 5, 1], [2, 0, 3, 5, 1, 4], [2, 0, 3, 5, 4, 1], [2, 0, 4, 1, 3, 5], [2, 0, 4, 1, 5, 3], [2, 0, 4, 3, 1, 5], [2, 0, 4, 3, 5, 1], [2, 0, 4, 5, 1, 3], [2, 0, 4, 5, 3, 1], [2, 0, 5, 1, 3, 4], [2, 0, 5, 1, 4, 3], [2, 0, 5, 3, 1, 4], [2, 0, 5, 3, 4, 1], [2, 0, 5, 4, 1, 3], [2, 0, 5, 4, 3, 1], [2, 1, 0, 3, 4, 5], [2, 1, 0, 3, 5, 4], [2, 1, 0, 4, 3, 5], [2, 1, 0, 4, 5, 3], [2, 1, 0, 5, 3, 4], [2, 1, 0, 5, 4, 3], [2, 1, 3, 0, 4, 5], [2, 1, 3, 0, 5, 4], [2, 1, 3, 4, 0, 5], [2, 1, 3, 4, 5, 0], [2, 1, 3, 5, 0, 4], [2, 1, 3, 5, 4, 0], [2, 1, 4, 0, 3, 5], [2, 1, 4, 0, 5, 3], [2, 1, 4, 3, 0, 5], [2, 1, 4, 3, 5, 0], [2, 1, 4, 5, 0, 3], [2, 1, 4, 5, 3, 0], [2, 1, 5, 0, 3, 4], [2, 1, 5, 0, 4, 3], [2, 1, 5, 3, 0, 4], [2, 1, 5, 3, 4, 0], [2, 1, 5, 4, 0, 3], [2, 1, 5, 4, 3, 0], [2, 3, 0, 1, 4, 5], [2, 3, 0, 1, 5, 4], [2, 3, 0, 4, 1, 5], [2, 3, 0, 4, 5, 1], [2, 3, 0, 5, 1, 4], [2, 3, 0, 5, 4, 1], [2, 3, 1, 0, 4, 5], [2, 3, 1, 0, 5, 4], [2, 3, 1, 4, 0, 5], [2, 3, 1, 4, 5, 0], [2, 3, 1, 5, 0, 4], [2, 3, 1, 5, 4, 0], [2, 3, 4, 0, 1, 5], [2, 3, 4, 0, 5, 1], [2, 3, 4, 1, 0, 5], [2, 3, 4, 1, 5, 0], [2, 3, 4, 5, 0, 1], [2, 3, 4, 5, 1, 0], [2, 3, 5, 0, 1, 4], [2, 3, 5, 0, 4, 1], [2, 3, 5, 1, 0, 4], [2, 3, 5, 1, 4, 0], [2, 3, 5, 4, 0, 1], [2, 3, 5, 4, 1, 0], [2, 4, 0, 1, 3, 5], [2, 4, 0, 1, 5, 3], [2, 4, 0, 3, 1, 5], [2, 4, 0, 3, 5, 1], [2, 4, 0, 5, 1, 3], [2, 4, 0, 5, 3, 1], [2, 4, 1, 0, 3, 5], [2, 4, 1, 0, 5, 3], [2, 4, 1, 3, 0, 5], [2, 4, 1, 3, 5, 0], [2, 4, 1, 5, 0, 3], [2, 4, 1, 5, 3, 0], [2, 4, 3, 0, 1, 5], [2, 4, 3, 0, 5, 1], [2, 4, 3, 1, 0, 5], [2, 4, 3, 1, 5, 0], [2, 4, 3, 5, 0, 1], [2, 4, 3, 5, 1, 0], [2, 4, 5, 0, 1, 3], [2, 4, 5, 0, 3, 1], [2, 4, 5, 1, 0, 3], [2, 4, 5, 1, 3, 0], [2, 4, 5, 3, 0, 1], [2, 4, 5, 3, 1, 0], [2, 5, 0, 1, 3, 4], [2, 5, 0, 1, 4, 3], [2, 5, 0, 3, 1, 4], [2, 5, 0, 3, 4, 1], [2, 5, 0, 4, 1, 3], [2, 5, 0, 4, 3, 1], [2, 5, 1, 0, 3, 4], [2, 5, 1, 0, 4, 3], [2, 5, 1, 3, 0, 4], [2, 5, 1, 3, 4, 0], [2, 5, 1, 4, 0, 3], [2, 5, 1, 4, 3, 0], [2, 5, 3, 0, 1, 4], [2, 5, 3, 0, 4, 1], [2, 5, 3, 1, 0, 4], [2, 5, 3, 1, 4, 0], [2, 5, 3, 4, 0, 1], [2, 5, 3, 4, 1, 0], [2, 5, 4, 0, 1, 3], [2, 5, 4, 0, 3, 1], [2, 5, 4, 1, 0, 3], [2, 5, 4, 1, 3, 0], [2, 5, 4, 3, 0, 1], [2, 5, 4, 3, 1, 0], [3, 0, 1, 2, 4, 5], [3, 0, 1, 2, 5, 4], [3, 0, 1, 4, 2, 5], [3, 0, 1, 4, 5, 2], [3, 0, 1, 5, 2, 4], [3, 0, 1, 5, 4, 2], [3, 0, 2, 1, 4, 5], [3, 0, 2, 1, 5, 4], [3, 0, 2, 4, 1, 5], [3, 0, 2, 4, 5, 1], [3, 0, 2, 5, 1, 4], [3, 0, 2, 5, 4, 1], [3, 0, 4, 1, 2, 5], [3, 0, 4, 1, 5, 2], [3, 0, 4, 2, 1, 5], [3, 0, 4, 2, 5, 1], [3, 0, 4, 5, 1, 2], [3, 0, 4, 5, 2, 1], [3, 0, 5, 1, 2, 4], [3, 0, 5, 1, 4, 2], [3, 0, 5, 2, 1, 4], [3, 0, 5, 2, 4, 1], [3, 0, 5, 4, 1, 2], [3, 0, 5, 4, 2, 1], [3, 1, 0, 2, 4, 5], [3, 1, 0, 2, 5, 4], [3, 1, 0, 4, 2, 5], [3, 1, 0, 4, 5, 2], [3, 1, 0, 5, 2, 4], [3, 1, 0, 5, 4, 2], [3, 1, 2, 0, 4, 5], [3, 1, 2, 0, 5, 4], [3, 1, 2, 4, 0, 5], [3, 1, 2, 4, 5, 0], [3, 1, 2, 5, 0, 4], [3, 1, 2, 5, 4, 0], [3, 1, 4, 0, 2, 5], [3, 1, 4, 0, 5, 2], [3, 1, 4, 2, 0, 5], [3, 1, 4, 2, 5, 0], [3, 1, 4, 5, 0, 2], [3, 1, 4, 5, 2, 0], [3, 1, 5, 0, 2, 4], [3, 1, 5, 0, 4, 2], [3, 1, 5, 2, 0, 4], [3, 1, 5, 2, 4, 0], [3, 1, 5, 4, 0, 2], [3, 1, 5, 4, 2, 0], [3, 2, 0, 1, 4, 5], [3, 2, 0, 1, 5, 4], [3, 2, 0, 4, 1, 5], [3, 2, 0, 4, 5, 1], [3, 2, 0, 5, 1, 4], [3, 2, 0, 5, 4, 1], [3, 2, 1, 0, 4, 5], [3, 2, 1, 0, 5, 4], [3, 2, 1, 4, 0, 5], [3, 2, 1, 4, 5, 0], [3, 2, 1, 5, 0, 4], [3, 2, 1, 5, 4, 0], [3, 2, 4, 0, 1, 5], [3, 2, 4, 0, 5, 1], [3, 2, 4, 1, 0, 5], [3, 2, 4, 1, 5, 0], [3, 2, 4, 5, 0, 1], [3, 2, 4, 5, 1, 0], [3, 2, 5, 0, 1, 4], [3, 2, 5, 0, 4, 1], [3, 2, 5, 1, 0, 4], [3, 2, 5, 1, 4, 0], [3, 2, 5, 4, 0, 1], [3, 2, 5, 4, 1, 0], [3, 4, 0, 1, 2, 5], [3, 4, 0, 1, 5, 2], [3, 4, 0, 2, 1, 5], [3, 4, 0, 2, 5, 1], [3, 4, 0, 5, 1, 2], [3, 4, 0, 5, 2, 1], [3, 4, 1, 0, 2, 5], [3, 4, 1, 0, 5, 2], [3, 4, 1, 2, 0, 5], [3, 4, 1, 2, 5, 0], [3, 4, 1, 5, 0, 2], [3, 4, 1, 5, 2, 0], [3, 4, 2, 0, 1, 5], [3, 4, 2, 0, 5, 1], [3, 4, 2, 1, 0, 5], [3, 4, 2, 1, 5, 0], [3, 4, 2, 5, 0, 1], [3, 4, 2, 5, 1, 0], [3, 4, 5, 0, 1, 2], [3, 4, 5, 0, 2, 1], [3, 4, 5, 1, 0, 2], [3, 4, 5, 1, 2, 0], [3, 4, 5, 2, 0, 1], [3, 4, 5, 2, 1, 0], [3, 5, 0, 1, 2, 4], [3, 5, 0, 1, 4, 2], [3, 5, 0, 2, 1, 4], [3, 5, 0, 2, 4, 1], [3, 5, 0, 4, 1, 2], [3, 5, 0, 4, 2, 1], [3, 5, 1, 0, 2, 4], [3, 5, 1, 0, 4, 2], [3, 5, 1, 2, 0, 4], [3, 5, 1, 2, 4, 0], [3, 5, 1, 4, 0, 2], [3, 5, 1, 4, 2, 0], [3, 5, 2, 0, 1, 4], [3, 5, 2, 0, 4, 1], [3, 5, 2, 1, 0, 4], [3, 5, 2, 1, 4, 0], [3, 5, 2, 4, 0, 1], [3, 5, 2, 4, 1, 0], [3, 5, 4, 0, 1, 2], [3, 5, 4, 0, 2, 1], [3, 5, 4, 1, 0, 2], [3, 5, 4, 1, 2, 0], [3, 5, 4, 2, 0, 1], [3, 5, 4, 2, 1, 0], [4, 0, 1, 2, 3, 5], [4, 0, 1, 2, 5, 3], [4, 0, 1, 3, 2, 5], [4, 0, 1, 3, 5, 2], [4, 0, 1, 5, 2, 3], [4, 0, 1, 5, 3, 2], [4, 0, 2, 1, 3, 5], [4, 0, 2, 1, 5, 3], [4, 0, 2, 3, 1, 5], [4, 0, 2, 3, 5, 1], [4, 0, 2, 5, 1, 3], [4, 0, 2, 5, 3, 1], [4, 0, 3, 1, 2, 5], [4, 0, 3, 1, 5, 2], [4, 0, 3, 2, 1, 5], [4, 0, 3, 2, 5, 1], [4, 0, 3, 5, 1, 2], [4, 0, 3, 5, 2, 1], [4, 0, 5, 1, 2, 3], [4, 0, 5, 1, 3, 2], [4, 0, 5, 2, 1, 3], [4, 0, 5, 2, 3, 1], [4, 0, 5, 3, 1, 2], [4, 0, 5, 3, 2, 1], [4, 1, 0, 2, 3, 5], [4, 1, 0, 2, 5, 3], [4, 1, 0, 3, 2, 5], [4, 1, 0, 3, 5, 2], [4, 1, 0, 5, 2, 3], [4, 1, 0, 5, 3, 2], [4, 1, 2, 0, 3, 5], [4, 1, 2, 0, 5, 3], [4, 1, 2, 3, 0, 5], [4, 1, 2, 3, 5, 0], [4, 1, 2, 5, 0, 3], [4, 1, 2, 5, 3, 0], [4, 1, 3, 0, 2, 5], [4, 1, 3, 0, 5, 2], [4, 1, 3, 2, 0, 5], [4, 1, 3, 2, 5, 0], [4, 1, 3, 5, 0, 2], [4, 1, 3, 5, 2, 0], [4, 1, 5, 0, 2, 3], [4, 1, 5, 0, 3, 2], [4, 1, 5, 2, 0, 3], [4, 1, 5, 2, 3, 0], [4, 1, 5, 3, 0, 2], [4, 1, 5, 3, 2, 0], [4, 2, 0, 1, 3, 5], [4, 2, 0, 1, 5, 3], [4, 2, 0, 3, 1, 5], [4, 2, 0, 3, 5, 1], [4, 2, 0, 5, 1, 3], [4, 2, 0, 5, 3, 1], [4, 2, 1, 0, 3, 5], [4, 2, 1, 0, 5, 3], [4, 2, 1, 3, 0, 5], [4, 2, 1, 3, 5, 0], [4, 2, 1, 5, 0, 3], [4, 2, 1, 5, 3, 0], [4, 2, 3, 0, 1, 5], [4, 2, 3, 0, 5, 1], [4, 2, 3, 1, 0, 5], [4, 2, 3, 1, 5, 0], [4, 2, 3, 5, 0, 1], [4, 2, 3, 5, 1, 0], [4, 2, 5, 0, 1, 3], [4, 2, 5, 0, 3, 1], [4, 2, 5, 1, 0, 3], [4, 2, 5, 1, 3, 0], [4, 2, 5, 3, 0, 1], [4, 2, 5, 3, 1, 0], [4, 3, 0, 1, 2, 5], [4, 3, 0, 1, 5, 2], [4, 3, 0, 2, 1, 5], [4, 3, 0, 2, 5, 1], [4, 3, 0, 5, 1, 2], [4, 3, 0, 5, 2, 1], [4, 3, 1, 0, 2, 5], [4, 3, 1, 0, 5, 2], [4, 3, 1, 2, 0, 5], [4, 3, 1, 2, 5, 0], [4, 3, 1, 5, 0, 2], [4, 3, 1, 5, 2, 0], [4, 3, 2, 0, 1, 5], [4, 3, 2, 0, 5, 1], [4, 3, 2, 1, 0, 5], [4, 3, 2, 1, 5, 0], [4, 3, 2, 5, 0, 1], [4, 3, 2, 5, 1, 0], [4, 3, 5, 0, 1, 2], [4, 3, 5, 0, 2, 1], [4, 3, 5, 1, 0, 2], [4, 3, 5, 1, 2, 0], [4, 3, 5, 2, 0, 1], [4, 3, 5, 2, 1, 0], [4, 5, 0, 1, 2, 3], [4, 5, 0, 1, 3, 2], [4, 5, 0, 2, 1, 3], [4, 5, 0, 2, 3, 1], [4, 5, 0, 3, 1, 2], [4, 5, 0, 3, 2, 1], [4, 5, 1, 0, 2, 3], [4, 5, 1, 0, 3, 2], [4, 5, 1, 2, 0, 3], [4, 5, 1, 2, 3, 0], [4, 5, 1, 3, 0, 2], [4, 5, 1, 3, 2, 0], [4, 5, 2, 0, 1, 3], [4, 5, 2, 0, 3, 1], [4, 5, 2, 1, 0, 3], [4, 5, 2, 1, 3, 0], [4, 5, 2, 3, 0, 1], [4, 5, 2, 3, 1, 0], [4, 5, 3, 0, 1, 2], [4, 5, 3, 0, 2, 1], [4, 5, 3, 1, 0, 2], [4, 5, 3, 1, 2, 0], [4, 5, 3, 2, 0, 1], [4, 5, 3, 2, 1, 0], [5, 0, 1, 2, 3, 4], [5, 0, 1, 2, 4, 3], [5, 0, 1, 3, 2, 4], [5, 0, 1, 3, 4, 2], [5, 0, 1, 4, 2, 3], [5, 0, 1, 4, 3, 2], [5, 0, 2, 1, 3, 4], [5, 0, 2, 1, 4, 3], [5, 0, 2, 3, 1, 4], [5, 0, 2, 3, 4, 1], [5, 0, 2, 4, 1, 3], [5, 0, 2, 4, 3, 1], [5, 0, 3, 1, 2, 4], [5, 0, 3, 1, 4, 2], [5, 0, 3, 2, 1, 4], [5, 0, 3, 2, 4, 1], [5, 0, 3, 4, 1, 2], [5, 0, 3, 4, 2, 1], [5, 0, 4, 1, 2, 3], [5, 0, 4, 1, 3, 2], [5, 0, 4, 2, 1, 3], [5, 0, 4, 2, 3, 1], [5, 0, 4, 3, 1, 2], [5, 0, 4, 3, 2, 1], [5, 1, 0, 2, 3, 4], [5, 1, 0, 2, 4, 3], [5, 1, 0, 3, 2, 4], [5, 1, 0, 3, 4, 2], [5, 1, 0, 4, 2, 3], [5, 1, 0, 4, 3, 2], [5, 1, 2, 0, 3, 4], [5, 1, 2, 0, 4, 3], [5, 1, 2, 3, 0, 4], [5, 1, 2, 3, 4, 0], [5, 1, 2, 4, 0, 3], [5, 1, 2, 4, 3, 0], [5, 1, 3, 0, 2, 4], [5, 1, 3, 0, 4, 2], [5, 1, 3, 2, 0, 4], [5, 1, 3, 2, 4, 0], [5, 1, 3, 4, 0, 2], [5, 1, 3, 4, 2, 0], [5, 1, 4, 0, 2, 3], [5, 1, 4, 0, 3, 2], [5, 1, 4, 2, 0, 3], [5, 1, 4, 2, 3, 0], [5, 1, 4, 3, 0, 2], [5, 1, 4, 3, 2, 0], [5, 2, 0, 1, 3, 4], [5, 2, 0, 1, 4, 3], [5, 2, 0, 3, 1, 4], [5, 2, 0, 3, 4, 1], [5, 2, 0, 4, 1, 3], [5, 2, 0, 4, 3, 1], [5, 2, 1, 0, 3, 4], [5, 2, 1, 0, 4, 3], [5, 2, 1, 3, 0, 4], [5, 2, 1, 3, 4, 0], [5, 2, 1, 4, 0, 3], [5, 2, 1, 4, 3, 0], [5, 2, 3, 0, 1, 4], [5, 2, 3, 0, 4, 1], [5, 2, 3, 1, 0, 4], [5, 2, 3, 1, 4, 0], [5, 2, 3, 4, 0, 1], [5, 2, 3, 4, 1, 0], [5, 2, 4, 0, 1, 3], [5, 2, 4, 0, 3, 1], [5, 2, 4, 1, 0, 3], [5, 2, 4, 1, 3, 0], [5, 2, 4, 3, 0, 1], [5, 2, 4, 3, 1, 0], [5, 3, 0, 1, 2, 4], [5, 3, 0, 1, 4, 2], [5, 3, 0, 2, 1, 4], [5, 3, 0, 2, 4, 1], [5, 3, 0, 4, 1, 2], [5, 3, 0, 4, 2, 1], [5, 3, 1, 0, 2, 4], [5, 3, 1, 0, 4, 2], [5, 3, 1, 2, 0, 4], [5, 3, 1, 2, 4, 0], [5, 3, 1, 4, 0, 2], [5, 3, 1, 4, 2, 0], [5, 3, 2, 0, 1, 4], [5, 3, 2, 0, 4, 1], [5, 3, 2, 1, 0, 4], [5, 3, 2, 1, 4, 0], [5, 3, 2, 4, 0, 1], [5, 3, 2, 4, 1, 0], [5, 3, 4, 0, 1, 2], [5, 3, 4, 0, 2, 1], [5, 3, 4, 1, 0, 2], [5, 3, 4, 1, 2, 0], [5, 3, 4, 2, 0, 1], [5, 3, 4, 2, 1, 0], [5, 4, 0, 1, 2, 3], [5, 4, 0, 1, 3, 2], [5, 4, 0, 2, 1, 3], [5, 4, 0, 2, 3, 1], [5, 4, 0, 3, 1, 2], [5, 4, 0, 3, 2, 1], [5, 4, 1, 0, 2, 3], [5, 4, 1, 0, 3, 2], [5, 4, 1, 2, 0, 3], [5, 4, 1, 2, 3, 0], [5, 4, 1, 3, 0, 2], [5, 4, 1, 3, 2, 0], [5, 4, 2, 0, 1, 3], [5, 4, 2, 0, 3, 1], [5, 4, 2, 1, 0, 3], [5, 4, 2, 1, 3, 0], [5, 4, 2, 3, 0, 1], [5, 4, 2, 3, 1, 0], [5, 4, 3, 0, 1, 2], [5, 4, 3, 0, 2, 1], [5, 4, 3, 1, 0, 2], [5, 4, 3, 1, 2, 0], [5, 4, 3, 2, 0, 1], [5, 4, 3, 2, 1, 0]]
end Go.Proofs.YtkdlipbegdiaaaaGreatDoor
namespace Go.Proofs.YtkdlipbegdiaaaaGreatDoor
/-- the folds of a pattern, looked up -/
def look (tab : List Ent) (r : List Nat) : List Nat := match tab.find? (fun e => e.1 == r) with
  | some e => e.2.2.2.map Prod.fst
  | none => []
/-- lists that go up and down -/
def upDown (n : Nat) : Nat → List (List Nat)
  | 0 => [[]]
  | k + 1 => (upDown n k).flatMap fun t => ((List.range n).filter fun v => match t with
    | [] => true
    | y :: _ => if (n - 1 - k) % 2 = 0 then Nat.blt v y else Nat.blt y v).map fun v => v :: t
def goodN (n : Nat) (r : List Nat) : Bool := Nat.blt (gd r 0) (gd r (n - 1)) && (List.range n).all fun i => Nat.beq (gd r i) ((List.range n).countP fun j => Nat.blt (gd r j) (gd r i))
def patsOk (n : Nat) (tab : List Ent) : Bool := ((upDown n n).filter (goodN n)).all fun r => tab.any fun e => e.1 == r
/-- the pattern turned by one -/
def rotN (n : Nat) (r : List Nat) : List Nat := (List.range n).map fun i => (List.range n).countP fun j => Nat.blt (gd r ((i + 1) % n)) (gd r ((j + 1) % n))
def rotC (n c : Nat) : Nat := c / 2 + (c % 2) * 2 ^ (n - 1)
def chkR (n : Nat) (tab : List Ent) : Bool := tab.all fun e => e.2.2.2.all fun c => (look tab (rotN n e.1)).any fun d => Nat.beq d (rotC n c.1)
/-- the pattern crimped at the part 1 -/
def sgN (j : Nat) : Nat := match j with | 0 => 0 | k + 1 => k + 3
end Go.Proofs.YtkdlipbegdiaaaaGreatDoor
namespace Go.Proofs.YtkdlipbegdiaaaaGreatDoor
/-- where the part k of a ring begins -/
def pl (x : Nat → Int) : Nat → Int
  | 0 => 0
  | k + 1 => if k % 2 = 0 then pl x k + x k else pl x k - x k
theorem gd_eq (l : List Nat) (k : Nat) : gd l k = (l[k]?).getD 0 := by
  induction l generalizing k with
  | nil => cases k <;> rfl
  | cons x r ih =>
    cases k with
    | zero => rfl
    | succ k => exact (ih k).trans (by simp)
/-- a ring of n parts that closes -/
structure RingF (n : Nat) (x : Nat → Int) (f : Nat → Nat) : Prop where
  size : n = 2 ∨ n = 4 ∨ n = 6
  pos : ∀ k, k < n → 1 ≤ x k
  shut : pl x n = 0
  bin : ∀ k, k < n → f k = 77 ∨ f k = 86
/-- crimped at the part 1 -/
def crX (x : Nat → Int) : Nat → Int := fun j => match j with | 0 => x 0 + x 2 - x 1 | k + 1 => x (k + 3)
def crF (f : Nat → Nat) : Nat → Nat := fun j => f (sgN j)
theorem pl_crimp (x : Nat → Int) : ∀ j, pl (crX x) j = pl x (sgN j) := by
  intro j
  induction j with
  | zero => rfl
  | succ j ih =>
    cases j with
    | zero =>
      show (if 0 % 2 = 0 then pl (crX x) 0 + crX x 0 else _) = pl x 3
      rw [if_pos rfl]
      show (0 : Int) + (x 0 + x 2 - x 1) = _
      simp [pl]; omega
    | succ j =>
      have e1 : pl (crX x) (j + 1 + 1) = if (j + 1) % 2 = 0 then pl (crX x) (j + 1) + x (j + 3) else pl (crX x) (j + 1) - x (j + 3) := rfl
      have e2 : pl x (j + 4) = if (j + 3) % 2 = 0 then pl x (j + 3) + x (j + 3) else pl x (j + 3) - x (j + 3) := rfl
      show _ = pl x (j + 4)
      have ih' : pl (crX x) (j + 1) = pl x (j + 3) := ih
      rw [e1, e2, ih']
      by_cases h : (j + 1) % 2 = 0
      · rw [if_pos h, if_pos (by omega)]
      · rw [if_neg h, if_neg (by omega)]
theorem sgN_lt {j n : Nat} (h : j < n - 2) : sgN j < n := by
  cases j with
  | zero => show 0 < n; omega
  | succ k => show k + 3 < n; omega
theorem RingF.crimp {n : Nat} {x : Nat → Int} {f : Nat → Nat} (h : RingF n x f) (h4 : 4 ≤ n) (h1 : x 1 ≤ x 0) : RingF (n - 2) (crX x) (crF f) := by
  refine ⟨by rcases h.size with e | e | e <;> omega, fun k hk => ?_, ?_, fun k hk => h.bin _ (sgN_lt hk)⟩
  · cases k with
    | zero =>
      have := h.pos 2 (by omega)
      show 1 ≤ x 0 + x 2 - x 1
      omega
    | succ k => exact h.pos _ (by omega)
  · rw [pl_crimp]
    obtain ⟨m, hm⟩ : ∃ m, n - 2 = m + 1 := ⟨n - 3, by omega⟩
    rw [hm]
    show pl x (m + 3) = 0
    rw [show m + 3 = n from by omega]
    exact h.shut
end Go.Proofs.YtkdlipbegdiaaaaGreatDoor
namespace Go.Proofs.YtkdlipbegdiaaaaGreatDoor
open Go
/-- the digits of a word read behind a number -/
def numD : List UInt8 → Nat → Option Nat
  | [], a => some a
  | c :: r, a => if c.toNat < 48 ∨ 57 < c.toNat then none else numD r (a * 10 + (c.toNat - 48))
theorem numD_cons (c : UInt8) (r : List UInt8) (a : Nat) : numD (c :: r) a = if c.toNat < 48 ∨ 57 < c.toNat then none else numD r (a * 10 + (c.toNat - 48)) := rfl
/-- the number that a word tells -/
def numV (s : List UInt8) : Nat := if s.length < 1 ∨ 4 < s.length then 0 else (numD s 0).getD 0
theorem numD_dec : ∀ (b n : Nat), n < b → ∀ (a : Nat) (r : List UInt8), numD (Lib.decDigits n ++ r) a = numD r (a * 10 ^ (Lib.decDigits n).length + n) := by
  intro b
  induction b with
  | zero => intro n h; omega
  | succ b ih =>
    intro n h a r
    by_cases h10 : n < 10
    · rw [Lib.decDigits_one h10]
      have e : (UInt8.ofNat (48 + n)).toNat = 48 + n := by rw [UInt8.toNat_ofNat']; omega
      show (if (UInt8.ofNat (48 + n)).toNat < 48 ∨ 57 < (UInt8.ofNat (48 + n)).toNat then none else numD r (a * 10 + ((UInt8.ofNat (48 + n)).toNat - 48))) = _
      rw [e, if_neg (by omega)]
      congr 1
      simp
    · rw [Lib.decDigits, dif_neg h10, List.append_assoc, ih (n / 10) (by omega)]
      have e : (UInt8.ofNat (48 + n % 10)).toNat = 48 + n % 10 := by rw [UInt8.toNat_ofNat']; omega
      show (if (UInt8.ofNat (48 + n % 10)).toNat < 48 ∨ 57 < (UInt8.ofNat (48 + n % 10)).toNat then none else numD r (_ * 10 + ((UInt8.ofNat (48 + n % 10)).toNat - 48))) = _
      rw [e, if_neg (by omega)]
      congr 1
      rw [List.length_append, List.length_singleton, Nat.pow_succ, Nat.add_mul, Nat.mul_assoc]
      omega
theorem decDigits_pos : ∀ (n : Nat), 1 ≤ (Lib.decDigits n).length := by
  intro n
  by_cases h10 : n < 10
  · rw [Lib.decDigits_one h10]; simp
  · rw [Lib.decDigits, dif_neg h10, List.length_append]; simp
theorem decDigits_step {n m k : Nat} (h : n < m * 10) (ih : n / 10 < m → (Lib.decDigits (n / 10)).length ≤ k) : (Lib.decDigits n).length ≤ k + 1 := by
  by_cases h10 : n < 10
  · rw [Lib.decDigits_one h10]; simp
  · rw [Lib.decDigits, dif_neg h10, List.length_append]
    have := ih (by omega)
    simp; omega
theorem decDigits_one_le {n : Nat} (h : n < 10) : (Lib.decDigits n).length ≤ 1 := by rw [Lib.decDigits_one h]; simp
theorem decDigits_four {n : Nat} (h : n < 10000) : (Lib.decDigits n).length ≤ 4 :=
  decDigits_step (m := 1000) (by omega) fun h => decDigits_step (m := 100) (by omega) fun h => decDigits_step (m := 10) (by omega) fun h => decDigits_one_le h
theorem numV_dec {n : Nat} (h : n < 10000) : numV (Lib.decDigits n) = n := by
  unfold numV
  have h1 := decDigits_pos n
  have h4 := decDigits_four h
  rw [if_neg (by omega)]
  have := numD_dec (n + 1) n (by omega) 0 []
  rw [List.append_nil] at this
  rw [this]
  show (some _).getD 0 = n
  simp
theorem dec_no {c : UInt8} (hc : c.toNat < 48) : ∀ (b n : Nat), n < b → c ∉ Lib.decDigits n := by
  intro b
  induction b with
  | zero => intro n h; omega
  | succ b ih =>
    intro n h hm
    by_cases h10 : n < 10
    · rw [Lib.decDigits_one h10, List.mem_singleton] at hm
      subst hm
      rw [UInt8.toNat_ofNat'] at hc; omega
    · rw [Lib.decDigits, dif_neg h10, List.mem_append, List.mem_singleton] at hm
      rcases hm with hm | hm
      · exact ih (n / 10) (by omega) hm
      · subst hm
        rw [UInt8.toNat_ofNat'] at hc; omega
/-- the name of a kind of line -/
def cmdName : Nat → List UInt8
  | 0 => [97, 110, 103, 108, 101, 115]
  | 1 => [102, 111, 108, 100, 115]
  | 2 => [109, 97, 110, 121]
  | 3 => [102, 105, 114, 115, 116]
  | 4 => [116, 101, 115, 116]
  | 5 => [99, 114, 105, 109, 112]
  | 6 => [115, 116, 114, 105, 112]
  | 7 => [115, 116, 97, 99, 107]
  | 8 => [119, 111, 114, 100]
  | _ => [115, 116, 97, 109, 112, 115]
/-- how many further words it has at least -/
def cmdLeast : Nat → Nat
  | 0 => 1
  | 1 => 1
  | 2 => 0
  | 3 => 0
  | 4 => 0
  | 5 => 1
  | 6 => 2
  | 7 => 1
  | 8 => 1
  | _ => 1
/-- and at most -/
def cmdMost : Nat → Nat
  | 0 => 301
  | 1 => 1
  | 2 => 0
  | 3 => 0
  | 4 => 0
  | 5 => 1
  | 6 => 301
  | 7 => 1
  | 8 => 1
  | _ => 1
/-- whether a line's words are of a kind -/
def cmdIs (k : Nat) (x : List UInt8) (m : Nat) : Bool := cmdName k == x && decide (cmdLeast k ≤ m) && decide (m ≤ cmdMost k)
theorem cmdName_inj {i j : Nat} (hi : i < 10) (hj : j < 10) (h : cmdName i = cmdName j) : i = j := by
  have : ∀ i : Fin 10, ∀ j : Fin 10, cmdName i = cmdName j → i = j := by decide
  exact congrArg Fin.val (this ⟨i, hi⟩ ⟨j, hj⟩ h)
end Go.Proofs.YtkdlipbegdiaaaaGreatDoor
