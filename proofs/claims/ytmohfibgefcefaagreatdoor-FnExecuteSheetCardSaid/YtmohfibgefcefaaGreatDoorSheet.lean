/- Sheets folded letter by letter, and the creases round a corner. No program. -/
namespace Go.Proofs.YtmohfibgefcefaaGreatDoor

/-- a cell as it lies in a stack: its row, its column, is its upper side up, does its head point up -/
abbrev Cl := Nat × Nat × Bool × Bool
/-- a cell turned over -/
def clT (high : Bool) (c : Cl) : Cl := (c.1, c.2.1, !c.2.2.1, c.2.2.2 ^^ high)
/-- does a letter fold the height -/
def highB (c : UInt8) : Bool := decide (c = 85) || decide (c = 68) || decide (c = 117) || decide (c = 100)
def wideL (c : UInt8) : Bool := decide (c = 82) || decide (c = 76) || decide (c = 114) || decide (c = 108)
/-- does the first half move -/
def firstB (c : UInt8) : Bool := decide (c = 85) || decide (c = 76) || decide (c = 117) || decide (c = 108)
def underB (c : UInt8) : Bool := decide (97 ≤ c.toNat)
/-- the place that stays, the place that moves -/
def stay (i half : Nat) (first : Bool) : Nat := if first then half + i else i
def moved (i half : Nat) (first : Bool) : Nat := if first then half - 1 - i else 2 * half - 1 - i
/-- a stack turned and put onto another -/
def putS (a b : List Cl) (high under : Bool) : List Cl := if under then (b.reverse.map (clT high)) ++ a else a ++ b.reverse.map (clT high)
/-- the stacks of a sheet: rows, columns, row by row -/
abbrev Sh := Nat × Nat × List (List Cl)
def shAt (S : Sh) (i j : Nat) : List Cl := (S.2.2[i * S.2.1 + j]?).getD []
/-- a row of a folded sheet -/
def foldW (S : Sh) (first under : Bool) : Sh :=
  (S.1, S.2.1 / 2, (List.range S.1).flatMap fun i => (List.range (S.2.1 / 2)).map fun j => putS (shAt S i (stay j (S.2.1 / 2) first)) (shAt S i (moved j (S.2.1 / 2) first)) false under)
def foldH (S : Sh) (first under : Bool) : Sh :=
  (S.1 / 2, S.2.1, (List.range (S.1 / 2)).flatMap fun i => (List.range S.2.1).map fun j => putS (shAt S (stay i (S.1 / 2) first) j) (shAt S (moved i (S.1 / 2) first) j) true under)
def foldC (S : Sh) (c : UInt8) : Sh := if highB c then foldH S (firstB c) (underB c) else foldW S (firstB c) (underB c)
/-- rows and columns of a text -/
def rowsT (l : List UInt8) : Nat := 2 ^ (l.countP highB)
def colsT (l : List UInt8) : Nat := 2 ^ (l.countP wideL)
def newSh (h w : Nat) : Sh := (h, w, (List.range h).flatMap fun i => (List.range w).map fun j => [(i, j, true, true)])
def foldAll (S : Sh) (l : List UInt8) : Sh := l.foldl foldC S
/-- the stack of a text -/
def stackT (l : List UInt8) : List Cl := shAt (foldAll (newSh (rowsT l) (colsT l)) l) 0 0
/-- does a text fold a sheet -/
def shB (l : List UInt8) : Bool := decide (l.length ≤ 5) && l.all fun c => wideL c || highB c
/-- the level of a cell -/
def levelT (S : List Cl) (r c : Nat) : Option Nat := S.findIdx? fun x => decide (x.1 = r) && decide (x.2.1 = c)
/-- the crease between two cells: of two levels -/
def creaseT (S : List Cl) (a b : Nat) : UInt8 := if ((S[min a b]?).getD (0, 0, false, false)).2.2.1 then 86 else 77
def crsT (S : List Cl) (r c r' c' : Nat) : List UInt8 := match levelT S r c, levelT S r' c' with
  | some a, some b => [creaseT S a b]
  | _, _ => []
/-- the creases round the lower right corner of a cell -/
def cornerT (S : List Cl) (r c : Nat) : List UInt8 := crsT S r c r (c + 1) ++ crsT S r (c + 1) (r + 1) (c + 1) ++ crsT S (r + 1) c (r + 1) (c + 1) ++ crsT S r c (r + 1) c
/-- four creases, three alike -/
def threeB (l : List UInt8) : Bool := decide (l.length = 4) && l.all (fun c => decide (c = 77) || decide (c = 86)) && decide (l.countP (fun c => decide (c = 86)) % 2 = 1)
/-- every corner of a text -/
def cornersB (l : List UInt8) : Bool := (List.range (rowsT l - 1)).all fun r => (List.range (colsT l - 1)).all fun c => threeB (cornerT (stackT l) r c)
def letters : List UInt8 := [82, 76, 114, 108, 85, 68, 117, 100]
def textsN : Nat → List (List UInt8)
  | 0 => [[]]
  | n + 1 => (textsN n).flatMap fun t => letters.map fun c => c :: t
/-- one corner, by its four levels -/
def cor4 (T : List Cl) (r c : Nat) : Bool := match levelT T r c, levelT T r (c + 1), levelT T (r + 1) (c + 1), levelT T (r + 1) c with
  | some a, some b, some d, some e => threeB [creaseT T a b, creaseT T b d, creaseT T e d, creaseT T a e]
  | _, _, _, _ => false
def chkT (T : List Cl) (R C : Nat) : Bool :=
  T.all (fun x => Nat.blt x.1 R && Nat.blt x.2.1 C) &&
  (List.range (R - 1)).all (fun r => (List.range (C - 1)).all fun c => cor4 T r c)
/-- is every corner of a text right -/
def chkB (l : List UInt8) : Bool := chkT (stackT l) (rowsT l) (colsT l)
end Go.Proofs.YtmohfibgefcefaaGreatDoor
