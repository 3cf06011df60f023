/- Rings of folds and angles as words that are read round: a crimp takes two folds and three angles for one angle; any order of crimps ends alike. No program, no condition. Sheets folded letter by letter, and the creases round a corner. No program. Patterns with other numbers of creases: a vertex left out, two patterns joined. No program, no condition. Rings laid flat, told by the order of their places alone: which folds some order of layers has. No program, no condition. The tables of rings laid flat: turned, crimped, and without a crimp. No program, no condition. Patterns of the places of a ring: ranks, turned and crimped. No program, no condition. -/
import Derived.Test.YtkdlipbegdiaaaaGreatDoorEzBP0
namespace Go.Proofs.YtkdlipbegdiaaaaGreatDoor
inductive Ltr where
  | F (f : Nat)
  | X (x : Int)
/-- two words are one, read round -/
def Rot (l m : List Ltr) : Prop := ∃ u v, l = u ++ v ∧ m = v ++ u
theorem Rot.refl (l : List Ltr) : Rot l l := ⟨[], l, rfl, by simp⟩
theorem Rot.symm {l m : List Ltr} (h : Rot l m) : Rot m l := by
  obtain ⟨u, v, rfl, rfl⟩ := h
  exact ⟨v, u, rfl, rfl⟩
theorem Rot.trans {l m k : List Ltr} (h : Rot l m) (h' : Rot m k) : Rot l k := by
  obtain ⟨u, v, rfl, rfl⟩ := h
  obtain ⟨s, t, e, rfl⟩ := h'
  rcases List.append_eq_append_iff.1 e with ⟨a, rfl, rfl⟩ | ⟨c, rfl, rfl⟩
  · exact ⟨a, t ++ v, by simp, by simp⟩
  · exact ⟨u ++ s, c, by simp, by simp⟩
theorem Rot.len {l m : List Ltr} (h : Rot l m) : l.length = m.length := by
  obtain ⟨u, v, rfl, rfl⟩ := h
  simp [Nat.add_comm]
theorem Rot.mem {l m : List Ltr} (h : Rot l m) (y : Ltr) : y ∈ l ↔ y ∈ m := by
  obtain ⟨u, v, rfl, rfl⟩ := h
  simp [or_comm]
theorem rot_mk (u v : List Ltr) : Rot (u ++ v) (v ++ u) := ⟨u, v, rfl, rfl⟩
def Step (l m : List Ltr) : Prop := ∃ (a : Int) (g : Nat) (b : Int) (h : Nat) (c : Int) (rest : List Ltr),
  Rot l (.X a :: .F g :: .X b :: .F h :: .X c :: rest) ∧ Rot (.X (a + c - b) :: rest) m ∧ g ≠ h ∧ (∀ x, .X x ∈ l → b ≤ x) ∧ 3 ≤ rest.length
inductive Down : List Ltr → Prop
  | two (a : Int) (f : Nat) (l : List Ltr) : Rot l [.X a, .F f, .X a, .F f] → Down l
  | step (l m : List Ltr) : Step l m → Down m → Down l
theorem Step.rot_l {l l' m : List Ltr} (h : Step l m) (r : Rot l l') : Step l' m := by
  obtain ⟨a, g, b, hh, c, rest, r1, r2, hne, hmin, hlen⟩ := h
  exact ⟨a, g, b, hh, c, rest, r.symm.trans r1, r2, hne, fun x hx => hmin x ((r.mem _).2 hx), hlen⟩
theorem Down.rot {l m : List Ltr} (h : Down l) (r : Rot l m) : Down m := by
  cases h with
  | two a f _ r' => exact .two a f _ (r.symm.trans r')
  | step _ k s d => exact .step _ k (s.rot_l r) d
theorem Step.len {l m : List Ltr} (h : Step l m) : l.length = m.length + 4 := by
  obtain ⟨a, g, b, hh, c, rest, r1, r2, hne, hmin, hlen⟩ := h
  rw [r1.len, ← r2.len]; simp
theorem Step.len8 {l m : List Ltr} (h : Step l m) : 8 ≤ l.length := by
  obtain ⟨a, g, b, hh, c, rest, r1, r2, hne, hmin, hlen⟩ := h
  rw [r1.len]; simp; omega
/-- folds are of two kinds -/
def Bin (l : List Ltr) : Prop := ∀ f, Ltr.F f ∈ l → f = 77 ∨ f = 86
theorem Bin.rot {l m : List Ltr} (h : Bin l) (r : Rot l m) : Bin m := fun f hf => h f ((r.mem _).2 hf)
theorem Step.bin {l m : List Ltr} (h : Step l m) (hb : Bin l) : Bin m := by
  obtain ⟨a, g, b, hh, c, rest, r1, r2, hne, hmin, hlen⟩ := h
  intro f hf
  have := (r2.mem _).2 hf
  simp at this
  exact hb f ((r1.mem _).2 (by simp [this]))
theorem down_dead {a b : Int} {g h : Nat} (hne : g ≠ h) : ¬ Down [.X a, .F g, .X b, .F h] := by
  intro d
  cases d with
  | two c f _ r =>
    have h1 := (r.mem (.F g)).1 (by simp)
    have h2 := (r.mem (.F h)).1 (by simp)
    simp at h1 h2
    omega
  | step _ m s _ => have := s.len8; simp at this
theorem step_mk {a b c : Int} {g h : Nat} {rest m : List Ltr} {l : List Ltr} (r1 : Rot l (.X a :: .F g :: .X b :: .F h :: .X c :: rest)) (r2 : Rot (.X (a + c - b) :: rest) m) (hne : g ≠ h) (hmin : ∀ x, Ltr.X x ∈ l → b ≤ x) (hlen : 3 ≤ rest.length) : Step l m :=
  ⟨a, g, b, h, c, rest, r1, r2, hne, hmin, hlen⟩
/-- two crimps of one word: their ends are one, or meet in one crimp more, or lead nowhere -/
theorem diamond {l m1 m2 : List Ltr} (s1 : Step l m1) (s2 : Step l m2) (h4 : l.length % 4 = 0) (hb : Bin l) :
    Rot m1 m2 ∨ (∃ k, Step m1 k ∧ Step m2 k) ∨ ¬ Down m1 := by
  obtain ⟨a, g, b, h, c, rest, r1, r2, hne, hmin, hlen⟩ := s1
  obtain ⟨a', g', b', h', c', rest', r1', r2', hne', hmin', hlen'⟩ := s2
  have hl := r1.len
  have hl' := r1'.len
  simp at hl hl'
  have hab : ∀ x, Ltr.X x ∈ (Ltr.X a :: .F g :: .X b :: .F h :: .X c :: rest) → b ≤ x := fun x hx => hmin x ((r1.mem _).2 hx)
  have hab' : ∀ x, Ltr.X x ∈ (Ltr.X a' :: .F g' :: .X b' :: .F h' :: .X c' :: rest') → b' ≤ x := fun x hx => hmin' x ((r1'.mem _).2 hx)
  have hbb : Bin (Ltr.X a :: .F g :: .X b :: .F h :: .X c :: rest) := hb.rot r1
  have hbb' : Bin (Ltr.X a' :: .F g' :: .X b' :: .F h' :: .X c' :: rest') := hb.rot r1'
  have e1 : b' = b := by
    have x1 := hmin b' ((r1'.mem _).2 (by simp))
    have x2 := hmin' b ((r1.mem _).2 (by simp))
    omega
  subst e1
  have ha := hab a (by simp)
  have hc := hab c (by simp)
  have ha' := hab' a' (by simp)
  have hc' := hab' c' (by simp)
  have bg := hbb g (by simp)
  have bh := hbb h (by simp)
  have bg' := hbb' g' (by simp)
  have bh' := hbb' h' (by simp)
  have hR : ∀ x, Ltr.X x ∈ rest → b' ≤ x := fun x hx => hab x (by simp [hx])
  have hR' : ∀ x, Ltr.X x ∈ rest' → b' ≤ x := fun x hx => hab' x (by simp [hx])
  have hM1 : ∀ x, Ltr.X x ∈ m1 → b' ≤ x := by
    intro x hx
    have := (r2.mem _).2 hx
    simp at this
    rcases this with e | e
    · omega
    · exact hR x e
  have hM2 : ∀ x, Ltr.X x ∈ m2 → b' ≤ x := by
    intro x hx
    have := (r2'.mem _).2 hx
    simp at this
    rcases this with e | e
    · omega
    · exact hR' x e
  obtain ⟨p, q, ep, eq⟩ := r1.symm.trans r1'
  match p, ep with
  | [], ep =>
    simp at ep eq
    rw [← ep] at eq
    simp at eq
    obtain ⟨rfl, rfl, rfl, rfl, rfl⟩ := eq
    exact Or.inl (r2.symm.trans r2')
  | [_], ep => simp at ep; obtain ⟨rfl, rfl⟩ := ep; simp at eq
  | [_, _], ep =>
    simp at ep
    obtain ⟨rfl, rfl, rfl⟩ := ep
    match rest, eq, hlen with
    | y1 :: y2 :: r, eq, _ =>
      simp at eq
      obtain ⟨rfl, rfl, rfl, rfl, rfl, rfl⟩ := eq
      left
      refine r2.symm.trans (Rot.trans ?_ r2')
      have e2 : g = h' := by omega
      subst e2
      rw [show a + a' - a' = a from by omega, show a' + c' - a' = c' from by omega]
      exact rot_mk [.X a, .F g] (.X c' :: r)
    | [_], _, hlen => simp at hlen
    | [], _, hlen => simp at hlen
  | [_, _, _], ep => simp at ep; obtain ⟨rfl, rfl, rfl, rfl⟩ := ep; simp at eq
  | [_, _, _, _], ep =>
    simp at ep
    obtain ⟨rfl, rfl, rfl, rfl, rfl⟩ := ep
    match rest, eq, hlen with
    | [y1, y2, y3], eq, _ =>
      simp at eq
      obtain ⟨rfl, rfl, rfl, rfl, _⟩ := eq
      right; right
      intro d
      exact down_dead hne' (d.rot r2.symm)
    | y1 :: y2 :: y3 :: y4 :: r, eq, _ =>
      simp at eq
      obtain ⟨rfl, rfl, rfl, rfl, rfl, rfl⟩ := eq
      have h3 : 3 ≤ r.length := by simp at hl; omega
      right; left
      refine ⟨.X (a + a' - b' + c' - b') :: r, step_mk r2.symm (Rot.refl _) hne' hM1 h3, step_mk (a := a) (g := g) (b := b') (h := h) (c := a' + c' - b') (rest := r) ?_ ?_ hne hM2 h3⟩
      · exact r2'.symm.trans (rot_mk (.X (a' + c' - b') :: r) [.X a, .F g, .X b', .F h])
      · rw [show a + (a' + c' - b') - b' = a + a' - b' + c' - b' from by omega]; exact Rot.refl _
    | [_, _], _, hlen => simp at hlen
    | [_], _, hlen => simp at hlen
    | [], _, hlen => simp at hlen
  | y1 :: y2 :: y3 :: y4 :: y5 :: p', ep =>
    simp at ep
    obtain ⟨rfl, rfl, rfl, rfl, rfl, rfl⟩ := ep
    match q, eq with
    | [], eq =>
      simp at eq
      obtain ⟨rfl, rfl, rfl, rfl, rfl⟩ := eq
      left
      simp only [List.append_nil] at r2
      exact r2.symm.trans r2'
    | [_], eq => simp at eq
    | [_, _], eq =>
      simp at eq
      obtain ⟨rfl, rfl, rfl, rfl, rfl, rfl⟩ := eq
      left
      refine r2.symm.trans (Rot.trans ?_ r2')
      have e2 : g' = h := by omega
      subst e2
      rw [show c' + c - c' = c from by omega, show a' + c' - c' = a' from by omega]
      exact rot_mk (.X c :: p') [.X a', .F g']
    | [_, _, _], eq => simp at eq
    | [_, _, _, _], eq =>
      simp at eq
      obtain ⟨rfl, rfl, rfl, rfl, rfl, rfl⟩ := eq
      have h3 : 3 ≤ p'.length := by simp at hl; omega
      right; left
      refine ⟨.X (a' + (c' + c - b') - b') :: p', step_mk (a := a') (g := g') (b := b') (h := h') (c := c' + c - b') (rest := p') ?_ (Rot.refl _) hne' hM1 h3, step_mk r2'.symm ?_ hne hM2 h3⟩
      · exact r2.symm.trans (rot_mk (.X (c' + c - b') :: p') [.X a', .F g', .X b', .F h'])
      · rw [show a' + c' - b' + c - b' = a' + (c' + c - b') - b' from by omega]; exact Rot.refl _
    | z1 :: z2 :: z3 :: z4 :: z5 :: q', eq =>
      simp at eq
      obtain ⟨rfl, rfl, rfl, rfl, rfl, rfl⟩ := eq
      have h3 : 3 ≤ p'.length + (q'.length + 1) := by simp at hl; omega
      right; left
      refine ⟨.X (a + c - b') :: p' ++ .X (a' + c' - b') :: q', step_mk (a := a') (g := g') (b := b') (h := h') (c := c') (rest := q' ++ .X (a + c - b') :: p') ?_ ?_ hne' hM1 (by simp; omega), step_mk (a := a) (g := g) (b := b') (h := h) (c := c) (rest := p' ++ .X (a' + c' - b') :: q') ?_ (Rot.refl _) hne hM2 (by simp; omega)⟩
      · exact r2.symm.trans (rot_mk (.X (a + c - b') :: p') (.X a' :: .F g' :: .X b' :: .F h' :: .X c' :: q'))
      · exact rot_mk (.X (a' + c' - b') :: q') (.X (a + c - b') :: p')
      · exact r2'.symm.trans (rot_mk (.X (a' + c' - b') :: q') (.X a :: .F g :: .X b' :: .F h :: .X c :: p'))
/-- whatever crimp is done first, the end is the same -/
theorem Down.any {l : List Ltr} (d : Down l) : ∀ {m : List Ltr}, Step l m → l.length % 4 = 0 → Bin l → Down m := by
  induction d with
  | two a f l r => intro m s _ _; have := s.len8; have := r.len; simp at this; omega
  | step l k s d ih =>
    intro m s' h4 hb
    rcases diamond s s' h4 hb with r | ⟨j, sk, sm⟩ | hd
    · exact d.rot r
    · exact .step _ j sm (ih sk (by have := s.len; omega) (s.bin hb))
    · exact absurd d hd
theorem Rot.map {l m : List Ltr} (h : Rot l m) (t : Ltr → Ltr) : Rot (l.map t) (m.map t) := by
  obtain ⟨u, v, rfl, rfl⟩ := h
  exact ⟨u.map t, v.map t, by simp, by simp⟩
end Go.Proofs.YtkdlipbegdiaaaaGreatDoor
namespace Go.Proofs.YtkdlipbegdiaaaaGreatDoor
/-- a cell as it lies in a stack: its row, its column, is its upper side up, does its head point up -/
abbrev Cl := Nat × Nat × Bool × Bool
/-- a cell turned over -/
def clT (high : Bool) (c : Cl) : Cl := (c.1, c.2.1, !c.2.2.1, c.2.2.2 ^^ high)
/-- does a letter fold the height -/
def highB (c : UInt8) : Bool := decide (c = 85) || decide (c = 68) || decide (c = 117) || decide (c = 100)
def wideL (c : UInt8) : Bool := decide (c = 82) || decide (c = 76) || decide (c = 114) || decide (c = 108)
/-- does the first half move -/
def firstB (c : UInt8) : Bool := decide (c = 85) || decide (c = 76) || decide (c = 117) || decide (c = 108)
def underB (c : UInt8) : Bool := decide (97 ≤ c.toNat)
/-- the place that stays, the place that moves -/
def stay (i half : Nat) (first : Bool) : Nat := if first then half + i else i
def moved (i half : Nat) (first : Bool) : Nat := if first then half - 1 - i else 2 * half - 1 - i
/-- a stack turned and put onto another -/
def putS (a b : List Cl) (high under : Bool) : List Cl := if under then (b.reverse.map (clT high)) ++ a else a ++ b.reverse.map (clT high)
/-- the stacks of a sheet: rows, columns, row by row -/
abbrev Sh := Nat × Nat × List (List Cl)
def shAt (S : Sh) (i j : Nat) : List Cl := (S.2.2[i * S.2.1 + j]?).getD []
/-- a row of a folded sheet -/
def foldW (S : Sh) (first under : Bool) : Sh :=
  (S.1, S.2.1 / 2, (List.range S.1).flatMap fun i => (List.range (S.2.1 / 2)).map fun j => putS (shAt S i (stay j (S.2.1 / 2) first)) (shAt S i (moved j (S.2.1 / 2) first)) false under)
def foldH (S : Sh) (first under : Bool) : Sh :=
  (S.1 / 2, S.2.1, (List.range (S.1 / 2)).flatMap fun i => (List.range S.2.1).map fun j => putS (shAt S (stay i (S.1 / 2) first) j) (shAt S (moved i (S.1 / 2) first) j) true under)
def foldC (S : Sh) (c : UInt8) : Sh := if highB c then foldH S (firstB c) (underB c) else foldW S (firstB c) (underB c)
/-- rows and columns of a text -/
def rowsT (l : List UInt8) : Nat := 2 ^ (l.countP highB)
def colsT (l : List UInt8) : Nat := 2 ^ (l.countP wideL)
def newSh (h w : Nat) : Sh := (h, w, (List.range h).flatMap fun i => (List.range w).map fun j => [(i, j, true, true)])
def foldAll (S : Sh) (l : List UInt8) : Sh := l.foldl foldC S
/-- the stack of a text -/
def stackT (l : List UInt8) : List Cl := shAt (foldAll (newSh (rowsT l) (colsT l)) l) 0 0
/-- does a text fold a sheet -/
def shB (l : List UInt8) : Bool := decide (l.length ≤ 5) && l.all fun c => wideL c || highB c
def letters : List UInt8 := [82, 76, 114, 108, 85, 68, 117, 100]
end Go.Proofs.YtkdlipbegdiaaaaGreatDoor
namespace Go.Proofs.YtkdlipbegdiaaaaGreatDoor
/-- the first t of n numbers filled in -/
def fillTo (f : Nat → Int) (n t : Nat) : List Int := (List.range n).map fun (k : Nat) => if k < t then f k else 0
theorem fillTo_len (f : Nat → Int) (n t : Nat) : (fillTo f n t).length = n := by simp [fillTo]
theorem fillTo_zero (f : Nat → Int) (n : Nat) : fillTo f n 0 = List.replicate n 0 := by
  apply List.ext_getElem?
  intro k
  by_cases hk : k < n <;> simp [fillTo, hk]
theorem fillTo_set (f : Nat → Int) {n t : Nat} : (fillTo f n t).set t (f t) = fillTo f n (t + 1) := by
  apply List.ext_getElem?
  intro k
  rw [List.getElem?_set]
  by_cases hk : k < n
  · by_cases e : t = k
    · subst e
      rw [if_pos rfl, fillTo_len, if_pos hk]
      simp [fillTo, hk]
    · rw [if_neg e]
      simp only [fillTo, List.getElem?_map, List.getElem?_range hk, Option.map_some]
      congr 1
      by_cases q : k < t
      · rw [if_pos q, if_pos (by omega)]
      · rw [if_neg q, if_neg (by omega)]
  · rw [List.getElem?_eq_none (by rw [fillTo_len]; omega), List.getElem?_eq_none (by rw [fillTo_len]; omega)]
    split
    · rw [fillTo_len, if_neg (by omega)]
    · rfl
end Go.Proofs.YtkdlipbegdiaaaaGreatDoor
namespace Go.Proofs.YtkdlipbegdiaaaaGreatDoor
/-- the number k of a list -/
def gd : List Nat → Nat → Nat
  | [], _ => 0
  | x :: _, 0 => x
  | _ :: r, k + 1 => gd r k
/-- strictly between -/
def betN (l a b : Nat) : Bool := (Nat.blt a l && Nat.blt l b) || (Nat.blt b l && Nat.blt l a)
/-- a part that must not lie between two others -/
def okA (lv : List Nat) (t : Nat × Nat × Nat) : Bool := !betN (gd lv t.1) (gd lv t.2.1) (gd lv t.2.2)
/-- two folds that must not cross -/
def okB (lv : List Nat) (t : Nat × Nat × Nat × Nat) : Bool :=
  (betN (gd lv t.2.2.1) (gd lv t.1) (gd lv t.2.1) == betN (gd lv t.2.2.2) (gd lv t.1) (gd lv t.2.1)) && (betN (gd lv t.1) (gd lv t.2.2.1) (gd lv t.2.2.2) == betN (gd lv t.2.1) (gd lv t.2.2.1) (gd lv t.2.2.2))
/-- the letter of the fold k, V or not -/
def bitN (n : Nat) (lv : List Nat) (k : Nat) : Bool := Nat.blt (gd lv ((k + n - 1) % n)) (gd lv k) == Nat.beq (((k + n - 1) % n) % 2) 0
def codeN (n : Nat) (lv : List Nat) : Nat := (List.range n).foldr (fun k a => 2 * a + (bitN n lv k).toNat) 0
def consA (n : Nat) (r : List Nat) : List (Nat × Nat × Nat) := (List.range n).flatMap fun k => ((List.range n).filter fun i => betN (gd r k) (gd r i) (gd r ((i + 1) % n))).map fun i => (i, (k + n - 1) % n, k)
def consB (n : Nat) (r : List Nat) : List (Nat × Nat × Nat × Nat) := (List.range n).flatMap fun k => ((List.range n).filter fun m => Nat.blt k m && Nat.beq (k % 2) (m % 2) && Nat.beq (gd r k) (gd r m)).map fun m => ((k + n - 1) % n, k, (m + n - 1) % n, m)
/-- a pattern of places, what it bars, and its folds with layers that have them -/
abbrev Ent := List Nat × List (Nat × Nat × Nat) × List (Nat × Nat × Nat × Nat) × List (Nat × List Nat)
def soundE (n : Nat) (ps : List (List Nat)) (e : Ent) : Bool := ps.all fun lv => !(e.2.1.all (okA lv) && e.2.2.1.all (okB lv)) || e.2.2.2.any fun c => Nat.beq c.1 (codeN n lv)
def witE (n : Nat) (ps : List (List Nat)) (e : Ent) : Bool := e.2.2.2.all fun c => (ps.any fun p => p == c.2) && e.2.1.all (okA c.2) && e.2.2.1.all (okB c.2) && Nat.beq (codeN n c.2) c.1
def entOk (n : Nat) (ps : List (List Nat)) (e : Ent) : Bool := (e.2.1 == consA n e.1) && (e.2.2.1 == consB n e.1) && soundE n ps e && witE n ps e
def perms2 : List (List Nat) := [[0, 1], [1, 0]]
def perms4 : List (List Nat) := [[0, 1, 2, 3], [0, 1, 3, 2], [0, 2, 1, 3], [0, 2, 3, 1], [0, 3, 1, 2], [0, 3, 2, 1], [1, 0, 2, 3], [1, 0, 3, 2], [1, 2, 0, 3], [1, 2, 3, 0], [1, 3, 0, 2], [1, 3, 2, 0], [2, 0, 1, 3], [2, 0, 3, 1], [2, 1, 0, 3], [2, 1, 3, 0], [2, 3, 0, 1], [2, 3, 1, 0], [3, 0, 1, 2], [3, 0, 2, 1], [3, 1, 0, 2], [3, 1, 2, 0], [3, 2, 0, 1], [3, 2, 1, 0]]
def perms6 : List (List Nat) := [[0, 1, 2, 3, 4, 5], [0, 1, 2, 3, 5, 4], [0, 1, 2, 4, 3, 5], [0, 1, 2, 4, 5, 3], [0, 1, 2, 5, 3, 4], [0, 1, 2, 5, 4, 3], [0, 1, 3, 2, 4, 5], [0, 1, 3, 2, 5, 4], [0, 1, 3, 4, 2, 5], [0, 1, 3, 4, 5, 2], [0, 1, 3, 5, 2, 4], [0, 1, 3, 5, 4, 2], [0, 1, 4, 2, 3, 5], [0, 1, 4, 2, 5, 3], [0, 1, 4, 3, 2, 5], [0, 1, 4, 3, 5, 2], [0, 1, 4, 5, 2, 3], [0, 1, 4, 5, 3, 2], [0, 1, 5, 2, 3, 4], [0, 1, 5, 2, 4, 3], [0, 1, 5, 3, 2, 4], [0, 1, 5, 3, 4, 2], [0, 1, 5, 4, 2, 3], [0, 1, 5, 4, 3, 2], [0, 2, 1, 3, 4, 5], [0, 2, 1, 3, 5, 4], [0, 2, 1, 4, 3, 5], [0, 2, 1, 4, 5, 3], [0, 2, 1, 5, 3, 4], [0, 2, 1, 5, 4, 3], [0, 2, 3, 1, 4, 5], [0, 2, 3, 1, 5, 4], [0, 2, 3, 4, 1, 5], [0, 2, 3, 4, 5, 1], [0, 2, 3, 5, 1, 4], [0, 2, 3, 5, 4, 1], [0, 2, 4, 1, 3, 5], [0, 2, 4, 1, 5, 3], [0, 2, 4, 3, 1, 5], [0, 2, 4, 3, 5, 1], [0, 2, 4, 5, 1, 3], [0, 2, 4, 5, 3, 1], [0, 2, 5, 1, 3, 4], [0, 2, 5, 1, 4, 3], [0, 2, 5, 3, 1, 4], [0, 2, 5, 3, 4, 1], [0, 2, 5, 4, 1, 3], [0, 2, 5, 4, 3, 1], [0, 3, 1, 2, 4, 5], [0, 3, 1, 2, 5, 4], [0, 3, 1, 4, 2, 5], [0, 3, 1, 4, 5, 2], [0, 3, 1, 5, 2, 4], [0, 3, 1, 5, 4, 2], [0, 3, 2, 1, 4, 5], [0, 3, 2, 1, 5, 4], [0, 3, 2, 4, 1, 5], [0, 3, 2, 4, 5, 1], [0, 3, 2, 5, 1, 4], [0, 3, 2, 5, 4, 1], [0, 3, 4, 1, 2, 5], [0, 3, 4, 1, 5, 2], [0, 3, 4, 2, 1, 5], [0, 3, 4, 2, 5, 1], [0, 3, 4, 5, 1, 2], [0, 3, 4, 5, 2, 1], [0, 3, 5, 1, 2, 4], [0, 3, 5, 1, 4, 2], [0, 3, 5, 2, 1, 4], [0, 3, 5, 2, 4, 1], [0, 3, 5, 4, 1, 2], [0, 3, 5, 4, 2, 1], [0, 4, 1, 2, 3, 5], [0, 4, 1, 2, 5, 3], [0, 4, 1, 3, 2, 5], [0, 4, 1, 3, 5, 2], [0, 4, 1, 5, 2, 3], [0, 4, 1, 5, 3, 2], [0, 4, 2, 1, 3, 5], [0, 4, 2, 1, 5, 3], [0, 4, 2, 3, 1, 5], [0, 4, 2, 3, 5, 1], [0, 4, 2, 5, 1, 3], [0, 4, 2, 5, 3, 1], [0, 4, 3, 1, 2, 5], [0, 4, 3, 1, 5, 2], [0, 4, 3, 2, 1, 5], [0, 4, 3, 2, 5, 1], [0, 4, 3, 5, 1, 2], [0, 4, 3, 5, 2, 1], [0, 4, 5, 1, 2, 3], [0, 4, 5, 1, 3, 2], [0, 4, 5, 2, 1, 3], [0, 4, 5, 2, 3, 1], [0, 4, 5, 3, 1, 2], [0, 4, 5, 3, 2, 1], [0, 5, 1, 2, 3, 4], [0, 5, 1, 2, 4, 3], [0, 5, 1, 3, 2, 4], [0, 5, 1, 3, 4, 2], [0, 5, 1, 4, 2, 3], [0, 5, 1, 4, 3, 2], [0, 5, 2, 1, 3, 4], [0, 5, 2, 1, 4, 3], [0, 5, 2, 3, 1, 4], [0, 5, 2, 3, 4, 1], [0, 5, 2, 4, 1, 3], [0, 5, 2, 4, 3, 1], [0, 5, 3, 1, 2, 4], [0, 5, 3, 1, 4, 2], [0, 5, 3, 2, 1, 4], [0, 5, 3, 2, 4, 1], [0, 5, 3, 4, 1, 2], [0, 5, 3, 4, 2, 1], [0, 5, 4, 1, 2, 3], [0, 5, 4, 1, 3, 2], [0, 5, 4, 2, 1, 3], [0, 5, 4, 2, 3, 1], [0, 5, 4, 3, 1, 2], [0, 5, 4, 3, 2, 1], [1, 0, 2, 3, 4, 5], [1, 0, 2, 3, 5, 4], [1, 0, 2, 4, 3, 5], [1, 0, 2, 4, 5, 3], [1, 0, 2, 5, 3, 4], [1, 0, 2, 5, 4, 3], [1, 0, 3, 2, 4, 5], [1, 0, 3, 2, 5, 4], [1, 0, 3, 4, 2, 5], [1, 0, 3, 4, 5, 2], [1, 0, 3, 5, 2, 4], [1, 0, 3, 5, 4, 2], [1, 0, 4, 2, 3, 5], [1, 0, 4, 2, 5, 3], [1, 0, 4, 3, 2, 5], [1, 0, 4, 3, 5, 2], [1, 0, 4, 5, 2, 3], [1, 0, 4, 5, 3, 2], [1, 0, 5, 2, 3, 4], [1, 0, 5, 2, 4, 3], [1, 0, 5, 3, 2, 4], [1, 0, 5, 3, 4, 2], [1, 0, 5, 4, 2, 3], [1, 0, 5, 4, 3, 2], [1, 2, 0, 3, 4, 5], [1, 2, 0, 3, 5, 4], [1, 2, 0, 4, 3, 5], [1, 2, 0, 4, 5, 3], [1, 2, 0, 5, 3, 4], [1, 2, 0, 5, 4, 3], [1, 2, 3, 0, 4, 5], [1, 2, 3, 0, 5, 4], [1, 2, 3, 4, 0, 5], [1, 2, 3, 4, 5, 0], [1, 2, 3, 5, 0, 4], [1, 2, 3, 5, 4, 0], [1, 2, 4, 0, 3, 5], [1, 2, 4, 0, 5, 3], [1, 2, 4, 3, 0, 5], [1, 2, 4, 3, 5, 0], [1, 2, 4, 5, 0, 3], [1, 2, 4, 5, 3, 0], [1, 2, 5, 0, 3, 4], [1, 2, 5, 0, 4, 3], [1, 2, 5, 3, 0, 4], [1, 2, 5, 3, 4, 0], [1, 2, 5, 4, 0, 3], [1, 2, 5, 4, 3, 0], [1, 3, 0, 2, 4, 5], [1, 3, 0, 2, 5, 4], [1, 3, 0, 4, 2, 5], [1, 3, 0, 4, 5, 2], [1, 3, 0, 5, 2, 4], [1, 3, 0, 5, 4, 2], [1, 3, 2, 0, 4, 5], [1, 3, 2, 0, 5, 4], [1, 3, 2, 4, 0, 5], [1, 3, 2, 4, 5, 0], [1, 3, 2, 5, 0, 4], [1, 3, 2, 5, 4, 0], [1, 3, 4, 0, 2, 5], [1, 3, 4, 0, 5, 2], [1, 3, 4, 2, 0, 5], [1, 3, 4, 2, 5, 0], [1, 3, 4, 5, 0, 2], [1, 3, 4, 5, 2, 0], [1, 3, 5, 0, 2, 4], [1, 3, 5, 0, 4, 2], [1, 3, 5, 2, 0, 4], [1, 3, 5, 2, 4, 0], [1, 3, 5, 4, 0, 2], [1, 3, 5, 4, 2, 0], [1, 4, 0, 2, 3, 5], [1, 4, 0, 2, 5, 3], [1, 4, 0, 3, 2, 5], [1, 4, 0, 3, 5, 2], [1, 4, 0, 5, 2, 3], [1, 4, 0, 5, 3, 2], [1, 4, 2, 0, 3, 5], [1, 4, 2, 0, 5, 3], [1, 4, 2, 3, 0, 5], [1, 4, 2, 3, 5, 0], [1, 4, 2, 5, 0, 3], [1, 4, 2, 5, 3, 0], [1, 4, 3, 0, 2, 5], [1, 4, 3, 0, 5, 2], [1, 4, 3, 2, 0, 5], [1, 4, 3, 2, 5, 0], [1, 4, 3, 5, 0, 2], [1, 4, 3, 5, 2, 0], [1, 4, 5, 0, 2, 3], [1, 4, 5, 0, 3, 2], [1, 4, 5, 2, 0, 3], [1, 4, 5, 2, 3, 0], [1, 4, 5, 3, 0, 2], [1, 4, 5, 3, 2, 0], [1, 5, 0, 2, 3, 4], [1, 5, 0, 2, 4, 3], [1, 5, 0, 3, 2, 4], [1, 5, 0, 3, 4, 2], [1, 5, 0, 4, 2, 3], [1, 5, 0, 4, 3, 2], [1, 5, 2, 0, 3, 4], [1, 5, 2, 0, 4, 3], [1, 5, 2, 3, 0, 4], [1, 5, 2, 3, 4, 0], [1, 5, 2, 4, 0, 3], [1, 5, 2, 4, 3, 0], [1, 5, 3, 0, 2, 4], [1, 5, 3, 0, 4, 2], [1, 5, 3, 2, 0, 4], [1, 5, 3, 2, 4, 0], [1, 5, 3, 4, 0, 2], [1, 5, 3, 4, 2, 0], [1, 5, 4, 0, 2, 3], [1, 5, 4, 0, 3, 2], [1, 5, 4, 2, 0, 3], [1, 5, 4, 2, 3, 0], [1, 5, 4, 3, 0, 2], [1, 5, 4, 3, 2, 0], [2, 0, 1, 3, 4, 5], [2, 0, 1, 3, 5, 4], [2, 0, 1, 4, 3, 5], [2, 0, 1, 4, 5, 3], [2, 0, 1, 5, 3, 4], [2, 0, 1, 5, 4, 3], [2, 0, 3, 1, 4, 5], [2, 0, 3, 1, 5, 4], [2, 0, 3, 4, 1, 5], [2, 0, 3, 4, 5, 1], [2, 0, 3, 5, 1, 4], [2, 0, 3, 5, 4, 1], [2, 0, 4, 1, 3, 5], [2, 0, 4, 1, 5, 3], [2, 0, 4, 3, 1, 5], [2, 0, 4, 3, 5, 1], [2, 0, 4, 5, 1, 3], [2, 0, 4, 5, 3, 1], [2, 0, 5, 1, 3, 4], [2, 0, 5, 1, 4, 3], [2, 0, 5, 3, 1, 4], [2, 0, 5, 3, 4, 1], [2, 0, 5, 4, 1, 3], [2, 0, 5, 4, 3, 1], [2, 1, 0, 3, 4, 5], [2, 1, 0, 3, 5, 4], [2, 1, 0, 4, 3, 5], [2, 1, 0, 4, 5, 3], [2, 1, 0, 5, 3, 4], [2, 1, 0, 5, 4, 3], [2, 1, 3, 0, 4, 5], [2, 1, 3, 0, 5, 4], [2, 1, 3, 4, 0, 5], [2, 1, 3, 4, 5, 0], [2, 1, 3, 5, 0, 4], [2, 1, 3, 5, 4, 0], [2, 1, 4, 0, 3, 5], [2, 1, 4, 0, 5, 3], [2, 1, 4, 3, 0, 5], [2, 1, 4, 3, 5, 0], [2, 1, 4, 5, 0, 3], [2, 1, 4, 5, 3, 0], [2, 1, 5, 0, 3, 4], [2, 1, 5, 0, 4, 3], [2, 1, 5, 3, 0, 4], [2, 1, 5, 3, 4, 0], [2, 1, 5, 4, 0, 3], [2, 1, 5, 4, 3, 0], [2, 3, 0, 1, 4, 5], [2, 3, 0, 1, 5, 4], [2, 3, 0, 4, 1, 5], [2, 3, 0, 4, 5, 1], [2, 3, 0, 5, 1, 4], [2, 3, 0, 5, 4, 1], [2, 3, 1, 0, 4, 5], [2, 3, 1, 0, 5, 4], [2, 3, 1, 4, 0, 5], [2, 3, 1, 4, 5, 0], [2, 3, 1, 5, 0, 4], [2, 3, 1, 5, 4, 0], [2, 3, 4, 0, 1, 5], [2, 3, 4, 0, 5, 1], [2, 3, 4, 1, 0, 5], [2, 3, 4, 1, 5, 0], [2, 3, 4, 5, 0, 1], [2, 3, 4, 5, 1, 0], [2, 3, 5, 0, 1, 4], [2, 3, 5, 0, 4, 1], [2, 3, 5, 1, 0, 4], [2, 3, 5, 1, 4, 0], [2, 3, 5, 4, 0, 1], [2, 3, 5, 4, 1, 0], [2, 4, 0, 1, 3, 5], [2, 4, 0, 1, 5, 3], [2, 4, 0, 3, 1, 5], [2, 4, 0, 3, 5, 1], [2, 4, 0, 5, 1, 3], [2, 4, 0, 5, 3, 1], [2, 4, 1, 0, 3, 5], [2, 4, 1, 0, 5, 3], [2, 4, 1, 3, 0, 5], [2, 4, 1, 3, 5, 0], [2, 4, 1, 5, 0, 3], [2, 4, 1, 5, 3, 0], [2, 4, 3, 0, 1, 5], [2, 4, 3, 0, 5, 1], [2, 4, 3, 1, 0, 5], [2, 4, 3, 1, 5, 0], [2, 4, 3, 5, 0, 1], [2, 4, 3, 5, 1, 0], [2, 4, 5, 0, 1, 3], [2, 4, 5, 0, 3, 1], [2, 4, 5, 1, 0, 3], [2, 4, 5, 1, 3, 0], [2, 4, 5, 3, 0, 1], [2, 4, 5, 3, 1, 0], [2, 5, 0, 1, 3, 4], [2, 5, 0, 1, 4, 3], [2, 5, 0, 3, 1, 4], [2, 5, 0, 3, 4, 1], [2, 5, 0, 4, 1, 3], [2, 5, 0, 4, 3, 1], [2, 5, 1, 0, 3, 4], [2, 5, 1, 0, 4, 3], [2, 5, 1, 3, 0, 4], [2, 5, 1, 3, 4, 0], [2, 5, 1, 4, 0, 3], [2, 5, 1, 4, 3, 0], [2, 5, 3, 0, 1, 4], [2, 5, 3, 0, 4, 1], [2, 5, 3, 1, 0, 4], [2, 5, 3, 1, 4, 0], [2, 5, 3, 4, 0, 1], [2, 5, 3, 4, 1, 0], [2, 5, 4, 0, 1, 3], [2, 5, 4, 0, 3, 1], [2, 5, 4, 1, 0, 3], [2, 5, 4, 1, 3, 0], [2, 5, 4, 3, 0, 1], [2, 5, 4, 3, 1, 0], [3, 0, 1, 2, 4, 5], [3, 0, 1, 2, 5, 4], [3, 0, 1, 4, 2, 5], [3, 0, 1, 4, 5, 2], [3, 0, 1, 5, 2, 4], [3, 0, 1, 5, 4, 2], [3, 0, 2, 1, 4, 5], [3, 0, 2, 1, 5, 4], [3, 0, 2, 4, 1, 5], [3, 0, 2, 4, 5, 1], [3, 0, 2, 5, 1, 4], [3, 0, 2, 5, 4, 1], [3, 0, 4, 1, 2, 5], [3, 0, 4, 1, 5, 2], [3, 0, 4, 2, 1, 5], [3, 0, 4, 2, 5, 1], [3, 0, 4, 5, 1, 2], [3, 0, 4, 5, 2, 1], [3, 0, 5, 1, 2, 4], [3, 0, 5, 1, 4, 2], [3, 0, 5, 2, 1, 4], [3, 0, 5, 2, 4, 1], [3, 0, 5, 4, 1, 2], [3, 0, 5, 4, 2, 1], [3, 1, 0, 2, 4, 5], [3, 1, 0, 2, 5, 4], [3, 1, 0, 4, 2, 5], [3, 1, 0, 4, 5, 2], [3, 1, 0, 5, 2, 4], [3, 1, 0, 5, 4, 2], [3, 1, 2, 0, 4, 5], [3, 1, 2, 0, 5, 4], [3, 1, 2, 4, 0, 5], [3, 1, 2, 4, 5, 0], [3, 1, 2, 5, 0, 4], [3, 1, 2, 5, 4, 0], [3, 1, 4, 0, 2, 5], [3, 1, 4, 0, 5, 2], [3, 1, 4, 2, 0, 5], [3, 1, 4, 2, 5, 0], [3, 1, 4, 5, 0, 2], [3, 1, 4, 5, 2, 0], [3, 1, 5, 0, 2, 4], [3, 1, 5, 0, 4, 2], [3, 1, 5, 2, 0, 4], [3, 1, 5, 2, 4, 0], [3, 1, 5, 4, 0, 2], [3, 1, 5, 4, 2, 0], [3, 2, 0, 1, 4, 5], [3, 2, 0, 1, 5, 4], [3, 2, 0, 4, 1, 5], [3, 2, 0, 4, 5, 1], [3, 2, 0, 5, 1, 4], [3, 2, 0, 5, 4, 1], [3, 2, 1, 0, 4, 5], [3, 2, 1, 0, 5, 4], [3, 2, 1, 4, 0, 5], [3, 2, 1, 4, 5, 0], [3, 2, 1, 5, 0, 4], [3, 2, 1, 5, 4, 0], [3, 2, 4, 0, 1, 5], [3, 2, 4, 0, 5, 1], [3, 2, 4, 1, 0, 5], [3, 2, 4, 1, 5, 0], [3, 2, 4, 5, 0, 1], [3, 2, 4, 5, 1, 0], [3, 2, 5, 0, 1, 4], [3, 2, 5, 0, 4, 1], [3, 2, 5, 1, 0, 4], [3, 2, 5, 1, 4, 0], [3, 2, 5, 4, 0, 1], [3, 2, 5, 4, 1, 0], [3, 4, 0, 1, 2, 5], [3, 4, 0, 1, 5, 2], [3, 4, 0, 2, 1, 5], [3, 4, 0, 2, 5, 1], [3, 4, 0, 5, 1, 2], [3, 4, 0, 5, 2, 1], [3, 4, 1, 0, 2, 5], [3, 4, 1, 0, 5, 2], [3, 4, 1, 2, 0, 5], [3, 4, 1, 2, 5, 0], [3, 4, 1, 5, 0, 2], [3, 4, 1, 5, 2, 0], [3, 4, 2, 0, 1, 5], [3, 4, 2, 0, 5, 1], [3, 4, 2, 1, 0, 5], [3, 4, 2, 1, 5, 0], [3, 4, 2, 5, 0, 1], [3, 4, 2, 5, 1, 0], [3, 4, 5, 0, 1, 2], [3, 4, 5, 0, 2, 1], [3, 4, 5, 1, 0, 2], [3, 4, 5, 1, 2, 0], [3, 4, 5, 2, 0, 1], [3, 4, 5, 2, 1, 0], [3, 5, 0, 1, 2, 4], [3, 5, 0, 1, 4, 2], [3, 5, 0, 2, 1, 4], [3, 5, 0, 2, 4, 1], [3, 5, 0, 4, 1, 2], [3, 5, 0, 4, 2, 1], [3, 5, 1, 0, 2, 4], [3, 5, 1, 0, 4, 2], [3, 5, 1, 2, 0, 4], [3, 5, 1, 2, 4, 0], [3, 5, 1, 4, 0, 2], [3, 5, 1, 4, 2, 0], [3, 5, 2, 0, 1, 4], [3, 5, 2, 0, 4, 1], [3, 5, 2, 1, 0, 4], [3, 5, 2, 1, 4, 0], [3, 5, 2, 4, 0, 1], [3, 5, 2, 4, 1, 0], [3, 5, 4, 0, 1, 2], [3, 5, 4, 0, 2, 1], [3, 5, 4, 1, 0, 2], [3, 5, 4, 1, 2, 0], [3, 5, 4, 2, 0, 1], [3, 5, 4, 2, 1, 0], [4, 0, 1, 2, 3, 5], [4, 0, 1, 2, 5, 3], [4, 0, 1, 3, 2, 5], [4, 0, 1, 3, 5, 2], [4, 0, 1, 5, 2, 3], [4, 0, 1, 5, 3, 2], [4, 0, 2, 1, 3, 5], [4, 0, 2, 1, 5, 3], [4, 0, 2, 3, 1, 5], [4, 0, 2, 3, 5, 1], [4, 0, 2, 5, 1, 3], [4, 0, 2, 5, 3, 1], [4, 0, 3, 1, 2, 5], [4, 0, 3, 1, 5, 2], [4, 0, 3, 2, 1, 5], [4, 0, 3, 2, 5, 1], [4, 0, 3, 5, 1, 2], [4, 0, 3, 5, 2, 1], [4, 0, 5, 1, 2, 3], [4, 0, 5, 1, 3, 2], [4, 0, 5, 2, 1, 3], [4, 0, 5, 2, 3, 1], [4, 0, 5, 3, 1, 2], [4, 0, 5, 3, 2, 1], [4, 1, 0, 2, 3, 5], [4, 1, 0, 2, 5, 3], [4, 1, 0, 3, 2, 5], [4, 1, 0, 3, 5, 2], [4, 1, 0, 5, 2, 3], [4, 1, 0, 5, 3, 2], [4, 1, 2, 0, 3, 5], [4, 1, 2, 0, 5, 3], [4, 1, 2, 3, 0, 5], [4, 1, 2, 3, 5, 0], [4, 1, 2, 5, 0, 3], [4, 1, 2, 5, 3, 0], [4, 1, 3, 0, 2, 5], [4, 1, 3, 0, 5, 2], [4, 1, 3, 2, 0, 5], [4, 1, 3, 2, 5, 0], [4, 1, 3, 5, 0, 2], [4, 1, 3, 5, 2, 0], [4, 1, 5, 0, 2, 3], [4, 1, 5, 0, 3, 2], [4, 1, 5, 2, 0, 3], [4, 1, 5, 2, 3, 0], [4, 1, 5, 3, 0, 2], [4, 1, 5, 3, 2, 0], [4, 2, 0, 1, 3, 5], [4, 2, 0, 1, 5, 3], [4, 2, 0, 3, 1, 5], [4, 2, 0, 3, 5, 1], [4, 2, 0, 5, 1, 3], [4, 2, 0, 5, 3, 1], [4, 2, 1, 0, 3, 5], [4, 2, 1, 0, 5, 3], [4, 2, 1, 3, 0, 5], [4, 2, 1, 3, 5, 0], [4, 2, 1, 5, 0, 3], [4, 2, 1, 5, 3, 0], [4, 2, 3, 0, 1, 5], [4, 2, 3, 0, 5, 1], [4, 2, 3, 1, 0, 5], [4, 2, 3, 1, 5, 0], [4, 2, 3, 5, 0, 1], [4, 2, 3, 5, 1, 0], [4, 2, 5, 0, 1, 3], [4, 2, 5, 0, 3, 1], [4, 2, 5, 1, 0, 3], [4, 2, 5, 1, 3, 0], [4, 2, 5, 3, 0, 1], [4, 2, 5, 3, 1, 0], [4, 3, 0, 1, 2, 5], [4, 3, 0, 1, 5, 2], [4, 3, 0, 2, 1, 5], [4, 3, 0, 2, 5, 1], [4, 3, 0, 5, 1, 2], [4, 3, 0, 5, 2, 1], [4, 3, 1, 0, 2, 5], [4, 3, 1, 0, 5, 2], [4, 3, 1, 2, 0, 5], [4, 3, 1, 2, 5, 0], [4, 3, 1, 5, 0, 2], [4, 3, 1, 5, 2, 0], [4, 3, 2, 0, 1, 5], [4, 3, 2, 0, 5, 1], [4, 3, 2, 1, 0, 5], [4, 3, 2, 1, 5, 0], [4, 3, 2, 5, 0, 1], [4, 3, 2, 5, 1, 0], [4, 3, 5, 0, 1, 2], [4, 3, 5, 0, 2, 1], [4, 3, 5, 1, 0, 2], [4, 3, 5, 1, 2, 0], [4, 3, 5, 2, 0, 1], [4, 3, 5, 2, 1, 0], [4, 5, 0, 1, 2, 3], [4, 5, 0, 1, 3, 2], [4, 5, 0, 2, 1, 3], [4, 5, 0, 2, 3, 1], [4, 5, 0, 3, 1, 2], [4, 5, 0, 3, 2, 1], [4, 5, 1, 0, 2, 3], [4, 5, 1, 0, 3, 2], [4, 5, 1, 2, 0, 3], [4, 5, 1, 2, 3, 0], [4, 5, 1, 3, 0, 2], [4, 5, 1, 3, 2, 0], [4, 5, 2, 0, 1, 3], [4, 5, 2, 0, 3, 1], [4, 5, 2, 1, 0, 3], [4, 5, 2, 1, 3, 0], [4, 5, 2, 3, 0, 1], [4, 5, 2, 3, 1, 0], [4, 5, 3, 0, 1, 2], [4, 5, 3, 0, 2, 1], [4, 5, 3, 1, 0, 2], [4, 5, 3, 1, 2, 0], [4, 5, 3, 2, 0, 1], [4, 5, 3, 2, 1, 0], [5, 0, 1, 2, 3, 4], [5, 0, 1, 2, 4, 3], [5, 0, 1, 3, 2, 4], [5, 0, 1, 3, 4, 2], [5, 0, 1, 4, 2, 3], [5, 0, 1, 4, 3, 2], [5, 0, 2, 1, 3, 4], [5, 0, 2, 1, 4, 3], [5, 0, 2, 3, 1, 4], [5, 0, 2, 3, 4, 1], [5, 0, 2, 4, 1, 3], [5, 0, 2, 4, 3, 1], [5, 0, 3, 1, 2, 4], [5, 0, 3, 1, 4, 2], [5, 0, 3, 2, 1, 4], [5, 0, 3, 2, 4, 1], [5, 0, 3, 4, 1, 2], [5, 0, 3, 4, 2, 1], [5, 0, 4, 1, 2, 3], [5, 0, 4, 1, 3, 2], [5, 0, 4, 2, 1, 3], [5, 0, 4, 2, 3, 1], [5, 0, 4, 3, 1, 2], [5, 0, 4, 3, 2, 1], [5, 1, 0, 2, 3, 4], [5, 1, 0, 2, 4, 3], [5, 1, 0, 3, 2, 4], [5, 1, 0, 3, 4, 2], [5, 1, 0, 4, 2, 3], [5, 1, 0, 4, 3, 2], [5, 1, 2, 0, 3, 4], [5, 1, 2, 0, 4, 3], [5, 1, 2, 3, 0, 4], [5, 1, 2, 3, 4, 0], [5, 1, 2, 4, 0, 3], [5, 1, 2, 4, 3, 0], [5, 1, 3, 0, 2, 4], [5, 1, 3, 0, 4, 2], [5, 1, 3, 2, 0, 4], [5, 1, 3, 2, 4, 0], [5, 1, 3, 4, 0, 2], [5, 1, 3, 4, 2, 0], [5, 1, 4, 0, 2, 3], [5, 1, 4, 0, 3, 2], [5, 1, 4, 2, 0, 3], [5, 1, 4, 2, 3, 0], [5, 1, 4, 3, 0, 2], [5, 1, 4, 3, 2, 0], [5, 2, 0, 1, 3, 4], [5, 2, 0, 1, 4, 3], [5, 2, 0, 3, 1, 4], [5, 2, 0, 3, 4, 1], [5, 2, 0, 4, 1, 3], [5, 2, 0, 4, 3, 1], [5, 2, 1, 0, 3, 4], [5, 2, 1, 0, 4, 3], [5, 2, 1, 3, 0, 4], [5, 2, 1, 3, 4, 0], [5, 2, 1, 4, 0, 3], [5, 2, 1, 4, 3, 0], [5, 2, 3, 0, 1, 4], [5, 2, 3, 0, 4, 1], [5, 2, 3, 1, 0, 4], [5, 2, 3, 1, 4, 0], [5, 2, 3, 4, 0, 1], [5, 2, 3, 4, 1, 0], [5, 2, 4, 0, 1, 3], [5, 2, 4, 0, 3, 1], [5, 2, 4, 1, 0, 3], [5, 2, 4, 1, 3, 0], [5, 2, 4, 3, 0, 1], [5, 2, 4, 3, 1, 0], [5, 3, 0, 1, 2, 4], [5, 3, 0, 1, 4, 2], [5, 3, 0, 2, 1, 4], [5, 3, 0, 2, 4, 1], [5, 3, 0, 4, 1, 2], [5, 3, 0, 4, 2, 1], [5, 3, 1, 0, 2, 4], [5, 3, 1, 0, 4, 2], [5, 3, 1, 2, 0, 4], [5, 3, 1, 2, 4, 0], [5, 3, 1, 4, 0, 2], [5, 3, 1, 4, 2, 0], [5, 3, 2, 0, 1, 4], [5, 3, 2, 0, 4, 1], [5, 3, 2, 1, 0, 4], [5, 3, 2, 1, 4, 0], [5, 3, 2, 4, 0, 1], [5, 3, 2, 4, 1, 0], [5, 3, 4, 0, 1, 2], [5, 3, 4, 0, 2, 1], [5, 3, 4, 1, 0, 2], [5, 3, 4, 1, 2, 0], [5, 3, 4, 2, 0, 1], [5, 3, 4, 2, 1, 0], [5, 4, 0, 1, 2, 3], [5, 4, 0, 1, 3, 2], [5, 4, 0, 2, 1, 3], [5, 4, 0, 2, 3, 1], [5, 4, 0, 3, 1, 2], [5, 4, 0, 3, 2, 1], [5, 4, 1, 0, 2, 3], [5, 4, 1, 0, 3, 2], [5, 4, 1, 2, 0, 3], [5, 4, 1, 2, 3, 0], [5, 4, 1, 3, 0, 2], [5, 4, 1, 3, 2, 0], [5, 4, 2, 0, 1, 3], [5, 4, 2, 0, 3, 1], [5, 4, 2, 1, 0, 3], [5, 4, 2, 1, 3, 0], [5, 4, 2, 3, 0, 1], [5, 4, 2, 3, 1, 0], [5, 4, 3, 0, 1, 2], [5, 4, 3, 0, 2, 1], [5, 4, 3, 1, 0, 2], [5, 4, 3, 1, 2, 0], [5, 4, 3, 2, 0, 1], [5, 4, 3, 2, 1, 0]]
end Go.Proofs.YtkdlipbegdiaaaaGreatDoor
namespace Go.Proofs.YtkdlipbegdiaaaaGreatDoor
/-- the folds of a pattern, looked up -/
def look (tab : List Ent) (r : List Nat) : List Nat := match tab.find? (fun e => e.1 == r) with
  | some e => e.2.2.2.map Prod.fst
  | none => []
/-- lists that go up and down -/
def upDown (n : Nat) : Nat → List (List Nat)
  | 0 => [[]]
  | k + 1 => (upDown n k).flatMap fun t => ((List.range n).filter fun v => match t with
    | [] => true
    | y :: _ => if (n - 1 - k) % 2 = 0 then Nat.blt v y else Nat.blt y v).map fun v => v :: t
def goodN (n : Nat) (r : List Nat) : Bool := Nat.blt (gd r 0) (gd r (n - 1)) && (List.range n).all fun i => Nat.beq (gd r i) ((List.range n).countP fun j => Nat.blt (gd r j) (gd r i))
def patsOk (n : Nat) (tab : List Ent) : Bool := ((upDown n n).filter (goodN n)).all fun r => tab.any fun e => e.1 == r
/-- the pattern turned by one -/
def rotN (n : Nat) (r : List Nat) : List Nat := (List.range n).map fun i => (List.range n).countP fun j => Nat.blt (gd r ((i + 1) % n)) (gd r ((j + 1) % n))
def rotC (n c : Nat) : Nat := c / 2 + (c % 2) * 2 ^ (n - 1)
def chkR (n : Nat) (tab : List Ent) : Bool := tab.all fun e => e.2.2.2.all fun c => (look tab (rotN n e.1)).any fun d => Nat.beq d (rotC n c.1)
/-- the pattern crimped at the part 1 -/
def sgN (j : Nat) : Nat := match j with | 0 => 0 | k + 1 => k + 3
end Go.Proofs.YtkdlipbegdiaaaaGreatDoor
namespace Go.Proofs.YtkdlipbegdiaaaaGreatDoor
/-- where the part k of a ring begins -/
def pl (x : Nat → Int) : Nat → Int
  | 0 => 0
  | k + 1 => if k % 2 = 0 then pl x k + x k else pl x k - x k
theorem gd_eq (l : List Nat) (k : Nat) : gd l k = (l[k]?).getD 0 := by
  induction l generalizing k with
  | nil => cases k <;> rfl
  | cons x r ih =>
    cases k with
    | zero => rfl
    | succ k => exact (ih k).trans (by simp)
/-- a ring of n parts that closes -/
structure RingF (n : Nat) (x : Nat → Int) (f : Nat → Nat) : Prop where
  size : n = 2 ∨ n = 4 ∨ n = 6
  pos : ∀ k, k < n → 1 ≤ x k
  shut : pl x n = 0
  bin : ∀ k, k < n → f k = 77 ∨ f k = 86
/-- crimped at the part 1 -/
def crX (x : Nat → Int) : Nat → Int := fun j => match j with | 0 => x 0 + x 2 - x 1 | k + 1 => x (k + 3)
def crF (f : Nat → Nat) : Nat → Nat := fun j => f (sgN j)
theorem pl_crimp (x : Nat → Int) : ∀ j, pl (crX x) j = pl x (sgN j) := by
  intro j
  induction j with
  | zero => rfl
  | succ j ih =>
    cases j with
    | zero =>
      show (if 0 % 2 = 0 then pl (crX x) 0 + crX x 0 else _) = pl x 3
      rw [if_pos rfl]
      show (0 : Int) + (x 0 + x 2 - x 1) = _
      simp [pl]; omega
    | succ j =>
      have e1 : pl (crX x) (j + 1 + 1) = if (j + 1) % 2 = 0 then pl (crX x) (j + 1) + x (j + 3) else pl (crX x) (j + 1) - x (j + 3) := rfl
      have e2 : pl x (j + 4) = if (j + 3) % 2 = 0 then pl x (j + 3) + x (j + 3) else pl x (j + 3) - x (j + 3) := rfl
      show _ = pl x (j + 4)
      have ih' : pl (crX x) (j + 1) = pl x (j + 3) := ih
      rw [e1, e2, ih']
      by_cases h : (j + 1) % 2 = 0
      · rw [if_pos h, if_pos (by omega)]
      · rw [if_neg h, if_neg (by omega)]
theorem sgN_lt {j n : Nat} (h : j < n - 2) : sgN j < n := by
  cases j with
  | zero => show 0 < n; omega
  | succ k => show k + 3 < n; omega
theorem RingF.crimp {n : Nat} {x : Nat → Int} {f : Nat → Nat} (h : RingF n x f) (h4 : 4 ≤ n) (h1 : x 1 ≤ x 0) : RingF (n - 2) (crX x) (crF f) := by
  refine ⟨by rcases h.size with e | e | e <;> omega, fun k hk => ?_, ?_, fun k hk => h.bin _ (sgN_lt hk)⟩
  · cases k with
    | zero =>
      have := h.pos 2 (by omega)
      show 1 ≤ x 0 + x 2 - x 1
      omega
    | succ k => exact h.pos _ (by omega)
  · rw [pl_crimp]
    obtain ⟨m, hm⟩ : ∃ m, n - 2 = m + 1 := ⟨n - 3, by omega⟩
    rw [hm]
    show pl x (m + 3) = 0
    rw [show m + 3 = n from by omega]
    exact h.shut
end Go.Proofs.YtkdlipbegdiaaaaGreatDoor
