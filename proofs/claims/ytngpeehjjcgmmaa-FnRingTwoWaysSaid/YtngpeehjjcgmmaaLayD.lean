/- The tables of rings laid flat: turned, crimped, and without a crimp. No program, no condition. -/
import Derived.Test.YtngpeehjjcgmmaaLayB
import Derived.Test.YtngpeehjjcgmmaaLayC
namespace Go.Proofs.Ytngpeehjjcgmmaa

def tab2 : List Ent := [([0, 1], [], [], [(0, [1, 0]), (3, [0, 1])])]
def tab4 : List Ent := [([0, 2, 0, 2], [], [(3, 0, 1, 2), (0, 1, 2, 3)], [(1, [1, 0, 3, 2]), (2, [1, 2, 3, 0]), (4, [3, 2, 1, 0]), (7, [0, 3, 2, 1]), (8, [3, 0, 1, 2]), (11, [0, 1, 2, 3]), (13, [2, 1, 0, 3]), (14, [2, 3, 0, 1])]),
  ([0, 2, 0, 3], [(2, 0, 1), (3, 0, 1)], [(3, 0, 1, 2)], [(1, [1, 0, 3, 2]), (2, [1, 2, 3, 0]), (4, [3, 2, 1, 0]), (11, [0, 1, 2, 3]), (13, [2, 1, 0, 3]), (14, [2, 3, 0, 1])]),
  ([0, 2, 1, 2], [(0, 1, 2), (3, 1, 2)], [(0, 1, 2, 3)], [(2, [1, 2, 3, 0]), (4, [3, 2, 1, 0]), (7, [0, 3, 2, 1]), (8, [3, 0, 1, 2]), (11, [0, 1, 2, 3]), (13, [2, 1, 0, 3])]),
  ([0, 2, 1, 3], [(2, 0, 1), (3, 0, 1), (0, 1, 2), (3, 1, 2)], [], [(2, [1, 2, 3, 0]), (4, [3, 2, 1, 0]), (11, [0, 1, 2, 3]), (13, [2, 1, 0, 3])]),
  ([0, 3, 0, 2], [(0, 2, 3), (1, 2, 3)], [(3, 0, 1, 2)], [(1, [1, 0, 3, 2]), (4, [3, 2, 1, 0]), (7, [0, 3, 2, 1]), (8, [3, 0, 1, 2]), (11, [0, 1, 2, 3]), (14, [2, 3, 0, 1])]),
  ([0, 3, 1, 2], [(0, 1, 2), (3, 1, 2), (0, 2, 3), (1, 2, 3)], [], [(4, [3, 2, 1, 0]), (7, [0, 3, 2, 1]), (8, [3, 0, 1, 2]), (11, [0, 1, 2, 3])]),
  ([1, 2, 0, 2], [(1, 3, 0), (2, 3, 0)], [(0, 1, 2, 3)], [(1, [1, 0, 3, 2]), (2, [1, 2, 3, 0]), (7, [0, 3, 2, 1]), (8, [3, 0, 1, 2]), (13, [2, 1, 0, 3]), (14, [2, 3, 0, 1])]),
  ([1, 2, 0, 3], [(1, 3, 0), (2, 3, 0), (2, 0, 1), (3, 0, 1)], [], [(1, [1, 0, 3, 2]), (2, [1, 2, 3, 0]), (13, [2, 1, 0, 3]), (14, [2, 3, 0, 1])]),
  ([1, 3, 0, 2], [(1, 3, 0), (2, 3, 0), (0, 2, 3), (1, 2, 3)], [], [(1, [1, 0, 3, 2]), (7, [0, 3, 2, 1]), (8, [3, 0, 1, 2]), (14, [2, 3, 0, 1])])]
def tab6 : List Ent := tab6a ++ tab6b ++ tab6c ++ tab6d
theorem tab2_ok : tab2.all (entOk 2 perms2) = true := by decide +kernel
theorem tab4_ok : tab4.all (entOk 4 perms4) = true := by decide +kernel
theorem tab6_ok : tab6.all (entOk 6 perms6) = true := by
  unfold tab6
  simp only [List.all_append, tab6a_ok, tab6b_ok, tab6c_ok, tab6d_ok, Bool.and_self]
/-- the folds of a pattern, looked up -/
def look (tab : List Ent) (r : List Nat) : List Nat := match tab.find? (fun e => e.1 == r) with
  | some e => e.2.2.2.map Prod.fst
  | none => []
theorem look_iff {n : Nat} {ps : List (List Nat)} {tab : List Ent} (h : tab.all (entOk n ps) = true) {r : List Nat} (hr : tab.any (fun e => e.1 == r) = true) (c : Nat) : EN n ps r c ↔ c ∈ look tab r := by
  obtain ⟨e0, he0, h0⟩ := List.any_eq_true.1 hr
  have hs : (tab.find? fun e => e.1 == r).isSome = true := List.find?_isSome.2 ⟨e0, he0, h0⟩
  obtain ⟨e, he⟩ := Option.isSome_iff_exists.1 hs
  have h1 := List.mem_of_find?_eq_some he
  have h2 := List.find?_some he
  rw [beq_iff_eq] at h2
  unfold look
  rw [he]
  have := ent_iff (List.all_eq_true.1 h e h1) c
  rw [h2] at this
  exact this
/-- lists that go up and down -/
def upDown (n : Nat) : Nat → List (List Nat)
  | 0 => [[]]
  | k + 1 => (upDown n k).flatMap fun t => ((List.range n).filter fun v => match t with
    | [] => true
    | y :: _ => if (n - 1 - k) % 2 = 0 then Nat.blt v y else Nat.blt y v).map fun v => v :: t
def goodN (n : Nat) (r : List Nat) : Bool := Nat.blt (gd r 0) (gd r (n - 1)) && (List.range n).all fun i => Nat.beq (gd r i) ((List.range n).countP fun j => Nat.blt (gd r j) (gd r i))
def patsOk (n : Nat) (tab : List Ent) : Bool := ((upDown n n).filter (goodN n)).all fun r => tab.any fun e => e.1 == r
set_option maxRecDepth 100000 in
theorem pats2 : patsOk 2 tab2 = true := by decide +kernel
set_option maxRecDepth 100000 in
theorem pats4 : patsOk 4 tab4 = true := by decide +kernel
set_option maxRecDepth 100000 in
theorem pats6 : patsOk 6 tab6 = true := by decide +kernel
/-- the pattern turned by one -/
def rotN (n : Nat) (r : List Nat) : List Nat := (List.range n).map fun i => (List.range n).countP fun j => Nat.blt (gd r ((i + 1) % n)) (gd r ((j + 1) % n))
def rotC (n c : Nat) : Nat := c / 2 + (c % 2) * 2 ^ (n - 1)
def chkR (n : Nat) (tab : List Ent) : Bool := tab.all fun e => e.2.2.2.all fun c => (look tab (rotN n e.1)).any fun d => Nat.beq d (rotC n c.1)
set_option maxRecDepth 100000 in
theorem rot2 : chkR 2 tab2 = true := by decide +kernel
set_option maxRecDepth 100000 in
theorem rot4 : chkR 4 tab4 = true := by decide +kernel
set_option maxRecDepth 100000 in
theorem rot6 : chkR 6 tab6 = true := by decide +kernel
/-- the pattern crimped at the part 1 -/
def sgN (j : Nat) : Nat := match j with | 0 => 0 | k + 1 => k + 3
def crN (n : Nat) (r : List Nat) : List Nat := (List.range (n - 2)).map fun i => (List.range (n - 2)).countP fun j => Nat.blt (gd r (sgN j)) (gd r (sgN i))
def crC (c : Nat) : Nat := c % 2 + 2 * (c / 8)
def chkC (n : Nat) (tab tab' : List Ent) : Bool := tab.all fun e => !(Nat.ble (gd e.1 0) (gd e.1 2) && Nat.ble (gd e.1 1) (gd e.1 3)) || (List.range (2 ^ n)).all fun c => Nat.beq (c / 2 % 2) (c / 4 % 2) || ((e.2.2.2.any fun d => Nat.beq d.1 c) == ((look tab' (crN n e.1)).any fun d => Nat.beq d (crC c)))
set_option maxRecDepth 100000 in
theorem crimp4 : chkC 4 tab4 tab2 = true := by decide +kernel
set_option maxRecDepth 100000 in
theorem crimp6 : chkC 6 tab6 tab4 = true := by decide +kernel
/-- is a set of parts one that may be the least ones -/
def leN (n : Nat) (r : List Nat) (k : Nat) : Bool := if k % 2 = 0 then Nat.ble (gd r ((k + 2) % n)) (gd r k) else Nat.ble (gd r k) (gd r ((k + 2) % n))
def geN (n : Nat) (r : List Nat) (k : Nat) : Bool := if k % 2 = 0 then Nat.ble (gd r k) (gd r ((k + 2) % n)) else Nat.ble (gd r ((k + 2) % n)) (gd r k)
def inM (M k : Nat) : Bool := Nat.beq (M / 2 ^ k % 2) 1
def minM (n : Nat) (r : List Nat) (M : Nat) : Bool := (List.range n).all fun k => !inM M k || (leN n r k && geN n r ((k + n - 1) % n) && (!geN n r k || inM M ((k + 1) % n)) && (!leN n r ((k + n - 1) % n) || inM M ((k + n - 1) % n)))
def chkD (n : Nat) (tab : List Ent) : Bool := tab.all fun e => (List.range (2 ^ n)).all fun M => Nat.beq M 0 || !minM n e.1 M || e.2.2.2.all fun c => (List.range n).any fun k => inM M k && !Nat.beq (c.1 / 2 ^ k % 2) (c.1 / 2 ^ ((k + 1) % n) % 2)
set_option maxRecDepth 100000 in
theorem dead4 : chkD 4 tab4 = true := by decide +kernel
set_option maxRecDepth 100000 in
theorem dead6 : chkD 6 tab6 = true := by decide +kernel
end Go.Proofs.Ytngpeehjjcgmmaa
