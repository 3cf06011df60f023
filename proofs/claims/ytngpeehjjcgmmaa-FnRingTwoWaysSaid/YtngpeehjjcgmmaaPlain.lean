/- Plain functions on lists: what the small tests of angles, folds and lengths answer. No program, no condition. -/
namespace Go.Proofs.Ytngpeehjjcgmmaa

/-- the angles of a vertex -/
def avB (xs : List Int) : Bool := decide (xs.length % 2 = 0) && decide (2 ≤ xs.length) && decide (xs.length ≤ 10) && xs.all (fun x => decide (1 ≤ x) && decide (x ≤ 360)) && decide (xs.sum = 360)
def sumGo : Int → List Int → Int
  | s, [] => s
  | s, x :: r => sumGo (s + x) r
theorem sumGo_eq (s : Int) (xs : List Int) : sumGo s xs = s + xs.sum := by
  induction xs generalizing s with
  | nil => simp [sumGo]
  | cons x r ih => simp [sumGo, ih]; omega
def avGo : Int → List Int → Bool
  | s, [] => decide (s = 360)
  | s, x :: r => if x < 1 then false else if 360 < x then false else avGo (s + x) r
theorem avGo_eq (s : Int) (xs : List Int) : avGo s xs = (xs.all (fun x => decide (1 ≤ x) && decide (x ≤ 360)) && decide (s + xs.sum = 360)) := by
  induction xs generalizing s with
  | nil => simp [avGo]
  | cons x r ih =>
    rw [avGo, ih]
    by_cases h1 : x < 1
    · simp [h1]; intro h; omega
    · by_cases h2 : 360 < x
      · simp [h1, h2]; intro _ h; omega
      · rw [if_neg h1, if_neg h2]
        have e1 : 1 ≤ x := by omega
        have e2 : x ≤ 360 := by omega
        have e3 : s + (x :: r).sum = s + x + r.sum := by simp; omega
        rw [e3]
        simp [e1, e2]
theorem avB_go {xs : List Int} (h1 : xs.length % 2 = 0) (h2 : 2 ≤ xs.length) (h3 : xs.length ≤ 10) : avB xs = avGo 0 xs := by
  rw [avGo_eq]; unfold avB; simp [h1, h2, h3]
theorem avB_parts {xs : List Int} (h : avB xs = true) : xs.length % 2 = 0 ∧ 2 ≤ xs.length ∧ xs.length ≤ 10 ∧ (∀ x ∈ xs, 1 ≤ x ∧ x ≤ 360) ∧ xs.sum = 360 := by
  unfold avB at h
  simp only [Bool.and_eq_true, decide_eq_true_eq, List.all_eq_true] at h
  obtain ⟨⟨⟨⟨a, b⟩, c⟩, d⟩, e⟩ := h
  exact ⟨a, b, c, d, e⟩

/-- sums of every other number, with alternating signs -/
def balGo (k : Nat) (s : Int) : List Int → Int
  | [] => s
  | x :: r => balGo (k + 1) (if k % 2 = 0 then s + x else s - x) r
def balB (xs : List Int) : Bool := decide (balGo 0 0 xs = 0)
def acB (xs : List Int) : Bool := avB xs && balB xs

/-- folds are M or V -/
def mvB (c : UInt8) : Bool := decide (c.toNat = 77) || decide (c.toNat = 86)
def fvB (fs : List UInt8) (n : Int) : Bool := decide ((fs.length : Int) = n) && fs.all mvB

/-- lengths of parts -/
def lvB (xs : List Int) : Bool := decide (1 ≤ xs.length) && decide (xs.length ≤ 6) && xs.all (fun x => decide (1 ≤ x) && decide (x ≤ 1000))
def rvB (xs : List Int) (fs : List UInt8) : Bool := lvB xs && decide (xs.length % 2 = 0) && fvB fs xs.length && balB xs
theorem lvB_parts {xs : List Int} (h : lvB xs = true) : 1 ≤ xs.length ∧ xs.length ≤ 6 ∧ ∀ x ∈ xs, 1 ≤ x ∧ x ≤ 1000 := by
  unfold lvB at h
  simp only [Bool.and_eq_true, decide_eq_true_eq, List.all_eq_true] at h
  obtain ⟨⟨a, b⟩, c⟩ := h
  exact ⟨a, b, c⟩

end Go.Proofs.Ytngpeehjjcgmmaa
