/- Patterns of vertices: which lists are patterns, how many creases they have. No program, no condition. -/
import Derived.Test.YtngpeehjjcgmmaaPlain
namespace Go.Proofs.Ytngpeehjjcgmmaa

/-- creases are different and in their range -/
def crGo : List Int → List Int → Bool
  | _, [] => true
  | seen, x :: r => if x < 0 then false else if 9 < x then false else if x ∈ seen then false else crGo (seen ++ [x]) r
def crB (cs : List Int) : Bool := crGo [] cs
def vtxB (v : List Int × List Int) : Bool := acB v.1 && decide (v.2.length = v.1.length) && crB v.2
/-- to how many vertices a crease belongs -/
def useN : List (List Int × List Int) → Int → Nat
  | [], _ => 0
  | v :: r, k => (if k ∈ v.2 then 1 else 0) + useN r k
/-- the number of creases, if they are numbered from 0 on -/
def mxGo : Int → List Int → Int
  | m, [] => m
  | m, x :: r => mxGo (if m < x + 1 then x + 1 else m) r
def ncGo : Int → List (List Int × List Int) → Int
  | m, [] => m
  | m, v :: r => ncGo (mxGo m v.2) r
def ncr (vs : List (List Int × List Int)) : Int := ncGo 0 vs
def usesOk (vs : List (List Int × List Int)) : Nat → Bool
  | 0 => true
  | k + 1 => usesOk vs k && (decide (1 ≤ useN vs k) && decide (useN vs k ≤ 2))
def patB (vs : List (List Int × List Int)) : Bool :=
  decide (1 ≤ vs.length) && decide (vs.length ≤ 3) && vs.all vtxB && usesOk vs (ncr vs).toNat

theorem crGo_iff (seen cs : List Int) : crGo seen cs = true ↔ (∀ x ∈ cs, 0 ≤ x ∧ x ≤ 9 ∧ x ∉ seen) ∧ cs.Nodup := by
  induction cs generalizing seen with
  | nil => simp [crGo]
  | cons x r ih =>
    rw [crGo]
    by_cases h1 : x < 0
    · rw [if_pos h1]
      simp only [Bool.false_eq_true, false_iff]
      rintro ⟨h, _⟩
      have := h x (by simp)
      omega
    · rw [if_neg h1]
      by_cases h2 : 9 < x
      · rw [if_pos h2]
        simp only [Bool.false_eq_true, false_iff]
        rintro ⟨h, _⟩
        have := h x (by simp)
        omega
      · rw [if_neg h2]
        by_cases h3 : x ∈ seen
        · rw [if_pos h3]
          simp only [Bool.false_eq_true, false_iff]
          rintro ⟨h, _⟩
          exact (h x (by simp)).2.2 h3
        · rw [if_neg h3, ih, List.nodup_cons]
          constructor
          · rintro ⟨h, hn⟩
            refine ⟨fun y hy => ?_, ?_, hn⟩
            · rcases List.mem_cons.1 hy with rfl | hy
              · exact ⟨by omega, by omega, h3⟩
              · have := h y hy
                simp at this
                exact ⟨this.1, this.2.1, this.2.2.1⟩
            · intro hx
              have := (h x hx).2.2
              simp at this
          · rintro ⟨h, hx, hn⟩
            refine ⟨fun y hy => ?_, hn⟩
            have := h y (by simp [hy])
            refine ⟨this.1, this.2.1, ?_⟩
            simp only [List.mem_append, List.mem_singleton, not_or]
            exact ⟨this.2.2, fun e => hx (e ▸ hy)⟩
theorem crB_iff (cs : List Int) : crB cs = true ↔ (∀ x ∈ cs, 0 ≤ x ∧ x ≤ 9) ∧ cs.Nodup := by
  unfold crB
  rw [crGo_iff]
  constructor
  · rintro ⟨h, hn⟩; exact ⟨fun x hx => ⟨(h x hx).1, (h x hx).2.1⟩, hn⟩
  · rintro ⟨h, hn⟩; exact ⟨fun x hx => ⟨(h x hx).1, (h x hx).2, by simp⟩, hn⟩
theorem mxGo_le (m : Int) (cs : List Int) : m ≤ mxGo m cs ∧ ∀ x ∈ cs, x + 1 ≤ mxGo m cs := by
  induction cs generalizing m with
  | nil => exact ⟨Int.le_refl _, fun x h => by cases h⟩
  | cons y r ih =>
    rw [mxGo]
    have h := ih (if m < y + 1 then y + 1 else m)
    constructor
    · refine Int.le_trans ?_ h.1; split <;> omega
    · intro x hx
      rcases List.mem_cons.1 hx with rfl | hx
      · refine Int.le_trans ?_ h.1; split <;> omega
      · exact h.2 x hx
theorem mxGo_is (m : Int) (cs : List Int) : mxGo m cs = m ∨ ∃ x ∈ cs, mxGo m cs = x + 1 := by
  induction cs generalizing m with
  | nil => exact Or.inl rfl
  | cons y r ih =>
    rw [mxGo]
    rcases ih (if m < y + 1 then y + 1 else m) with h | ⟨x, hx, h⟩
    · rw [h]
      split
      · exact Or.inr ⟨y, by simp, rfl⟩
      · exact Or.inl rfl
    · exact Or.inr ⟨x, by simp [hx], h⟩
theorem ncGo_le (m : Int) (vs : List (List Int × List Int)) : m ≤ ncGo m vs ∧ ∀ v ∈ vs, ∀ x ∈ v.2, x + 1 ≤ ncGo m vs := by
  induction vs generalizing m with
  | nil => exact ⟨Int.le_refl _, fun x h => by cases h⟩
  | cons y r ih =>
    rw [ncGo]
    have h := ih (mxGo m y.2)
    have h2 := mxGo_le m y.2
    constructor
    · exact Int.le_trans h2.1 h.1
    · intro v hv x hx
      rcases List.mem_cons.1 hv with rfl | hv
      · exact Int.le_trans (h2.2 x hx) h.1
      · exact h.2 v hv x hx
theorem ncGo_is (m : Int) (vs : List (List Int × List Int)) : ncGo m vs = m ∨ ∃ v ∈ vs, ∃ x ∈ v.2, ncGo m vs = x + 1 := by
  induction vs generalizing m with
  | nil => exact Or.inl rfl
  | cons y r ih =>
    rw [ncGo]
    rcases ih (mxGo m y.2) with h | ⟨v, hv, x, hx, h⟩
    · rw [h]
      rcases mxGo_is m y.2 with h2 | ⟨x, hx, h2⟩
      · exact Or.inl h2
      · exact Or.inr ⟨y, by simp, x, hx, h2⟩
    · exact Or.inr ⟨v, by simp [hv], x, hx, h⟩
theorem useN_pos {vs : List (List Int × List Int)} {k : Int} : 0 < useN vs k ↔ ∃ v ∈ vs, k ∈ v.2 := by
  induction vs with
  | nil => simp [useN]
  | cons y r ih =>
    rw [useN]
    by_cases h : k ∈ y.2
    · rw [if_pos h]
      exact ⟨fun _ => ⟨y, by simp, h⟩, fun _ => by omega⟩
    · rw [if_neg h, Nat.zero_add, ih]
      constructor
      · rintro ⟨v, hv, hk⟩; exact ⟨v, by simp [hv], hk⟩
      · rintro ⟨v, hv, hk⟩
        rcases List.mem_cons.1 hv with rfl | hv
        · exact absurd hk h
        · exact ⟨v, hv, hk⟩
theorem useN_le (vs : List (List Int × List Int)) (k : Int) : useN vs k ≤ vs.length := by
  induction vs with
  | nil => simp [useN]
  | cons y r ih => rw [useN, List.length_cons]; split <;> omega
theorem useN_app (us vs : List (List Int × List Int)) (k : Int) : useN (us ++ vs) k = useN us k + useN vs k := by
  induction us with
  | nil => simp [useN]
  | cons y r ih => rw [List.cons_append, useN, useN, ih]; omega
/-- the counts of the first n creases -/
def usesL (vs : List (List Int × List Int)) (n : Nat) : List Int := (List.range n).map fun (k : Nat) => (useN vs (k : Int) : Int)
theorem usesL_len (vs : List (List Int × List Int)) (n : Nat) : (usesL vs n).length = n := by simp [usesL]
theorem usesL_get (vs : List (List Int × List Int)) {n k : Nat} (h : k < n) : (usesL vs n)[k]? = some (useN vs (k : Int) : Int) := by simp [usesL, h]
end Go.Proofs.Ytngpeehjjcgmmaa
