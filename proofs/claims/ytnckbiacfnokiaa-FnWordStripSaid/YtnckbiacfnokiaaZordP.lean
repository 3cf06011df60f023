/- Which texts are words, and of how many folds. No program, no condition. -/
import Derived.Test.YtnckbiacfnokiaaZords
namespace Go.Proofs.Ytnckbiacfnokiaa

/-- halves that answer each other, down to the empty text -/
def wvN : Nat → List UInt8 → Bool
  | 0, l => decide (l.length = 0)
  | f + 1, l => if l.length = 0 then true else if l.length % 2 = 0 then false else if l.drop (l.length / 2 + 1) = othL (l.take (l.length / 2)) then wvN f (l.take (l.length / 2)) else false
theorem wvN_succ (f : Nat) (l : List UInt8) : wvN (f + 1) l = if l.length = 0 then true else if l.length % 2 = 0 then false else if l.drop (l.length / 2 + 1) = othL (l.take (l.length / 2)) then wvN f (l.take (l.length / 2)) else false := rfl
theorem wvN_more {f : Nat} {l : List UInt8} (h : l.length ≤ f) : wvN (f + 1) l = wvN f l := by
  induction f generalizing l with
  | zero =>
    have h0 : l.length = 0 := by omega
    rw [wvN_succ, if_pos h0]
    show true = decide (l.length = 0)
    rw [decide_eq_true h0]
  | succ f ih =>
    rw [wvN_succ (f + 1) l, wvN_succ f l]
    split
    · rfl
    · split
      · rfl
      · split
        · exact ih (by rw [List.length_take]; omega)
        · rfl
theorem wvN_eq {f g : Nat} {l : List UInt8} (hf : l.length ≤ f) (hg : l.length ≤ g) : wvN f l = wvN g l := by
  have key : ∀ d, wvN (l.length + d) l = wvN l.length l := by
    intro d
    induction d with
    | zero => rfl
    | succ d ih => rw [← Nat.add_assoc, wvN_more (by omega), ih]
  have h1 := key (f - l.length)
  have h2 := key (g - l.length)
  rw [show l.length + (f - l.length) = f from by omega] at h1
  rw [show l.length + (g - l.length) = g from by omega] at h2
  rw [h1, h2]
def wv (l : List UInt8) : Bool := wvN l.length l
theorem wv_nil : wv [] = true := rfl
theorem wv_even {l : List UInt8} (h0 : l.length ≠ 0) (h : l.length % 2 = 0) : wv l = false := by
  unfold wv
  rw [wvN_eq (Nat.le_refl _) (show l.length ≤ l.length + 1 by omega), wvN_succ, if_neg h0, if_pos h]
theorem wv_odd {l : List UInt8} (h : l.length % 2 = 1) : wv l = (decide (l.drop (l.length / 2 + 1) = othL (l.take (l.length / 2))) && wv (l.take (l.length / 2))) := by
  unfold wv
  rw [wvN_eq (Nat.le_refl _) (show l.length ≤ l.length + 1 by omega), wvN_succ, if_neg (by omega), if_neg (by omega)]
  by_cases q : l.drop (l.length / 2 + 1) = othL (l.take (l.length / 2))
  · rw [if_pos q, decide_eq_true q, Bool.true_and]
    exact wvN_eq (by rw [List.length_take]; omega) (Nat.le_refl _)
  · rw [if_neg q, decide_eq_false q, Bool.false_and]
/-- a text of creases of a width -/
def crsB (l : List UInt8) : Bool := decide (l.length ≤ 63) && l.all mvB
def wrdB (l : List UInt8) : Bool := crsB l && wv l
theorem mem_wlI_succ {n : Nat} {l : List UInt8} : l ∈ wlI (n + 1) ↔ ∃ w ∈ wlI n, l = w ++ 86 :: othL w ∨ l = w ++ 77 :: othL w := by
  rw [wlI, List.mem_flatMap]
  constructor
  · rintro ⟨w, hw, h⟩
    simp only [List.mem_cons, List.not_mem_nil, or_false] at h
    exact ⟨w, hw, h⟩
  · rintro ⟨w, hw, h⟩
    exact ⟨w, hw, by simpa using h⟩
theorem mvB_is {c : UInt8} (h : mvB c = true) : c = 77 ∨ c = 86 := by
  unfold mvB at h
  simp only [Bool.or_eq_true, decide_eq_true_eq] at h
  rcases h with h | h
  · exact Or.inl (UInt8.toNat_inj.1 (by rw [h]; rfl))
  · exact Or.inr (UInt8.toNat_inj.1 (by rw [h]; rfl))
/-- a word is a text whose halves answer each other -/
theorem wv_mem {l : List UInt8} (hm : l.all mvB = true) (h : wv l = true) : ∃ n, l ∈ wlI n := by
  obtain ⟨k, hk⟩ : ∃ k, l.length ≤ k := ⟨_, Nat.le_refl _⟩
  induction k generalizing l with
  | zero =>
    have : l = [] := List.eq_nil_of_length_eq_zero (by omega)
    subst this
    exact ⟨0, by simp [wlI]⟩
  | succ k ih =>
    by_cases h0 : l.length = 0
    · have : l = [] := List.eq_nil_of_length_eq_zero h0
      subst this
      exact ⟨0, by simp [wlI]⟩
    · by_cases he : l.length % 2 = 0
      · rw [wv_even h0 he] at h; cases h
      · rw [wv_odd (by omega)] at h
        simp only [Bool.and_eq_true, decide_eq_true_eq] at h
        have hlt : l.length / 2 < l.length := by omega
        obtain ⟨n, hn⟩ := ih (l := l.take (l.length / 2)) (by
          rw [List.all_eq_true] at hm ⊢
          exact fun x hx => hm x (List.mem_of_mem_take hx)) h.2 (by rw [List.length_take]; omega)
        refine ⟨n + 1, mem_wlI_succ.2 ⟨_, hn, ?_⟩⟩
        have e : l = l.take (l.length / 2) ++ l[l.length / 2] :: l.drop (l.length / 2 + 1) := by
          rw [← List.drop_eq_getElem_cons hlt, List.take_append_drop]
        rcases mvB_is (List.all_eq_true.1 hm l[l.length / 2] (List.getElem_mem hlt)) with q | q
        · right; rw [q, h.1] at e; exact e
        · left; rw [q, h.1] at e; exact e
theorem othL_mv {l : List UInt8} (h : l.all mvB = true) : (othL l).all mvB = true := by
  rw [List.all_eq_true] at h ⊢
  intro x hx
  unfold othL at hx
  obtain ⟨c, hc, rfl⟩ := List.mem_map.1 hx
  exact swB_mv (h c (List.mem_reverse.1 hc))
theorem mem_wv {n : Nat} {l : List UInt8} (h : l ∈ wlI n) : l.all mvB = true ∧ wv l = true := by
  induction n generalizing l with
  | zero => simp [wlI] at h; subst h; exact ⟨rfl, rfl⟩
  | succ n ih =>
    obtain ⟨w, hw, e⟩ := mem_wlI_succ.1 h
    obtain ⟨i1, i2⟩ := ih hw
    have key : ∀ c : UInt8, mvB c = true → l = w ++ c :: othL w → l.all mvB = true ∧ wv l = true := by
      rintro c hc rfl
      have hl : (w ++ c :: othL w).length = 2 * w.length + 1 := by simp [othL_len]; omega
      have hd : (w ++ c :: othL w).length / 2 = w.length := by omega
      refine ⟨?_, ?_⟩
      · rw [List.all_append, List.all_cons, i1, hc, othL_mv i1]; rfl
      · rw [wv_odd (by omega), hd]
        have t1 : (w ++ c :: othL w).take w.length = w := by simp
        have t2 : (w ++ c :: othL w).drop (w.length + 1) = othL w := by
          rw [List.drop_append, List.drop_of_length_le (by omega)]; simp
        rw [t1, t2, decide_eq_true rfl, i2]; rfl
    rcases e with e | e
    · exact key 86 rfl e
    · exact key 77 rfl e
theorem wrd_iff {l : List UInt8} : wrdB l = true ↔ ∃ n, n ≤ 6 ∧ l ∈ wlI n := by
  unfold wrdB crsB
  simp only [Bool.and_eq_true, decide_eq_true_eq]
  constructor
  · rintro ⟨⟨h1, h2⟩, h3⟩
    obtain ⟨n, hn⟩ := wv_mem h2 h3
    refine ⟨n, ?_, hn⟩
    have hs := wlI_size hn
    rcases Nat.lt_or_ge 6 n with h7 | h7
    · have : 2 ^ 7 ≤ 2 ^ n := Nat.pow_le_pow_right (by omega) h7
      have h8 : (2 : Nat) ^ 7 = 128 := by decide
      omega
    · exact h7
  · rintro ⟨n, h6, hn⟩
    obtain ⟨h2, h3⟩ := mem_wv hn
    have hs := wlI_size hn
    have : 2 ^ n ≤ 2 ^ 6 := Nat.pow_le_pow_right (by omega) h6
    have h8 : (2 : Nat) ^ 6 = 64 := by decide
    exact ⟨⟨by omega, h2⟩, h3⟩
theorem wlI_one {n m : Nat} {l : List UInt8} (h : l ∈ wlI n) (h' : l ∈ wlI m) : n = m := by
  have h1 := wlI_size h
  have h2 := wlI_size h'
  have e : 2 ^ n = 2 ^ m := by omega
  rcases Nat.lt_trichotomy n m with h3 | h3 | h3
  · have := Nat.pow_lt_pow_right (a := 2) (by omega) h3; omega
  · exact h3
  · have := Nat.pow_lt_pow_right (a := 2) (by omega) h3; omega
/-- the rank that is told of a text -/
def rankZ (l : List UInt8) : Int := if wrdB l then match (List.range 7).find? fun n => decide (l ∈ wlI n) with | some n => (cntLt (wlS n) l : Int) | none => -1 else -1
theorem rankZ_at {n : Nat} {l : List UInt8} (h6 : n ≤ 6) (h : l ∈ wlI n) : rankZ l = (cntLt (wlS n) l : Int) := by
  unfold rankZ
  rw [wrd_iff.2 ⟨n, h6, h⟩, if_pos rfl]
  cases hf : (List.range 7).find? fun n => decide (l ∈ wlI n) with
  | none =>
    rw [List.find?_eq_none] at hf
    have := hf n (List.mem_range.2 (by omega))
    simp [h] at this
  | some m =>
    have h1 := List.find?_some hf
    simp only [decide_eq_true_eq] at h1
    rw [wlI_one h1 h]
theorem rankZ_no {l : List UInt8} (h : wrdB l = false) : rankZ l = -1 := by unfold rankZ; rw [h]; rfl
end Go.Proofs.Ytnckbiacfnokiaa
