/- Patterns: what each crease's vertices come to together. No program, no condition. -/
import Derived.Test.YtnccpifdajcejaaPatL
namespace Go.Proofs.Ytnccpifdajcejaa

/-- how many times a number stands in the creases of vertices -/
def cntM : List Vx → Int → Nat
  | [], _ => 0
  | v :: r, z => v.2.count z + cntM r z
theorem cntM_use {vs : List Vx} (h : vs.all vtxB = true) (z : Int) : cntM vs z = useN vs z := by
  induction vs with
  | nil => rfl
  | cons v r ih =>
    rw [List.all_cons, Bool.and_eq_true] at h
    rw [cntM, useN, ih h.2]
    congr 1
    have hn : v.2.Nodup := by
      have := h.1
      unfold vtxB at this
      simp only [Bool.and_eq_true] at this
      exact ((crB_iff _).1 this.2).2
    by_cases hm : z ∈ v.2
    · rw [if_pos hm, hn.count, if_pos hm]
    · rw [if_neg hm, List.count_eq_zero.2 hm]
/-- how many angles vertices have -/
def sumA : List Vx → Nat
  | [] => 0
  | v :: r => v.1.length + sumA r
theorem sumA_snoc (vs : List Vx) (v : Vx) : sumA (vs ++ [v]) = sumA vs + v.1.length := by
  induction vs with
  | nil => simp [sumA]
  | cons u r ih => rw [List.cons_append, sumA, sumA, ih]; omega
def sumU (vs : List Vx) : Nat → Nat
  | 0 => 0
  | k + 1 => sumU vs k + useN vs (k : Int)
def cntIn (cs : List Int) : Nat → Nat
  | 0 => 0
  | k + 1 => cntIn cs k + (if (k : Int) ∈ cs then 1 else 0)
theorem cntIn_cons {c : Nat} {r : List Int} (hc : (c : Int) ∉ r) (n : Nat) : cntIn ((c : Int) :: r) n = cntIn r n + (if c < n then 1 else 0) := by
  induction n with
  | zero => simp [cntIn]
  | succ n ih =>
    rw [cntIn, cntIn, ih]
    by_cases e : n = c
    · subst e
      simp [hc]
    · have : ((n : Int) ∈ (c : Int) :: r) ↔ (n : Int) ∈ r := by
        rw [List.mem_cons]
        exact ⟨fun h => h.resolve_left (by omega), Or.inr⟩
      simp only [this]
      have e2 : (if c < n + 1 then 1 else 0) = (if c < n then 1 else (0 : Nat)) := by split <;> split <;> omega
      rw [e2]; omega
theorem cntIn_all {cs : List Int} {n : Nat} (hn : cs.Nodup) (hb : ∀ c ∈ cs, 0 ≤ c ∧ c < (n : Int)) : cntIn cs n = cs.length := by
  induction cs with
  | nil => induction n with
    | zero => rfl
    | succ n ih => rw [cntIn, ih (fun c hc => by cases hc)]; simp
  | cons c r ih =>
    obtain ⟨m, rfl⟩ : ∃ m : Nat, c = (m : Int) := ⟨c.toNat, by have := hb c (by simp); omega⟩
    rw [List.nodup_cons] at hn
    rw [cntIn_cons hn.1, ih hn.2 (fun c hc => hb c (by simp [hc])), if_pos (by have := hb (m : Int) (by simp); omega), List.length_cons]
theorem sumU_cons (v : Vx) (r : List Vx) (n : Nat) : sumU (v :: r) n = cntIn v.2 n + sumU r n := by
  induction n with
  | zero => rfl
  | succ n ih => rw [sumU, sumU, cntIn, ih, useN]; omega
theorem sumU_all {vs : List Vx} {n : Nat} (h : vs.all vtxB = true) (hb : ∀ v ∈ vs, ∀ c ∈ v.2, 0 ≤ c ∧ c < (n : Int)) : sumU vs n = sumA vs := by
  induction vs with
  | nil => induction n with
    | zero => rfl
    | succ n ih => rw [sumU, ih (fun v hv => by cases hv)]; rfl
  | cons v r ih =>
    rw [List.all_cons, Bool.and_eq_true] at h
    have h1 := h.1
    unfold vtxB at h1
    simp only [Bool.and_eq_true, decide_eq_true_eq] at h1
    rw [sumU_cons, sumA, ih h.2 (fun v hv => hb v (by simp [hv])), cntIn_all ((crB_iff _).1 h1.2).2 (hb v (by simp)), h1.1.2]
theorem sumU_inner {vs : List Vx} {n : Nat} (h : ∀ k, k < n → 1 ≤ useN vs (k : Int) ∧ useN vs (k : Int) ≤ 2) : sumU vs n = n + (innerTo vs n).length := by
  induction n with
  | zero => rfl
  | succ n ih =>
    rw [sumU, ih (fun k hk => h k (by omega))]
    have := h n (by omega)
    by_cases h2 : useN vs (n : Int) = 2
    · rw [innerTo_yes h2, List.length_append, h2]; simp; omega
    · rw [innerTo_no h2]; omega
theorem innerTo_get {vs : List Vx} {k n : Nat} (hk : k < n) (h2 : useN vs (k : Int) = 2) : (innerTo vs n)[(innerTo vs k).length]? = some (k : Int) := by
  induction n with
  | zero => omega
  | succ n ih =>
    by_cases e : k = n
    · subst e
      rw [innerTo_yes h2, List.getElem?_append_right (Nat.le_refl _), Nat.sub_self]; rfl
    · have := ih (by omega)
      have hlt := (List.getElem?_eq_some_iff.1 this).1
      by_cases h3 : useN vs (n : Int) = 2
      · rw [innerTo_yes h3, List.getElem?_append_left hlt]; exact this
      · rw [innerTo_no h3]; exact this
/-- a pattern's angles are as many as its creases and its inner ones together -/
theorem pat_sum {vs : List Vx} {n : Nat} (hp : patB vs = true) (hn : ncr vs = (n : Int)) : sumA vs = n + (innerTo vs n).length := by
  obtain ⟨_, _, hall, huse, _, _⟩ := patB_parts hp
  rw [hn, Int.toNat_natCast] at huse
  rw [← sumU_inner (fun k hk => usesOk_iff.1 huse k hk), sumU_all hall]
  intro v hv c hc
  have h1 := vtxB_bd (List.all_eq_true.1 hall v hv)
  have h2 := (ncGo_le 0 vs).2 v hv c hc
  unfold ncr at hn
  exact ⟨(h1.2.2.2.2 c hc).1, by omega⟩
theorem pat_num {vs : List Vx} (hp : patB vs = true) : ∃ n : Nat, ncr vs = (n : Int) ∧ n ≤ 10 ∧ pcI vs = (n : Int) := by
  obtain ⟨_, _, _, _, h0, h10⟩ := patB_parts hp
  exact ⟨(ncr vs).toNat, by omega, by omega, by unfold pcI; rw [hp, if_pos rfl]; omega⟩
end Go.Proofs.Ytnccpifdajcejaa
