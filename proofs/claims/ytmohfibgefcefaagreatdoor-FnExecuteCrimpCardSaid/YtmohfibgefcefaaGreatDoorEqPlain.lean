/- Texts by rank; equal angles fold as their balance tells; the first text begins with M. No condition. -/
import Derived.Test.YtmohfibgefcefaaGreatDoorCnt
namespace Go.Proofs.YtmohfibgefcefaaGreatDoor

theorem txtL_surj : ∀ (n : Nat) (l : List UInt8), l.length = n → (∀ c ∈ l, mvB c = true) → ∃ k, k < 2 ^ n ∧ txtL n k = l ∧ (∀ r, l = 77 :: r → k < 2 ^ (n - 1)) := by
  intro n
  induction n with
  | zero =>
    intro l hl _
    have : l = [] := List.eq_nil_of_length_eq_zero hl
    subst this
    exact ⟨0, by decide, rfl, fun r h => by cases h⟩
  | succ n ih =>
    intro l hl hm
    cases l with
    | nil => simp at hl
    | cons c r =>
      obtain ⟨k, hk, ht, _⟩ := ih r (by simpa using hl) (fun d hd => hm d (by simp [hd]))
      have hc := hm c (by simp)
      unfold mvB at hc
      simp only [Bool.or_eq_true, decide_eq_true_eq] at hc
      rcases hc with e | e
      · have : c = 77 := UInt8.toNat_inj.1 (by rw [e]; rfl)
        subst this
        refine ⟨k, by rw [Nat.pow_succ]; omega, by rw [txtL, bitL_low hk, ht], fun _ _ => by rw [Nat.add_sub_cancel]; exact hk⟩
      · have : c = 86 := UInt8.toNat_inj.1 (by rw [e]; rfl)
        subst this
        refine ⟨2 ^ n + k, by rw [Nat.pow_succ]; omega, by rw [txtL, bitL_high hk, txtL_drop (Nat.le_refl _), ht], fun r2 h => by simp at h⟩
theorem txtL_mv (n k : Nat) : ∀ c ∈ txtL n k, mvB c = true := by
  induction n with
  | zero => intro c hc; simp [txtL] at hc
  | succ n ih =>
    intro c hc
    rw [txtL] at hc
    rcases List.mem_cons.1 hc with rfl | h
    · unfold bitL; split <;> rfl
    · exact ih c h
theorem fstV_some {xs : List Int} : ∀ {g k r : Nat}, fstV xs k g = some r → k ≤ r ∧ r < k + g ∧ vfB xs (txt xs.length r) = true ∧ ∀ j, k ≤ j → j < r → vfB xs (txt xs.length j) = false := by
  intro g
  induction g with
  | zero => intro k r h; cases h
  | succ g ih =>
    intro k r h
    rw [fstV] at h
    cases hv : vfB xs (txt xs.length k) with
    | true =>
      rw [hv, if_pos rfl] at h
      have : k = r := Option.some.inj h
      subst this
      exact ⟨Nat.le_refl _, by omega, hv, fun j h1 h2 => by omega⟩
    | false =>
      rw [hv, if_neg (by decide)] at h
      obtain ⟨h1, h2, h3, h4⟩ := ih h
      refine ⟨by omega, by omega, h3, fun j hj1 hj2 => ?_⟩
      rcases Nat.lt_or_ge k j with e | e
      · exact h4 j (by omega) hj2
      · have : j = k := by omega
        rw [this]; exact hv
theorem vfo_some {xs : List Int} {r : Nat} (h : vfo xs = some r) : avB xs = true ∧ r < 2 ^ xs.length ∧ vfB xs (txt xs.length r) = true ∧ ∀ j, j < r → vfB xs (txt xs.length j) = false := by
  unfold vfo at h
  split at h
  · next ha =>
    obtain ⟨_, h2, h3, h4⟩ := fstV_some h
    exact ⟨ha, by omega, h3, fun j hj => h4 j (Nat.zero_le _) hj⟩
  · cases h
/-- the first text that folds begins with M -/
theorem vfo_M {xs : List Int} {r : Nat} (h : vfo xs = some r) : byteAt (txt xs.length r) 0 = 77 := by
  obtain ⟨ha, hr, hv, hno⟩ := vfo_some h
  have h2 := (avB_parts ha).2.1
  obtain ⟨n, hn⟩ : ∃ n, xs.length = n + 1 := ⟨xs.length - 1, by omega⟩
  have e : txtL (n + 1) r = bitL r n :: txtL n r := rfl
  have eb : byteAt (txt xs.length r) 0 = (bitL r n).toNat := by
    rw [hn]; unfold byteAt txt
    rw [show (ByteArray.mk (txtL (n + 1) r).toArray).data.toList = txtL (n + 1) r from rfl, e]; rfl
  rw [eb]
  rcases Classical.em (bitL r n = 77) with hb | hb
  · rw [hb]; rfl
  · exfalso
    have hb86 : bitL r n = 86 := by
      unfold bitL at hb ⊢
      split at hb
      · exact absurd rfl hb
      · next h1 => rw [if_neg h1]
    have hr2 : 2 ^ n ≤ r := by
      rcases Nat.lt_or_ge r (2 ^ n) with h1 | h1
      · rw [bitL_low h1] at hb; exact absurd rfl hb
      · exact h1
    -- the text exchanged has a lower rank
    obtain ⟨k, hk, ht, hlow⟩ := txtL_surj (n + 1) ((txtL (n + 1) r).map swB) (by rw [List.length_map, txtL_len]) (fun c hc => by
      obtain ⟨d, hd, rfl⟩ := List.mem_map.1 hc
      exact swB_mv (txtL_mv _ _ d hd))
    have hk2 : k < 2 ^ n := by
      have := hlow ((txtL n r).map swB) (by rw [e, List.map_cons, hb86]; rfl)
      rwa [Nat.add_sub_cancel] at this
    have hs := vf_swap xs (txtL xs.length r)
    have hf := hno k (by omega)
    rw [hn] at hs hf hv
    rw [← ht] at hs
    have e3 : vfB xs (bts (txtL (n + 1) k)) = false := hf
    have e4 : vfB xs (bts (txtL (n + 1) r)) = true := hv
    rw [e3, e4] at hs
    cases hs
def eqOk (n : Nat) : Bool := (List.range (2 ^ n)).all fun m => vfB (List.replicate n (360 / (n : Int))) (txt n m) == bal2 (txtL n m)
theorem eqOk_all : eqOk 2 = true ∧ eqOk 4 = true ∧ eqOk 6 = true ∧ eqOk 8 = true := by decide +kernel
theorem eq_folds {n m : Nat} (hn : n = 2 ∨ n = 4 ∨ n = 6 ∨ n = 8) (hm : m < 2 ^ n) : vfB (List.replicate n (360 / (n : Int))) (txt n m) = bal2 (txtL n m) := by
  have key : eqOk n = true := by
    obtain ⟨a, b, c, d⟩ := eqOk_all
    rcases hn with rfl | rfl | rfl | rfl
    · exact a
    · exact b
    · exact c
    · exact d
  unfold eqOk at key
  rw [List.all_eq_true] at key
  simpa using key m (List.mem_range.2 hm)
end Go.Proofs.YtmohfibgefcefaaGreatDoor
