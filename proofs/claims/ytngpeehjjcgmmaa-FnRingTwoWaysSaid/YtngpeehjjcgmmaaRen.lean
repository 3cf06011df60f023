/- Patterns with other numbers of creases: a vertex left out, two patterns joined. No program, no condition. -/
import Derived.Test.YtngpeehjjcgmmaaPat
namespace Go.Proofs.Ytngpeehjjcgmmaa

/-- a vertex with other numbers -/
def renV (f : Nat → Int) (v : List Int × List Int) : List Int × List Int := (v.1, v.2.map fun c => f c.toNat)
theorem renV_congr {f g : Nat → Int} {v : List Int × List Int} (h : ∀ c ∈ v.2, f c.toNat = g c.toNat) : renV f v = renV g v := by
  unfold renV
  rw [List.map_congr_left h]
/-- of the first k creases those that are used -/
def numW (vs : List (List Int × List Int)) : Nat → Nat
  | 0 => 0
  | k + 1 => numW vs k + (if 0 < useN vs (k : Int) then 1 else 0)
theorem numW_le (vs : List (List Int × List Int)) (k : Nat) : numW vs k ≤ k := by
  induction k with
  | zero => simp [numW]
  | succ k ih => rw [numW]; split <;> omega
def withoutL (vs : List (List Int × List Int)) (k : Nat) : List (List Int × List Int) := (vs.eraseIdx k).map (renV fun c => (numW (vs.eraseIdx k) c : Int))
/-- the new numbers of the second pattern of two -/
def numJ (na i j : Int) (k : Nat) : Int := if (k : Int) = j then i else if (k : Int) < j then na + (k : Int) else na + (k : Int) - 1
def joinL (us vs : List (List Int × List Int)) (i j : Int) : List (List Int × List Int) := us ++ vs.map (renV (numJ (ncr us) i j))
/-- may two patterns be joined there -/
def joinB (us vs : List (List Int × List Int)) (i j : Int) : Bool := patB us && patB vs && decide (useN us i = 1) && decide (useN vs j = 1) && patB (joinL us vs i j)
def withoutB (vs : List (List Int × List Int)) (k : Int) : Bool := patB vs && decide (0 ≤ k) && decide (k < vs.length) && decide (vs.length ≠ 1)

theorem useN_erase {vs : List (List Int × List Int)} {k : Nat} (h : k < vs.length) (c : Int) : useN vs c = useN (vs.eraseIdx k) c + (if c ∈ vs[k].2 then 1 else 0) := by
  induction vs generalizing k with
  | nil => simp at h
  | cons v r ih =>
    cases k with
    | zero => simp [useN]; omega
    | succ k =>
      have hk : k < r.length := by simpa using h
      rw [List.eraseIdx_cons_succ, useN, useN, ih hk]
      simp only [List.getElem_cons_succ]
      omega
theorem useN_out {vs : List (List Int × List Int)} {c : Int} (h : c < 0 ∨ ncr vs ≤ c) (hv : ∀ v ∈ vs, ∀ x ∈ v.2, 0 ≤ x) : useN vs c = 0 := by
  rcases Nat.eq_zero_or_pos (useN vs c) with h0 | h0
  · exact h0
  · exfalso
    obtain ⟨v, hm, hc⟩ := useN_pos.1 h0
    have h1 := hv v hm c hc
    have h2 := (ncGo_le 0 vs).2 v hm c hc
    unfold ncr at h
    omega
theorem renV_id {v : List Int × List Int} (h : ∀ c ∈ v.2, 0 ≤ c) : renV (fun c => (c : Int)) v = v := by
  obtain ⟨x, y⟩ := v
  unfold renV
  congr 1
  have : y.map (fun c => ((c.toNat : Nat) : Int)) = y.map id := List.map_congr_left fun c hc => by have := h c hc; show ((c.toNat : Nat) : Int) = c; omega
  rw [this, List.map_id]
/-- the counts, some vertex's creases taken off -/
def decL (vs : List (List Int × List Int)) (cs : List Int) (n : Nat) : List Int := (List.range n).map fun (k : Nat) => (useN vs (k : Int) : Int) - (if (k : Int) ∈ cs then 1 else 0)
theorem decL_len (vs : List (List Int × List Int)) (cs : List Int) (n : Nat) : (decL vs cs n).length = n := by simp [decL]
theorem decL_nil (vs : List (List Int × List Int)) (n : Nat) : decL vs [] n = usesL vs n := by simp [decL, usesL]
theorem decL_all {vs : List (List Int × List Int)} {k : Nat} (h : k < vs.length) (n : Nat) : decL vs vs[k].2 n = usesL (vs.eraseIdx k) n := by
  unfold decL usesL
  refine List.map_congr_left fun j _ => ?_
  have := useN_erase h (j : Int)
  split <;> simp_all
theorem decL_get {vs : List (List Int × List Int)} {cs : List Int} {n m : Nat} (hm : m < n) (h : (m : Int) ∉ cs) : (decL vs cs n)[m]? = some (useN vs (m : Int) : Int) := by
  simp [decL, hm, h]
theorem decL_set {vs : List (List Int × List Int)} {cs : List Int} {n m j : Nat} (hj : j < cs.length) (hc : cs[j] = (m : Int)) (hn : cs.Nodup) :
    (m : Int) ∉ cs.take j ∧ (decL vs (cs.take j) n).set m ((useN vs (m : Int) : Int) - 1) = decL vs (cs.take (j + 1)) n := by
  have hnot : (m : Int) ∉ cs.take j := by
    intro hin
    obtain ⟨i, hi, e⟩ := List.getElem_of_mem hin
    have hij : i < j := by simpa using (by rw [List.length_take] at hi; omega : i < j)
    rw [List.getElem_take] at e
    have hne := (List.nodup_iff_pairwise_ne.1 hn)
    have := List.pairwise_iff_getElem.1 hne i j (by omega) hj hij
    exact this (by rw [e, hc])
  refine ⟨hnot, ?_⟩
  apply List.ext_getElem?
  intro k
  rw [List.getElem?_set]
  by_cases hk : k < n
  · by_cases e : m = k
    · subst e
      rw [if_pos rfl, decL_len, if_pos hk]
      simp only [decL, List.getElem?_map, List.getElem?_range hk, Option.map_some]
      rw [if_pos]
      rw [List.take_succ_eq_append_getElem hj, hc]; simp
    · rw [if_neg e]
      simp only [decL, List.getElem?_map, List.getElem?_range hk, Option.map_some]
      congr 2
      rw [List.take_succ_eq_append_getElem hj, hc]
      have : ¬ (k : Int) = (m : Int) := by omega
      simp [this]
  · rw [List.getElem?_eq_none (by rw [decL_len]; omega), List.getElem?_eq_none (by rw [decL_len]; omega)]
    split
    · rw [decL_len, if_neg (by omega)]
    · rfl
/-- the new numbers of the first j creases -/
def numL (vs : List (List Int × List Int)) (n j : Nat) : List Int := (List.range n).map fun (k : Nat) => if k < j ∧ 0 < useN vs (k : Int) then (numW vs k : Int) else 0
theorem numL_len (vs : List (List Int × List Int)) (n j : Nat) : (numL vs n j).length = n := by simp [numL]
theorem numL_zero (vs : List (List Int × List Int)) (n : Nat) : numL vs n 0 = List.replicate n 0 := by
  apply List.ext_getElem?
  intro k
  by_cases hk : k < n <;> simp [numL, hk]
theorem numL_yes {vs : List (List Int × List Int)} {n j : Nat} (h : 0 < useN vs (j : Int)) : (numL vs n j).set j (numW vs j : Int) = numL vs n (j + 1) := by
  apply List.ext_getElem?
  intro k
  rw [List.getElem?_set]
  by_cases hk : k < n
  · by_cases e : j = k
    · subst e
      rw [if_pos rfl, numL_len, if_pos hk]
      simp [numL, hk, h]
    · rw [if_neg e]
      simp only [numL, List.getElem?_map, List.getElem?_range hk, Option.map_some]
      congr 1
      have : (k < j ∧ 0 < useN vs (k : Int)) ↔ (k < j + 1 ∧ 0 < useN vs (k : Int)) := by constructor <;> rintro ⟨h1, h2⟩ <;> exact ⟨by omega, h2⟩
      by_cases q : k < j ∧ 0 < useN vs (k : Int)
      · rw [if_pos q, if_pos (this.1 q)]
      · rw [if_neg q, if_neg (fun x => q (this.2 x))]
  · rw [List.getElem?_eq_none (by rw [numL_len]; omega), List.getElem?_eq_none (by rw [numL_len]; omega)]
    split
    · rw [numL_len, if_neg (by omega)]
    · rfl
theorem numL_no {vs : List (List Int × List Int)} {n j : Nat} (h : ¬ 0 < useN vs (j : Int)) : numL vs n j = numL vs n (j + 1) := by
  unfold numL
  refine List.map_congr_left fun k _ => ?_
  have : (k < j ∧ 0 < useN vs (k : Int)) ↔ (k < j + 1 ∧ 0 < useN vs (k : Int)) := by
    constructor
    · rintro ⟨h1, h2⟩; exact ⟨by omega, h2⟩
    · rintro ⟨h1, h2⟩
      refine ⟨?_, h2⟩
      rcases Nat.lt_or_ge k j with h3 | h3
      · exact h3
      · have : k = j := by omega
        subst this; exact absurd h2 h
  by_cases q : k < j ∧ 0 < useN vs (k : Int)
  · rw [if_pos q, if_pos (this.1 q)]
  · rw [if_neg q, if_neg (fun x => q (this.2 x))]
theorem numL_get {vs : List (List Int × List Int)} {n c : Nat} (hc : c < n) (h : 0 < useN vs (c : Int)) : (numL vs n n)[c]? = some (numW vs c : Int) := by simp [numL, hc, h]
/-- what is left of a pattern, or nothing -/
def woR (vs : List (List Int × List Int)) (k : Int) : List (List Int × List Int) := if withoutB vs k then withoutL vs k.toNat else []
theorem withoutL_len {vs : List (List Int × List Int)} {k : Nat} (h : k < vs.length) : (withoutL vs k).length = vs.length - 1 := by
  unfold withoutL; rw [List.length_map, List.length_eraseIdx, if_pos h]
/-- how many are done behind k rounds -/
def doneN (at_ k : Nat) : Nat := if at_ < k then k - 1 else k
theorem withoutL_get {vs : List (List Int × List Int)} {at_ k : Nat} (h : k < vs.length) (hne : k ≠ at_) : (withoutL vs at_)[doneN at_ k]? = some (renV (fun c => (numW (vs.eraseIdx at_) c : Int)) vs[k]) := by
  unfold withoutL doneN
  rw [List.getElem?_map, List.getElem?_eraseIdx]
  by_cases q : at_ < k
  · rw [if_pos q, if_neg (by omega), show k - 1 + 1 = k from by omega, List.getElem?_eq_getElem h]; rfl
  · rw [if_neg q, if_pos (by omega), List.getElem?_eq_getElem h]; rfl
theorem erase_mem {vs : List (List Int × List Int)} {at_ k : Nat} (h : k < vs.length) (hne : k ≠ at_) : vs[k] ∈ vs.eraseIdx at_ := by
  have : (vs.eraseIdx at_)[doneN at_ k]? = some vs[k] := by
    unfold doneN
    rw [List.getElem?_eraseIdx]
    by_cases q : at_ < k
    · rw [if_pos q, if_neg (by omega), show k - 1 + 1 = k from by omega, List.getElem?_eq_getElem h]
    · rw [if_neg q, if_pos (by omega), List.getElem?_eq_getElem h]
  exact List.mem_of_getElem? this
/-- the new numbers of all creases, used or not -/
def wNum (vs : List (List Int × List Int)) (j : Nat) : List Int := (List.range j).map fun (k : Nat) => (numW vs k : Int)
theorem wNum_len (vs : List (List Int × List Int)) (j : Nat) : (wNum vs j).length = j := by simp [wNum]
theorem wNum_succ (vs : List (List Int × List Int)) (j : Nat) : wNum vs (j + 1) = wNum vs j ++ [(numW vs j : Int)] := by simp [wNum, List.range_succ]
theorem wNum_get {vs : List (List Int × List Int)} {j c : Nat} (h : c < j) : (wNum vs j)[c]? = some (numW vs c : Int) := by simp [wNum, h]
/-- the first t of n numbers filled in -/
def fillTo (f : Nat → Int) (n t : Nat) : List Int := (List.range n).map fun (k : Nat) => if k < t then f k else 0
theorem fillTo_len (f : Nat → Int) (n t : Nat) : (fillTo f n t).length = n := by simp [fillTo]
theorem fillTo_zero (f : Nat → Int) (n : Nat) : fillTo f n 0 = List.replicate n 0 := by
  apply List.ext_getElem?
  intro k
  by_cases hk : k < n <;> simp [fillTo, hk]
theorem fillTo_set (f : Nat → Int) {n t : Nat} : (fillTo f n t).set t (f t) = fillTo f n (t + 1) := by
  apply List.ext_getElem?
  intro k
  rw [List.getElem?_set]
  by_cases hk : k < n
  · by_cases e : t = k
    · subst e
      rw [if_pos rfl, fillTo_len, if_pos hk]
      simp [fillTo, hk]
    · rw [if_neg e]
      simp only [fillTo, List.getElem?_map, List.getElem?_range hk, Option.map_some]
      congr 1
      by_cases q : k < t
      · rw [if_pos q, if_pos (by omega)]
      · rw [if_neg q, if_neg (by omega)]
  · rw [List.getElem?_eq_none (by rw [fillTo_len]; omega), List.getElem?_eq_none (by rw [fillTo_len]; omega)]
    split
    · rw [fillTo_len, if_neg (by omega)]
    · rfl
theorem fillTo_get {f : Nat → Int} {n c : Nat} (h : c < n) : (fillTo f n n)[c]? = some (f c) := by simp [fillTo, h]
/-- two patterns joined, or nothing -/
def jR (us vs : List (List Int × List Int)) (i j : Int) : List (List Int × List Int) := if joinB us vs i j then joinL us vs i j else []
theorem joinL_len (us vs : List (List Int × List Int)) (i j : Int) : (joinL us vs i j).length = us.length + vs.length := by simp [joinL]
theorem joinL_left {us vs : List (List Int × List Int)} {i j : Int} {k : Nat} (h : k < us.length) : (joinL us vs i j)[k]? = some us[k] := by
  unfold joinL; rw [List.getElem?_append_left h, List.getElem?_eq_getElem h]
theorem joinL_right {us vs : List (List Int × List Int)} {i j : Int} {k : Nat} (h : k < vs.length) : (joinL us vs i j)[us.length + k]? = some (renV (numJ (ncr us) i j) vs[k]) := by
  unfold joinL
  rw [List.getElem?_append_right (by omega), List.getElem?_map, show us.length + k - us.length = k from by omega, List.getElem?_eq_getElem h]; rfl
theorem joinB_no {us vs : List (List Int × List Int)} {i j : Int} (h : patB us = false ∨ patB vs = false ∨ useN us i ≠ 1 ∨ useN vs j ≠ 1) : joinB us vs i j = false := by
  unfold joinB
  rcases h with h | h | h | h
  · rw [h]; rfl
  · rw [h, Bool.and_false]; rfl
  · rw [decide_eq_false h]; simp
  · rw [decide_eq_false h]; simp
theorem joinB_yes {us vs : List (List Int × List Int)} {i j : Int} (h1 : patB us = true) (h2 : patB vs = true) (h3 : useN us i = 1) (h4 : useN vs j = 1) : joinB us vs i j = patB (joinL us vs i j) := by
  unfold joinB
  rw [h1, h2, decide_eq_true h3, decide_eq_true h4]; rfl
/-- the number that comes next -/
def nxJ (na j : Int) (k : Nat) : Int := if j < (k : Int) then na + (k : Int) - 1 else na + (k : Int)
theorem nxJ_at {na j : Int} {k : Nat} (h : (k : Int) = j) : nxJ na j (k + 1) = nxJ na j k := by unfold nxJ; split <;> split <;> omega
theorem nxJ_no {na i j : Int} {k : Nat} (h : ¬ (k : Int) = j) : nxJ na j (k + 1) = nxJ na j k + 1 ∧ numJ na i j k = nxJ na j k := by
  unfold nxJ numJ
  rw [if_neg h]
  constructor
  · split <;> split <;> omega
  · split <;> split <;> omega
theorem numJ_at {na i j : Int} {k : Nat} (h : (k : Int) = j) : numJ na i j k = i := by unfold numJ; rw [if_pos h]
/-- the new numbers of the second pattern's creases -/
def jNum (na i j : Int) (n : Nat) : List Int := (List.range n).map (numJ na i j)
theorem jNum_len (na i j : Int) (n : Nat) : (jNum na i j n).length = n := by simp [jNum]
theorem jNum_succ (na i j : Int) (n : Nat) : jNum na i j (n + 1) = jNum na i j n ++ [numJ na i j n] := by simp [jNum, List.range_succ]
theorem jNum_get {na i j : Int} {n c : Nat} (h : c < n) : (jNum na i j n)[c]? = some (numJ na i j c) := by simp [jNum, h]
end Go.Proofs.Ytngpeehjjcgmmaa
