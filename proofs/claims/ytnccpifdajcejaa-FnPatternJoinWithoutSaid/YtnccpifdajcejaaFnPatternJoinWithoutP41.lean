/- Patterns with other numbers of creases: a vertex left out, two patterns joined. No program, no condition. The program's renumbered: a vertex of its own with other numbers; slices.Clone of integers. No condition but sizes. The laws' own helpers on vertices: a comparison; a copy reads as the vertices that it is of. No condition but sizes. The laws' own helpers that mark a list of integers and ask whether it still holds its marks. No condition but sizes. Copies of vertices whose lists are rows of their own, each another one; marking them. No condition but sizes. -/
import Derived.Test.YtnccpifdajcejaaPat
import Derived.Lib.SliceRun
import Derived.Test.YtnccpifdajcejaaPushV
import Derived.Test.YtnccpifdajcejaaPatK
import Derived.Test.YtnccpifdajcejaaVertB
import Derived.Test.YtnccpifdajcejaaLawA
import Derived.Test.YtnccpifdajcejaaPush
namespace Go.Proofs.Ytnccpifdajcejaa

/-- a vertex with other numbers -/
def renV (f : Nat → Int) (v : List Int × List Int) : List Int × List Int := (v.1, v.2.map fun c => f c.toNat)
theorem renV_congr {f g : Nat → Int} {v : List Int × List Int} (h : ∀ c ∈ v.2, f c.toNat = g c.toNat) : renV f v = renV g v := by
  unfold renV
  rw [List.map_congr_left h]
/-- of the first k creases those that are used -/
def numW (vs : List (List Int × List Int)) : Nat → Nat
  | 0 => 0
  | k + 1 => numW vs k + (if 0 < useN vs (k : Int) then 1 else 0)
theorem numW_le (vs : List (List Int × List Int)) (k : Nat) : numW vs k ≤ k := by
  induction k with
  | zero => simp [numW]
  | succ k ih => rw [numW]; split <;> omega
def withoutL (vs : List (List Int × List Int)) (k : Nat) : List (List Int × List Int) := (vs.eraseIdx k).map (renV fun c => (numW (vs.eraseIdx k) c : Int))
/-- the new numbers of the second pattern of two -/
def numJ (na i j : Int) (k : Nat) : Int := if (k : Int) = j then i else if (k : Int) < j then na + (k : Int) else na + (k : Int) - 1
def joinL (us vs : List (List Int × List Int)) (i j : Int) : List (List Int × List Int) := us ++ vs.map (renV (numJ (ncr us) i j))
/-- may two patterns be joined there -/
def joinB (us vs : List (List Int × List Int)) (i j : Int) : Bool := patB us && patB vs && decide (useN us i = 1) && decide (useN vs j = 1) && patB (joinL us vs i j)
def withoutB (vs : List (List Int × List Int)) (k : Int) : Bool := patB vs && decide (0 ≤ k) && decide (k < vs.length) && decide (vs.length ≠ 1)

theorem useN_erase {vs : List (List Int × List Int)} {k : Nat} (h : k < vs.length) (c : Int) : useN vs c = useN (vs.eraseIdx k) c + (if c ∈ vs[k].2 then 1 else 0) := by
  induction vs generalizing k with
  | nil => simp at h
  | cons v r ih =>
    cases k with
    | zero => simp [useN]; omega
    | succ k =>
      have hk : k < r.length := by simpa using h
      rw [List.eraseIdx_cons_succ, useN, useN, ih hk]
      simp only [List.getElem_cons_succ]
      omega
theorem useN_out {vs : List (List Int × List Int)} {c : Int} (h : c < 0 ∨ ncr vs ≤ c) (hv : ∀ v ∈ vs, ∀ x ∈ v.2, 0 ≤ x) : useN vs c = 0 := by
  rcases Nat.eq_zero_or_pos (useN vs c) with h0 | h0
  · exact h0
  · exfalso
    obtain ⟨v, hm, hc⟩ := useN_pos.1 h0
    have h1 := hv v hm c hc
    have h2 := (ncGo_le 0 vs).2 v hm c hc
    unfold ncr at h
    omega
theorem renV_id {v : List Int × List Int} (h : ∀ c ∈ v.2, 0 ≤ c) : renV (fun c => (c : Int)) v = v := by
  obtain ⟨x, y⟩ := v
  unfold renV
  congr 1
  have : y.map (fun c => ((c.toNat : Nat) : Int)) = y.map id := List.map_congr_left fun c hc => by have := h c hc; show ((c.toNat : Nat) : Int) = c; omega
  rw [this, List.map_id]
/-- the counts, some vertex's creases taken off -/
def decL (vs : List (List Int × List Int)) (cs : List Int) (n : Nat) : List Int := (List.range n).map fun (k : Nat) => (useN vs (k : Int) : Int) - (if (k : Int) ∈ cs then 1 else 0)
theorem decL_len (vs : List (List Int × List Int)) (cs : List Int) (n : Nat) : (decL vs cs n).length = n := by simp [decL]
theorem decL_nil (vs : List (List Int × List Int)) (n : Nat) : decL vs [] n = usesL vs n := by simp [decL, usesL]
theorem decL_all {vs : List (List Int × List Int)} {k : Nat} (h : k < vs.length) (n : Nat) : decL vs vs[k].2 n = usesL (vs.eraseIdx k) n := by
  unfold decL usesL
  refine List.map_congr_left fun j _ => ?_
  have := useN_erase h (j : Int)
  split <;> simp_all
theorem decL_get {vs : List (List Int × List Int)} {cs : List Int} {n m : Nat} (hm : m < n) (h : (m : Int) ∉ cs) : (decL vs cs n)[m]? = some (useN vs (m : Int) : Int) := by
  simp [decL, hm, h]
theorem decL_set {vs : List (List Int × List Int)} {cs : List Int} {n m j : Nat} (hj : j < cs.length) (hc : cs[j] = (m : Int)) (hn : cs.Nodup) :
    (m : Int) ∉ cs.take j ∧ (decL vs (cs.take j) n).set m ((useN vs (m : Int) : Int) - 1) = decL vs (cs.take (j + 1)) n := by
  have hnot : (m : Int) ∉ cs.take j := by
    intro hin
    obtain ⟨i, hi, e⟩ := List.getElem_of_mem hin
    have hij : i < j := by simpa using (by rw [List.length_take] at hi; omega : i < j)
    rw [List.getElem_take] at e
    have hne := (List.nodup_iff_pairwise_ne.1 hn)
    have := List.pairwise_iff_getElem.1 hne i j (by omega) hj hij
    exact this (by rw [e, hc])
  refine ⟨hnot, ?_⟩
  apply List.ext_getElem?
  intro k
  rw [List.getElem?_set]
  by_cases hk : k < n
  · by_cases e : m = k
    · subst e
      rw [if_pos rfl, decL_len, if_pos hk]
      simp only [decL, List.getElem?_map, List.getElem?_range hk, Option.map_some]
      rw [if_pos]
      rw [List.take_succ_eq_append_getElem hj, hc]; simp
    · rw [if_neg e]
      simp only [decL, List.getElem?_map, List.getElem?_range hk, Option.map_some]
      congr 2
      rw [List.take_succ_eq_append_getElem hj, hc]
      have : ¬ (k : Int) = (m : Int) := by omega
      simp [this]
  · rw [List.getElem?_eq_none (by rw [decL_len]; omega), List.getElem?_eq_none (by rw [decL_len]; omega)]
    split
    · rw [decL_len, if_neg (by omega)]
    · rfl
/-- the new numbers of the first j creases -/
def numL (vs : List (List Int × List Int)) (n j : Nat) : List Int := (List.range n).map fun (k : Nat) => if k < j ∧ 0 < useN vs (k : Int) then (numW vs k : Int) else 0
theorem numL_len (vs : List (List Int × List Int)) (n j : Nat) : (numL vs n j).length = n := by simp [numL]
theorem numL_zero (vs : List (List Int × List Int)) (n : Nat) : numL vs n 0 = List.replicate n 0 := by
  apply List.ext_getElem?
  intro k
  by_cases hk : k < n <;> simp [numL, hk]
theorem numL_yes {vs : List (List Int × List Int)} {n j : Nat} (h : 0 < useN vs (j : Int)) : (numL vs n j).set j (numW vs j : Int) = numL vs n (j + 1) := by
  apply List.ext_getElem?
  intro k
  rw [List.getElem?_set]
  by_cases hk : k < n
  · by_cases e : j = k
    · subst e
      rw [if_pos rfl, numL_len, if_pos hk]
      simp [numL, hk, h]
    · rw [if_neg e]
      simp only [numL, List.getElem?_map, List.getElem?_range hk, Option.map_some]
      congr 1
      have : (k < j ∧ 0 < useN vs (k : Int)) ↔ (k < j + 1 ∧ 0 < useN vs (k : Int)) := by constructor <;> rintro ⟨h1, h2⟩ <;> exact ⟨by omega, h2⟩
      by_cases q : k < j ∧ 0 < useN vs (k : Int)
      · rw [if_pos q, if_pos (this.1 q)]
      · rw [if_neg q, if_neg (fun x => q (this.2 x))]
  · rw [List.getElem?_eq_none (by rw [numL_len]; omega), List.getElem?_eq_none (by rw [numL_len]; omega)]
    split
    · rw [numL_len, if_neg (by omega)]
    · rfl
theorem numL_no {vs : List (List Int × List Int)} {n j : Nat} (h : ¬ 0 < useN vs (j : Int)) : numL vs n j = numL vs n (j + 1) := by
  unfold numL
  refine List.map_congr_left fun k _ => ?_
  have : (k < j ∧ 0 < useN vs (k : Int)) ↔ (k < j + 1 ∧ 0 < useN vs (k : Int)) := by
    constructor
    · rintro ⟨h1, h2⟩; exact ⟨by omega, h2⟩
    · rintro ⟨h1, h2⟩
      refine ⟨?_, h2⟩
      rcases Nat.lt_or_ge k j with h3 | h3
      · exact h3
      · have : k = j := by omega
        subst this; exact absurd h2 h
  by_cases q : k < j ∧ 0 < useN vs (k : Int)
  · rw [if_pos q, if_pos (this.1 q)]
  · rw [if_neg q, if_neg (fun x => q (this.2 x))]
theorem numL_get {vs : List (List Int × List Int)} {n c : Nat} (hc : c < n) (h : 0 < useN vs (c : Int)) : (numL vs n n)[c]? = some (numW vs c : Int) := by simp [numL, hc, h]
/-- what is left of a pattern, or nothing -/
def woR (vs : List (List Int × List Int)) (k : Int) : List (List Int × List Int) := if withoutB vs k then withoutL vs k.toNat else []
theorem withoutL_len {vs : List (List Int × List Int)} {k : Nat} (h : k < vs.length) : (withoutL vs k).length = vs.length - 1 := by
  unfold withoutL; rw [List.length_map, List.length_eraseIdx, if_pos h]
/-- how many are done behind k rounds -/
def doneN (at_ k : Nat) : Nat := if at_ < k then k - 1 else k
theorem withoutL_get {vs : List (List Int × List Int)} {at_ k : Nat} (h : k < vs.length) (hne : k ≠ at_) : (withoutL vs at_)[doneN at_ k]? = some (renV (fun c => (numW (vs.eraseIdx at_) c : Int)) vs[k]) := by
  unfold withoutL doneN
  rw [List.getElem?_map, List.getElem?_eraseIdx]
  by_cases q : at_ < k
  · rw [if_pos q, if_neg (by omega), show k - 1 + 1 = k from by omega, List.getElem?_eq_getElem h]; rfl
  · rw [if_neg q, if_pos (by omega), List.getElem?_eq_getElem h]; rfl
theorem erase_mem {vs : List (List Int × List Int)} {at_ k : Nat} (h : k < vs.length) (hne : k ≠ at_) : vs[k] ∈ vs.eraseIdx at_ := by
  have : (vs.eraseIdx at_)[doneN at_ k]? = some vs[k] := by
    unfold doneN
    rw [List.getElem?_eraseIdx]
    by_cases q : at_ < k
    · rw [if_pos q, if_neg (by omega), show k - 1 + 1 = k from by omega, List.getElem?_eq_getElem h]
    · rw [if_neg q, if_pos (by omega), List.getElem?_eq_getElem h]
  exact List.mem_of_getElem? this
/-- the new numbers of all creases, used or not -/
def wNum (vs : List (List Int × List Int)) (j : Nat) : List Int := (List.range j).map fun (k : Nat) => (numW vs k : Int)
theorem wNum_len (vs : List (List Int × List Int)) (j : Nat) : (wNum vs j).length = j := by simp [wNum]
theorem wNum_succ (vs : List (List Int × List Int)) (j : Nat) : wNum vs (j + 1) = wNum vs j ++ [(numW vs j : Int)] := by simp [wNum, List.range_succ]
theorem wNum_get {vs : List (List Int × List Int)} {j c : Nat} (h : c < j) : (wNum vs j)[c]? = some (numW vs c : Int) := by simp [wNum, h]
/-- the first t of n numbers filled in -/
def fillTo (f : Nat → Int) (n t : Nat) : List Int := (List.range n).map fun (k : Nat) => if k < t then f k else 0
theorem fillTo_len (f : Nat → Int) (n t : Nat) : (fillTo f n t).length = n := by simp [fillTo]
theorem fillTo_zero (f : Nat → Int) (n : Nat) : fillTo f n 0 = List.replicate n 0 := by
  apply List.ext_getElem?
  intro k
  by_cases hk : k < n <;> simp [fillTo, hk]
theorem fillTo_set (f : Nat → Int) {n t : Nat} : (fillTo f n t).set t (f t) = fillTo f n (t + 1) := by
  apply List.ext_getElem?
  intro k
  rw [List.getElem?_set]
  by_cases hk : k < n
  · by_cases e : t = k
    · subst e
      rw [if_pos rfl, fillTo_len, if_pos hk]
      simp [fillTo, hk]
    · rw [if_neg e]
      simp only [fillTo, List.getElem?_map, List.getElem?_range hk, Option.map_some]
      congr 1
      by_cases q : k < t
      · rw [if_pos q, if_pos (by omega)]
      · rw [if_neg q, if_neg (by omega)]
  · rw [List.getElem?_eq_none (by rw [fillTo_len]; omega), List.getElem?_eq_none (by rw [fillTo_len]; omega)]
    split
    · rw [fillTo_len, if_neg (by omega)]
    · rfl
theorem fillTo_get {f : Nat → Int} {n c : Nat} (h : c < n) : (fillTo f n n)[c]? = some (f c) := by simp [fillTo, h]
/-- two patterns joined, or nothing -/
def jR (us vs : List (List Int × List Int)) (i j : Int) : List (List Int × List Int) := if joinB us vs i j then joinL us vs i j else []
theorem joinL_len (us vs : List (List Int × List Int)) (i j : Int) : (joinL us vs i j).length = us.length + vs.length := by simp [joinL]
theorem joinL_left {us vs : List (List Int × List Int)} {i j : Int} {k : Nat} (h : k < us.length) : (joinL us vs i j)[k]? = some us[k] := by
  unfold joinL; rw [List.getElem?_append_left h, List.getElem?_eq_getElem h]
theorem joinL_right {us vs : List (List Int × List Int)} {i j : Int} {k : Nat} (h : k < vs.length) : (joinL us vs i j)[us.length + k]? = some (renV (numJ (ncr us) i j) vs[k]) := by
  unfold joinL
  rw [List.getElem?_append_right (by omega), List.getElem?_map, show us.length + k - us.length = k from by omega, List.getElem?_eq_getElem h]; rfl
theorem joinB_no {us vs : List (List Int × List Int)} {i j : Int} (h : patB us = false ∨ patB vs = false ∨ useN us i ≠ 1 ∨ useN vs j ≠ 1) : joinB us vs i j = false := by
  unfold joinB
  rcases h with h | h | h | h
  · rw [h]; rfl
  · rw [h, Bool.and_false]; rfl
  · rw [decide_eq_false h]; simp
  · rw [decide_eq_false h]; simp
theorem joinB_yes {us vs : List (List Int × List Int)} {i j : Int} (h1 : patB us = true) (h2 : patB vs = true) (h3 : useN us i = 1) (h4 : useN vs j = 1) : joinB us vs i j = patB (joinL us vs i j) := by
  unfold joinB
  rw [h1, h2, decide_eq_true h3, decide_eq_true h4]; rfl
/-- the number that comes next -/
def nxJ (na j : Int) (k : Nat) : Int := if j < (k : Int) then na + (k : Int) - 1 else na + (k : Int)
theorem nxJ_at {na j : Int} {k : Nat} (h : (k : Int) = j) : nxJ na j (k + 1) = nxJ na j k := by unfold nxJ; split <;> split <;> omega
theorem nxJ_no {na i j : Int} {k : Nat} (h : ¬ (k : Int) = j) : nxJ na j (k + 1) = nxJ na j k + 1 ∧ numJ na i j k = nxJ na j k := by
  unfold nxJ numJ
  rw [if_neg h]
  constructor
  · split <;> split <;> omega
  · split <;> split <;> omega
theorem numJ_at {na i j : Int} {k : Nat} (h : (k : Int) = j) : numJ na i j k = i := by unfold numJ; rw [if_pos h]
/-- the new numbers of the second pattern's creases -/
def jNum (na i j : Int) (n : Nat) : List Int := (List.range n).map (numJ na i j)
theorem jNum_len (na i j : Int) (n : Nat) : (jNum na i j n).length = n := by simp [jNum]
theorem jNum_succ (na i j : Int) (n : Nat) : jNum na i j (n + 1) = jNum na i j n ++ [numJ na i j n] := by simp [jNum, List.range_succ]
theorem jNum_get {na i j : Int} {n c : Nat} (h : c < n) : (jNum na i j n)[c]? = some (numJ na i j c) := by simp [jNum, h]
end Go.Proofs.Ytnccpifdajcejaa
namespace Go.Proofs.Ytnccpifdajcejaa
open Go.RowKit

set_option maxHeartbeats 1000000 in
set_option maxRecDepth 100000 in
theorem slices_Clone (b off cap : Nat) (xs : List Int) (w : World) (h : Ints w (some ⟨b, off, none⟩) xs) (hl : xs.length ≤ 1000000) :
    Calls Try.prog 76 #[.slice (some ⟨b, off, none⟩) xs.length cap] w fun e w' => ∃ v, e = .returned v ∧ Own w' w.heap.size v xs ∧ Below w.heap.size w w' := by
  obtain ⟨w1, hw1⟩ : ∃ w1, w1 = w.alloc (.cells #[] 3) := ⟨_, rfl⟩
  have hb1 : Below w.heap.size w w1 := by rw [hw1]; exact (Below.refl _ _).alloc (Nat.le_refl _) _
  have ho1 : Own w1 w.heap.size (.slice (some ⟨w.heap.size, 0, none⟩) 0 0) [] := by rw [hw1]; exact own_empty w (Nat.le_refl _)
  have HW := Lib.hid hw1
  clear hw1
  go_enter Try.func76, Try.ntmps76
  go_wp2_with fail
  rw [Lib.run_eql_slice_nil _ _ _ _ _ _ _ _ Try.underlying27]
  go_wp2_with (at_builtin; go_loud (rw [← HW.out]; refine wpList_app (by rfl) _ _ (by rfl) w.heap.size _ [] xs _ _ (by rfl) xs.length rfl (by rfl) ho1 (h.below hb1) hb1.size (by simp; omega) ?_))
  intro v' w2 ho2 hg2 hb2
  go_wp2_with fail
  go_ret
  exact ⟨v', rfl, by simpa using ho2, hb1.trans hb2⟩

theorem map_take_succ {cs : List Int} {f : Int → Int} {k : Nat} (h : k < cs.length) : (cs.take (k + 1)).map f = (cs.take k).map f ++ [f cs[k]] := by
  rw [List.take_succ_eq_append_getElem h, List.map_append]; rfl

set_option maxHeartbeats 2000000 in
set_option maxRecDepth 100000 in
theorem impl_renumbered (A1 A2 AN : Option Addr) (c1 c2 cN : Nat) (xs cs ns : List Int) (f : Nat → Int) (w : World) (h1 : Ints w A1 xs) (h2 : Ints w A2 cs) (hN : Ints w AN ns) (l0 : 0 < xs.length) (l1 : xs.length ≤ 1000) (l2 : cs.length ≤ 1000) (hx : ∀ c ∈ cs, 0 ≤ c ∧ ns[c.toNat]? = some (f c.toNat)) (hnl : ns.length ≤ 1000) :
    Calls Try.prog 54 #[.agg #[.slice A1 xs.length c1, .slice A2 cs.length c2], .slice AN ns.length cN] w fun e w' => ∃ U V, e = .returned (.agg #[U, V]) ∧ Own w' w.heap.size U xs ∧ Own w' w.heap.size V (cs.map fun c => f c.toNat) ∧ (U.ownBlock = none ∨ U.ownBlock ≠ V.ownBlock) ∧ Below w.heap.size w w' := by
  obtain ⟨i0, hi, hz0, hz1, hz2⟩ := info_parts Try.infoInt
  obtain ⟨b1, off1, _, rfl, _, _, _, _⟩ := h1.at_ l0
  obtain ⟨w2, hw2⟩ : ∃ w2, w2 = ((w.alloc (.cells #[.slice (some ⟨b1, off1, none⟩) xs.length c1, .slice A2 cs.length c2] 30)).alloc (.cells #[.slice none 0 0, .slice none 0 0] 30)) := ⟨_, rfl⟩
  have b2 : Below w.heap.size w w2 := by rw [hw2]; exact ((Below.refl _ _).alloc (Nat.le_refl _) _).alloc (by simp) _
  have K0 : Blk w2 w.heap.size 30 #[.slice (some ⟨b1, off1, none⟩) xs.length c1, .slice A2 cs.length c2] := by rw [hw2]; exact (Blk.new w _ _).alloc _
  have K1 : Blk w2 (w.heap.size + 1) 30 #[.slice none 0 0, .slice none 0 0] := by
    rw [hw2]
    have := Blk.new (w.alloc (.cells #[.slice (some ⟨b1, off1, none⟩) xs.length c1, .slice A2 cs.length c2] 30)) 30 #[.slice none 0 0, .slice none 0 0]
    simpa using this
  have s2 : w2.heap.size = w.heap.size + 2 := by rw [hw2]; simp
  have HW := Lib.hid hw2
  have HX := Lib.hid hx
  obtain ⟨w3, hrun, hown3, hg3⟩ := run_make_own (P := Try.prog) w2 w2.heap.size 27 3 i0 (.int .i64 0) 1 Try.underlying27 hi hz0 hz1 .i64 .i64 cs.length (by rw [hz2]; omega) (by unfold maxLen; omega) (Nat.le_refl _)
  have HRun := Lib.hid hrun
  have HS2 := Lib.hid s2
  have HK0 := Lib.hid K0
  have HK1 := Lib.hid K1
  have HI1 := Lib.hid (h1.below b2)
  have HI2 := Lib.hid (h2.below b2)
  have HIN := Lib.hid (hN.below b2)
  have HB2 := Lib.hid b2
  have e01 := K0.cell 1
  clear hw2 hx s2 K0 K1 h1 h2 hN b2
  go_enter Try.func54, Try.ntmps54
  go_wp2_with fail
  rw [← HW.out]
  go_wp2_with fail
  rw [HRun.out]
  have hb3 : Below w2.heap.size w2 w3 := (Below.refl _ _).grown hg3 (Nat.le_refl _) (by intro k hk; cases hk)
  have hown3' : Own w3 w2.heap.size (.slice (some ⟨w2.heap.size, 0, none⟩) 0 cs.length) ((cs.take 0).map fun c => f c.toNat) := hown3
  have hb3' : Below w.heap.size w w3 := HB2.out.trans (hb3.mono HB2.out.size)
  have hk03 := HK0.out.below hb3 HK0.out.lt
  have e01' := hk03.cell 1
  have HO3 := Lib.hid hown3'
  have HB3 := Lib.hid hb3
  clear hi hz0 hz1 hz2 hrun hown3 hown3' hg3 hb3 hk03 e01 hb3'
  go_wp2_with fail
  go_loopg [5, 7, 15] (cs.length + 1) (fun gg s5 s7 s15 wr => ∃ (k : Nat), s7 = s7 ∧ k ≤ cs.length ∧ s15 = .int .i64 k ∧ cs.length - k < gg ∧ Own wr w2.heap.size s5 ((cs.take k).map fun c => f c.toNat) ∧ Hid (Below w2.heap.size w2 wr))
  case atStart => exact ⟨0, rfl, Nat.zero_le _, rfl, by omega, HO3.out, HB3⟩
  case round =>
    clear HO3 HB3 e01'
    obtain ⟨k, _, hk, rfl, hg, hown, HB⟩ := hrel
    cases gk with
    | zero => omega
    | succ gg =>
    by_cases hlt : k < cs.length
    · obtain ⟨m, hm⟩ : ∃ m : Nat, cs[k] = (m : Int) := ⟨cs[k].toNat, by have := HX.out cs[k] (List.getElem_mem hlt); omega⟩
      have hnm : ns[m]? = some (f m) := by have := (HX.out cs[k] (List.getElem_mem hlt)).2; rw [hm] at this; simpa using this
      have hml : m < ns.length := (List.getElem?_eq_some_iff.1 hnm).1
      obtain ⟨b, off, rfl, hb, hc⟩ := (HI2.out.below HB.out) (by intro e; subst e; simp at hlt)
      have r1 := hc k cs[k] (List.getElem?_eq_getElem hlt)
      rw [hm] at r1
      obtain ⟨bN, offN, rfl, hbN, hcN⟩ := (HIN.out.below HB.out) (by intro e; subst e; simp at hml)
      have r2 := hcN m _ hnm
      have HT : Hid ((cs.take (k + 1)).map (fun c => f c.toNat) = (cs.take k).map (fun c => f c.toNat) ++ [f m]) := by
        show _ = _
        rw [map_take_succ hlt, hm]; rfl
      obtain ⟨z, hz⟩ : ∃ z, z = f m := ⟨_, rfl⟩
      rw [← hz] at r2 HT
      have k1 : (k : Int) < (cs.length : Int) := by omega
      have k0 : (0 : Int) ≤ (k : Int) := by omega
      have m0 : (0 : Int) ≤ (m : Int) := by omega
      have m1 : (m : Int) < (ns.length : Int) := by omega
      have hsz := HB.out.size
      have hln : ((cs.take k).map fun c => f c.toNat).length ≤ 1000 := by rw [List.length_map, List.length_take]; omega
      obtain ⟨ys, hys⟩ : ∃ ys, ys = (cs.take k).map fun c => f c.toNat := ⟨_, rfl⟩
      rw [← hys] at hown hln HT
      have HYS := Lib.hid hys
      clear hm hc hcN hnm hz hys
      go_wp2_with (at_builtin; go_loud (refine wpList_push (W := wr) rfl _ _ rfl w2.heap.size _ _ z (by rfl) (by rfl) hown hsz (by omega) ?_))
      intro v' w4 hown4 hgr4 hb4
      rw [← HT.out] at hown4
      have HB4 := Lib.hid (HB.out.trans hb4)
      clear hown hgr4 hb4 r1 r2 hln
      go_wp2_with fail
      go_roundg gg
      case measure => omega
      case rel => exact ⟨k + 1, trivial, by omega, by go_num, by omega, hown4, HB4⟩
    · obtain rfl : k = cs.length := by omega
      rw [List.take_length] at hown
      have hk0 := HK0.out.below HB.out HK0.out.lt
      have hk1 := HK1.out.below HB.out HK1.out.lt
      have e00 := hk0.cell 0
      have hsz := HB.out.size
      have hwr : w.heap.size < wr.heap.size := by have := HS2.out; omega
      have HK1' := Lib.hid hk1
      have hB := HS2.out
      have HS := Lib.hid hB
      obtain ⟨A5, c5, rfl, i5, k5, m5⟩ := hown.form
      have HOwn := Lib.hid hown
      clear hk0 hk1 hB i5 hown
      go_wp2_with fail
      refine (slices_Clone b1 off1 c1 xs wr (HI1.out.below HB.out) (by omega)).mono ?_
      rintro e w4 ⟨U, rfl, oU, hb4⟩
      obtain ⟨A4, c4, rfl, i4, k4, m4⟩ := oU.form
      have hk1' := HK1'.out.below hb4 HK1'.out.lt
      have oV : Own w4 w2.heap.size _ (cs.map fun c => f c.toNat) := own_below2' HOwn.out hb4
      have f0 := hk1'.frozen 0
      have f1 := hk1'.frozen 1
      have g0 := hk1'.cell 0
      have g1 := hk1'.cell 1
      have hs := HS.out
      have hUV : (Value.slice A4 xs.length c4).ownBlock = none ∨ (Value.slice A4 xs.length c4).ownBlock ≠ (Value.slice A5 (cs.map fun c => f c.toNat).length c5).ownBlock := by
        cases hU : (Value.slice A4 xs.length c4).ownBlock with
        | none => exact Or.inl rfl
        | some q =>
          right
          intro e
          have h3 := (oU.lt q hU).1
          have h4 := (HOwn.out.lt q e.symm).2
          omega
      rw [List.length_map] at hUV
      obtain ⟨w5, hw5⟩ : ∃ w5, w5 = (w4.setCell ⟨w.heap.size + 1, 0, none⟩ (Value.slice A4 xs.length c4)).setCell ⟨w.heap.size + 1, 1, none⟩ (Value.slice A5 cs.length c5) := ⟨_, rfl⟩
      have hK5 : Blk w5 (w.heap.size + 1) 30 #[Value.slice A4 xs.length c4, Value.slice A5 cs.length c5] := by
        rw [hw5]; exact (hk1'.set_ 0 _).set_ 1 _
      have d0 := hK5.cell 0
      have d1 := hK5.cell 1
      have oU5 : Own w5 w.heap.size (.slice A4 xs.length c4) xs := by
        rw [hw5]
        exact own_lower' (own_far (own_far oU (by omega) _ _) (by omega) _ _) (by omega)
      have oV5 : Own w5 w.heap.size (.slice A5 cs.length c5) (cs.map fun c => f c.toNat) := by
        rw [hw5]
        have oV' : Own w4 w2.heap.size (.slice A5 cs.length c5) (cs.map fun c => f c.toNat) := by
          have := oV
          rwa [List.length_map] at this
        exact own_lower' (own_far (own_far oV' (by omega) _ _) (by omega) _ _) (by omega)
      have b5 : Below w.heap.size w w5 := by
        rw [hw5]
        exact (((HB2.out.trans (HB.out.mono (by omega))).trans (hb4.mono (by omega))).trans (below_set w4 0 _ (by omega))).trans (below_set _ 1 _ (by omega))
      have HW5 := Lib.hid hw5
      have HD := Lib.hid (show w5.cell? ⟨w.heap.size + 1, 0, none⟩ = some (Value.slice A4 xs.length c4) ∧ w5.cell? ⟨w.heap.size + 1, 1, none⟩ = some (Value.slice A5 cs.length c5) from ⟨d0, d1⟩)
      clear d0 d1 hw5 hK5 hk1' oU oV
      go_wp2_with fail
      rw [← HW5.out]
      refine bodyPost_ret (v := .agg #[Value.slice A4 xs.length c4, Value.slice A5 cs.length c5]) (by simp [results, Try.results54, go_sem, HD.out.1, HD.out.2]) rfl ⟨_, _, rfl, oU5, oV5, hUV, b5⟩
end Go.Proofs.Ytnccpifdajcejaa
namespace Go.Proofs.Ytnccpifdajcejaa
open Go.RowKit

theorem RowV.verts {w : World} {B g : Nat} {vs : List Vx} {L : List Value} (h : RowV w B g vs.length L) (ht : RowTo w g vs L vs.length) : Verts w (some ⟨g, 0, none⟩) vs := by
  intro hn
  refine ⟨g, 0, rfl, (h.lt _ rfl).2, fun k v hk => ?_⟩
  have hkl : k < vs.length := (List.getElem?_eq_some_iff.1 hk).1
  obtain ⟨U, V, e1, e2, e3, e4⟩ := ht k v hkl hk
  refine ⟨U, V, ?_, ?_, e3.intsV, e4.intsV⟩
  · rw [Nat.zero_add, h.cellAt (k * 2) (by omega), e1]
  · rw [Nat.zero_add, h.cellAt (k * 2 + 1) (by omega), e2]


end Go.Proofs.Ytnccpifdajcejaa
namespace Go.Proofs.Ytnccpifdajcejaa
open Go.RowKit

/-- the numbers from k on, n of them -/
def countFrom (k : Int) (n : Nat) : List Int := (List.range n).map fun (i : Nat) => k + (i : Int)
theorem countFrom_len (k : Int) (n : Nat) : (countFrom k n).length = n := by simp [countFrom]
theorem countFrom_get (k : Int) (n i : Nat) (h : i < n) : (countFrom k n)[i]? = some (k + (i : Int)) := by
  simp [countFrom, h]

theorem mark_step {xs : List Int} {k : Int} {j : Nat} (h : j < xs.length) :
    ((countFrom k j ++ xs.drop j).map (Value.int .i64)).set j (.int .i64 (k + (j : Int))) = (countFrom k (j + 1) ++ xs.drop (j + 1)).map (Value.int .i64) := by
  rw [← List.map_set]
  congr 1
  rw [List.set_append_right _ _ (by rw [countFrom_len]; exact Nat.le_refl _), countFrom_len, Nat.sub_self, List.drop_eq_getElem_cons h, List.set_cons_zero]
  simp [countFrom, List.range_succ]

end Go.Proofs.Ytnccpifdajcejaa
namespace Go.Proofs.Ytnccpifdajcejaa
open Go.RowKit

theorem size_set' (w : World) (p : Addr) (v : Value) : (w.setCell p v).heap.size = w.heap.size := by simp
theorem own_below2 {w w' : World} {B : Nat} {e : TypeId} {z n : Nat} {v : Value} {xs : List Value} (h : w.ownsRow B e z v n xs) (hb : Below w.heap.size w w') : w'.ownsRow B e z v n xs :=
  h.kept (row := none) ⟨hb.os, hb.tape, hb.output, hb.size, fun i hi _ => hb.block i hi⟩ (by cases hv : v.ownBlock <;> simp)
/-- the first k vertices lie in the row's cells L, each list a row of its own below H -/
def RowOw (w : World) (g H : Nat) (vs : List Vx) (L : List Value) (k : Nat) : Prop :=
  (∀ i v, i < k → vs[i]? = some v → ∃ U V, L[i * 2]? = some U ∧ L[i * 2 + 1]? = some V ∧ Own w (g + 1) U v.1 ∧ Own w (g + 1) V v.2) ∧
  (∀ i j U V, i < j → j < k * 2 → L[i]? = some U → L[j]? = some V → V.ownBlock = none ∨ V.ownBlock ≠ U.ownBlock) ∧
  (∀ i U q, i < k * 2 → L[i]? = some U → U.ownBlock = some q → q < H)
theorem RowOw.zero (w : World) (g H : Nat) (vs : List Vx) (L : List Value) : RowOw w g H vs L 0 := ⟨fun i v hi => by omega, fun i j U V _ hj => by omega, fun i U q hi => by omega⟩
theorem RowOw.below {w w' : World} {g H : Nat} {vs : List Vx} {L : List Value} {k : Nat} (h : RowOw w g H vs L k) (hb : Below w.heap.size w w') : RowOw w' g H vs L k := by
  refine ⟨fun i v hi hv => ?_, h.2.1, h.2.2⟩
  obtain ⟨U, V, e1, e2, e3, e4⟩ := h.1 i v hi hv
  exact ⟨U, V, e1, e2, own_below2 e3 hb, own_below2 e4 hb⟩
theorem RowOw.far {w : World} {g H : Nat} {vs : List Vx} {L : List Value} {k : Nat} (h : RowOw w g H vs L k) {i : Nat} {u : Value} : RowOw (w.setCell ⟨g, i, none⟩ u) g H vs L k := by
  refine ⟨fun i v hi hv => ?_, h.2.1, h.2.2⟩
  obtain ⟨U, V, e1, e2, e3, e4⟩ := h.1 i v hi hv
  exact ⟨U, V, e1, e2, own_far e3 (by omega) _ _, own_far e4 (by omega) _ _⟩
theorem RowOw.rowTo {w : World} {g H : Nat} {vs : List Vx} {L : List Value} {k : Nat} (h : RowOw w g H vs L k) : RowTo w g vs L k := by
  intro i v hi hv
  obtain ⟨U, V, e1, e2, e3, e4⟩ := h.1 i v hi hv
  exact ⟨U, V, e1, e2, IntsA.of_own e3 (by omega), IntsA.of_own e4 (by omega)⟩
theorem RowOw.next {w : World} {g H : Nat} {vs : List Vx} {L : List Value} {k : Nat} (h : RowOw w g H vs L k) {xs cs : List Int} {U V : Value} (hL : k * 2 + 1 < L.length) (hk : vs[k]? = some (xs, cs)) (hU : Own w H U xs) (hV : Own w H V cs) (hUV : U.ownBlock = none ∨ U.ownBlock ≠ V.ownBlock) (hg : g < H) (hH : H ≤ w.heap.size) :
    RowOw w g w.heap.size vs ((L.set (k * 2) U).set (k * 2 + 1) V) (k + 1) := by
  obtain ⟨h1, h2, h3⟩ := h
  have get : ∀ i X, i < (k + 1) * 2 → ((L.set (k * 2) U).set (k * 2 + 1) V)[i]? = some X → (i < k * 2 ∧ L[i]? = some X) ∨ (i = k * 2 ∧ X = U) ∨ (i = k * 2 + 1 ∧ X = V) := by
    intro i X hi hX
    by_cases e1 : i = k * 2 + 1
    · subst e1
      rw [List.getElem?_set_self (by rw [List.length_set]; omega)] at hX
      exact Or.inr (Or.inr ⟨rfl, (Option.some.inj hX).symm⟩)
    · rw [List.getElem?_set_ne (by omega)] at hX
      by_cases e2 : i = k * 2
      · subst e2
        rw [List.getElem?_set_self (by omega)] at hX
        exact Or.inr (Or.inl ⟨rfl, (Option.some.inj hX).symm⟩)
      · rw [List.getElem?_set_ne (by omega)] at hX
        exact Or.inl ⟨by omega, hX⟩
  refine ⟨fun i v hi hv => ?_, fun i j X Y hij hj hX hY => ?_, fun i X q hi hX hq => ?_⟩
  · by_cases e : i = k
    · subst e
      rw [hk] at hv
      have hv2 := Option.some.inj hv
      subst hv2
      refine ⟨U, V, ?_, ?_, own_lower' hU (by omega), own_lower' hV (by omega)⟩
      · rw [List.getElem?_set_ne (by omega), List.getElem?_set_self (by omega)]
      · rw [List.getElem?_set_self (by rw [List.length_set]; omega)]
    · obtain ⟨X, Y, e1, e2, e3, e4⟩ := h1 i v (by omega) hv
      refine ⟨X, Y, ?_, ?_, e3, e4⟩
      · rw [List.getElem?_set_ne (by omega), List.getElem?_set_ne (by omega)]; exact e1
      · rw [List.getElem?_set_ne (by omega), List.getElem?_set_ne (by omega)]; exact e2
  · have low : ∀ i X, i < k * 2 → L[i]? = some X → ∀ Z : Value, (∀ q, Z.ownBlock = some q → H ≤ q) → Z.ownBlock = none ∨ Z.ownBlock ≠ X.ownBlock := by
      intro i X hi hX Z hZ
      cases hz : Z.ownBlock with
      | none => exact Or.inl rfl
      | some q =>
        right
        intro e
        have a1 := hZ q hz
        have a2 := h3 i X q hi hX e.symm
        omega
    rcases get i X (by omega) hX with ⟨a1, a2⟩ | ⟨a1, a2⟩ | ⟨a1, a2⟩ <;> rcases get j Y hj hY with ⟨b1, b2⟩ | ⟨b1, b2⟩ | ⟨b1, b2⟩
    · exact h2 i j X Y hij b1 a2 b2
    · subst b2; exact low i X a1 a2 _ (fun q hq => (hU.lt q hq).1)
    · subst b2; exact low i X a1 a2 _ (fun q hq => (hV.lt q hq).1)
    · omega
    · omega
    · subst a2 b2
      rcases hUV with e | e
      · cases hy : Y.ownBlock with
        | none => exact Or.inl rfl
        | some q => right; rw [e]; simp
      · exact Or.inr (fun e2 => e e2.symm)
    · omega
    · omega
    · omega
  · rcases get i X hi hX with ⟨a1, a2⟩ | ⟨a1, a2⟩ | ⟨a1, a2⟩
    · have := h3 i X q a1 a2 hq; omega
    · subst a2; exact (hU.lt q hq).2
    · subst a2; exact (hV.lt q hq).2


end Go.Proofs.Ytnccpifdajcejaa
