/- Levels of parts in a list of layers. No condition but sizes. -/
import Derived.Laws.OwnMore
import Derived.Test.YtngpeehjjcgmmaaFlatA
import Derived.Test.YtngpeehjjcgmmaaSeg
import Derived.Test.YtngpeehjjcgmmaaRen
namespace Go.Proofs.Ytngpeehjjcgmmaa
open Go.RowKit

/-- at which level of the first k layers the part j is, or -1 -/
def lvAt (L : List Int) : Nat → Int → Int
  | 0, _ => -1
  | k + 1, j => if L.getD k 0 = j then (k : Int) else lvAt L k j
theorem lvAt_succ (L : List Int) (k : Nat) (j : Int) : lvAt L (k + 1) j = if L.getD k 0 = j then (k : Int) else lvAt L k j := rfl
def lvTo (L : List Int) (n k : Nat) : List Int := (List.range n).map fun (j : Nat) => lvAt L k (j : Int)
theorem lvTo_len (L : List Int) (n k : Nat) : (lvTo L n k).length = n := by simp [lvTo]
theorem lvTo_get {L : List Int} {n k j : Nat} (h : j < n) : (lvTo L n k)[j]? = some (lvAt L k (j : Int)) := by simp [lvTo, h]
theorem lvAt_bd (L : List Int) (k : Nat) (j : Int) : -1 ≤ lvAt L k j ∧ lvAt L k j ≤ (k : Int) := by
  induction k with
  | zero => simp [lvAt]
  | succ k ih => rw [lvAt]; split <;> omega
/-- are the first k layers parts, each another one -/
def okTo (L : List Int) (n : Nat) : Nat → Bool
  | 0 => true
  | k + 1 => okTo L n k && (decide (0 ≤ L.getD k 0) && decide (L.getD k 0 < (n : Int)) && decide (lvAt L k (L.getD k 0) < 0))
def okL (L : List Int) (n : Nat) : Bool := decide (L.length = n) && okTo L n n
theorem okTo_step {L : List Int} {n k m : Nat} (h : okTo L n k = false) (hk : k ≤ m) : okTo L n m = false := by
  induction m with
  | zero => have : k = 0 := by omega
            subst this; exact h
  | succ m ih =>
    by_cases e : k = m + 1
    · subst e; exact h
    · rw [okTo, ih (by omega)]; rfl
theorem lvTo_zero (L : List Int) (n : Nat) : lvTo L n 0 = fillTo (fun _ => -1) n n := by
  unfold lvTo fillTo
  refine List.map_congr_left fun j hj => ?_
  rw [if_pos (List.mem_range.1 hj)]; rfl
theorem lvTo_set {L : List Int} {n k m : Nat} (hk : k < L.length) (hm : L[k] = (m : Int)) : (lvTo L n k).set m (k : Int) = lvTo L n (k + 1) := by
  have hg : L.getD k 0 = (m : Int) := by rw [List.getD_eq_getElem?_getD, List.getElem?_eq_getElem hk]; exact hm
  apply List.ext_getElem?
  intro j
  rw [List.getElem?_set]
  by_cases hj : j < n
  · rw [lvTo_get hj]
    by_cases e : m = j
    · subst e
      rw [if_pos rfl, lvTo_len, if_pos hj, lvTo_get hj, lvAt_succ, if_pos hg]
    · rw [if_neg e, lvTo_get hj, lvAt_succ, if_neg (by rw [hg]; omega)]
  · rw [List.getElem?_eq_none (by rw [lvTo_len]; omega), List.getElem?_eq_none (by rw [lvTo_len]; omega)]
    split
    · rw [lvTo_len, if_neg (by omega)]
    · rfl
theorem own_setI {w : World} {B g cap : Nat} {xs : List Int} {n : Nat} (hn : xs.length = n) (h : w.ownsRow B 3 1 (.slice (some ⟨g, 0, none⟩) n cap) n (xs.map (Value.int .i64))) (k : Nat) (x : Int) :
    (w.setCell ⟨g, k, none⟩ (.int .i64 x)).ownsRow B 3 1 (.slice (some ⟨g, 0, none⟩) n cap) n ((xs.set k x).map (Value.int .i64)) ∧ Below B w (w.setCell ⟨g, k, none⟩ (.int .i64 x)) := by
  have st := World.ownsRow.stored h k (.int .i64 x)
  refine ⟨?_, below_set w k _ (h.lt g rfl).1⟩
  rw [List.map_set]
  exact st.1
theorem own_cellI {w : World} {B g cap : Nat} {xs : List Int} {n : Nat} (h : w.ownsRow B 3 1 (.slice (some ⟨g, 0, none⟩) n cap) n (xs.map (Value.int .i64))) {k : Nat} {x : Int} (hk : k < n) (hx : xs[k]? = some x) : w.cell? ⟨g, k, none⟩ = some (.int .i64 x) ∧ w.frozen? ⟨g, k, none⟩ = false := by
  have r := World.ownsRow.cellAt h k (by omega)
  rw [List.getElem?_map, hx] at r
  exact ⟨r, World.ownsRow.frozenAt h k⟩
theorem made_zeroI (n : Nat) : (madeCells (Value.int .i64 0).cells (n * 1)).toList = (List.replicate n (0 : Int)).map (Value.int .i64) := by
  apply List.ext_getElem
  · simp [madeCells]
  · intro i h1 h2
    simp [madeCells, Value.cells, Nat.mod_one]
/-- the levels, or none -/
def LvRes (w : World) (L : List Int) (n : Nat) (e : Ending) (w' : World) : Prop :=
  ∃ v, e = .returned (.tuple #[v, .bool (okL L n)]) ∧ (okL L n = true → Own w' w.heap.size v (lvTo L n n)) ∧ Below w.heap.size w w'
set_option maxHeartbeats 2000000 in
set_option maxRecDepth 100000 in
theorem impl_levelsOf (A : Option Addr) (cap n : Nat) (L : List Int) (w : World) (h : Ints w A L) (hl : L.length ≤ 1000) (hn : n ≤ 100) :
    Calls Try.prog 53 #[.slice A L.length cap, .int .i64 n] w (LvRes w L n) := by
  by_cases hln : L.length = n
  · subst hln
    obtain ⟨n, hn0⟩ : ∃ n, n = L.length := ⟨_, rfl⟩
    have dn : ((n : Int) != (n : Int)) = false := by simp
    obtain ⟨i0, hi, hz0, hz1, hz2⟩ := info_parts Try.infoInt
    obtain ⟨w1, hrun, ho1, hg1⟩ := run_make_full (P := Try.prog) w w.heap.size 23 3 i0 (.int .i64 0) 1 Try.underlying23 hi hz0 hz1 .i64 .i64 n (by rw [hz2]; omega) (by unfold maxLen; omega) (Nat.le_refl w.heap.size)
    rw [made_zeroI, ← fillTo_zero (fun _ => -1)] at ho1
    have HB := Lib.hid ((Below.refl w.heap.size w).grown hg1 (Nat.le_refl _) (fun _ hh => by cases hh))
    have HO := Lib.hid ho1
    have HR := Lib.hid hrun
    have HN := Lib.hid hn0
    have hn100 : n ≤ 100 := by omega
    rw [← hn0]
    clear ho1 hg1 hi hz0 hz1 hz2 hrun hn0 hn hl
    go_enter Try.func53, Try.ntmps53
    go_wp2_with fail
    rw [HR.out]
    go_wp2_with fail
    go_loopg [7, 18] (n + 1) (fun g s7 s18 wr => ∃ (i : Nat), s7 = s7 ∧ i ≤ n ∧ s18 = .int .i64 i ∧ n - i < g ∧ Hid (Below w.heap.size w wr) ∧ Hid (wr.ownsRow w.heap.size 3 1 (.slice (some ⟨w.heap.size, 0, none⟩) n n) n ((fillTo (fun _ => -1) n i).map (Value.int .i64))))
    case atStart => exact ⟨0, rfl, Nat.zero_le _, rfl, by omega, HB, HO⟩
    case round =>
      clear HB HO HR
      obtain ⟨i, _, hi, rfl, hg, HB, HO⟩ := hrel
      cases gk with
      | zero => omega
      | succ g1 =>
      by_cases hlt : i < n
      · have hfl := fillTo_len (fun _ => -1) n i
        have hgi : (fillTo (fun _ => -1) n i)[i]? = some 0 := by
          unfold fillTo
          simp [hlt]
        obtain ⟨c1, f1⟩ := own_cellI HO.out hlt hgi
        obtain ⟨o2, b2⟩ := own_setI hfl HO.out i (-1)
        rw [fillTo_set] at o2
        have HO2 := Lib.hid o2
        have HB2 := Lib.hid (HB.out.trans b2)
        have i1 : (i : Int) < (n : Int) := by omega
        have i0 : (0 : Int) ≤ (i : Int) := by omega
        clear hfl hgi o2 b2 HO HB
        go_wp2_with fail
        go_roundg g1
        case measure => omega
        case rel => exact ⟨i + 1, trivial, by omega, by go_num, by omega, HB2, HO2⟩
      · obtain rfl : i = n := by omega
        have HO2 : Hid (wr.ownsRow w.heap.size 3 1 (.slice (some ⟨w.heap.size, 0, none⟩) i i) i ((lvTo L i 0).map (Value.int .i64))) := by
          show World.ownsRow _ _ _ _ _ _ _
          rw [lvTo_zero]; exact HO.out
        have HKO : Hid (okTo L i 0 = true) := rfl
        clear HO
        go_wp2_with fail
        go_loopg [8, 9, 27] (i + 1) (fun g s8 s9 s27 wr => ∃ (k : Nat), s8 = s8 ∧ s9 = s9 ∧ k ≤ i ∧ s27 = .int .i64 k ∧ i - k < g ∧ Hid (okTo L i k = true) ∧ Hid (Below w.heap.size w wr) ∧ Hid (wr.ownsRow w.heap.size 3 1 (.slice (some ⟨w.heap.size, 0, none⟩) i i) i ((lvTo L i k).map (Value.int .i64))))
        case atStart => exact ⟨0, rfl, rfl, Nat.zero_le _, rfl, by omega, HKO, HB, HO2⟩
        case round =>
          clear HKO HO2 HB
          obtain ⟨k, _, _, hk, rfl, hg, HK, HB, HO⟩ := hrel
          cases gk with
          | zero => omega
          | succ g2 =>
          by_cases hkl : k < i
          · have hkL : k < L.length := by rw [← HN.out]; exact hkl
            obtain ⟨b, off, rfl, hb, hc⟩ := h.below HB.out (by intro e; rw [e] at hkL; simp at hkL)
            have r1 := hc k L[k] (List.getElem?_eq_getElem hkL)
            have hgd : L.getD k 0 = L[k] := by rw [List.getD_eq_getElem?_getD, List.getElem?_eq_getElem hkL]; rfl
            have hok : okTo L i (k + 1) = (decide (0 ≤ L[k]) && decide (L[k] < (i : Int)) && decide (lvAt L k L[k] < 0)) := by rw [okTo, HK.out, Bool.true_and, hgd]
            have hset : ∀ m : Nat, L[k] = (m : Int) → (lvTo L i k).set m (k : Int) = lvTo L i (k + 1) := fun m hm => lvTo_set hkL hm
            obtain ⟨z, hz⟩ : ∃ z, z = L[k] := ⟨_, rfl⟩
            rw [← hz] at r1 hok hset
            have HOK := Lib.hid hok
            have HSET := Lib.hid hset
            have k1 : (k : Int) < (i : Int) := by omega
            have k0 : (0 : Int) ≤ (k : Int) := by omega
            clear hc hz hgd hok hset
            have bad : okTo L i (k + 1) = false → okL L i = false := fun hh => by
              unfold okL
              rw [okTo_step hh (show k + 1 ≤ i by omega), Bool.and_false]
            by_cases z0 : z < 0
            · have d1 : decide (z < 0) = true := decide_eq_true z0
              have HBad : Hid (okL L i = false) := bad (by rw [HOK.out, decide_eq_false (by omega)]; rfl)
              clear bad z0
              go_wp2_with fail
              go_ret2
              exact ⟨_, by rw [HBad.out]; rfl, (fun q => by rw [HBad.out] at q; cases q), HB.out⟩
            · have d1 : decide (z < 0) = false := decide_eq_false z0
              by_cases z1 : (i : Int) ≤ z
              · have d2 : decide ((i : Int) ≤ z) = true := decide_eq_true z1
                have HBad : Hid (okL L i = false) := bad (by rw [HOK.out, decide_eq_false (show ¬ z < (i : Int) by omega), Bool.and_false]; rfl)
                clear bad z0 z1
                go_wp2_with fail
                go_ret2
                exact ⟨_, by rw [HBad.out]; rfl, (fun q => by rw [HBad.out] at q; cases q), HB.out⟩
              · have d2 : decide ((i : Int) ≤ z) = false := decide_eq_false z1
                obtain ⟨m, rfl⟩ : ∃ m : Nat, z = (m : Int) := ⟨z.toNat, by omega⟩
                have hmi : m < i := by omega
                obtain ⟨c1, f1⟩ := own_cellI HO.out hmi (lvTo_get hmi)
                have m1 : (m : Int) < (i : Int) := by omega
                have m0 : (0 : Int) ≤ (m : Int) := by omega
                obtain ⟨lv, hlv⟩ : ∃ lv, lv = lvAt L k (m : Int) := ⟨_, rfl⟩
                rw [← hlv] at c1
                by_cases hv : 0 ≤ lv
                · have d3 : decide (0 ≤ lv) = true := decide_eq_true hv
                  have HBad : Hid (okL L i = false) := bad (by rw [HOK.out, ← hlv, decide_eq_false (show ¬ lv < 0 by omega), Bool.and_false])
                  clear bad z0 z1 hv hlv
                  go_wp2_with fail
                  go_ret2
                  exact ⟨_, by rw [HBad.out]; rfl, (fun q => by rw [HBad.out] at q; cases q), HB.out⟩
                · have d3 : decide (0 ≤ lv) = false := decide_eq_false hv
                  have HK2 : Hid (okTo L i (k + 1) = true) := by
                    show _ = _
                    rw [HOK.out, ← hlv, decide_eq_true (show 0 ≤ (m : Int) by omega), decide_eq_true (show (m : Int) < (i : Int) by omega), decide_eq_true (show lv < 0 by omega)]; rfl
                  obtain ⟨o2, b2⟩ := own_setI (lvTo_len L i k) HO.out m (k : Int)
                  rw [HSET.out m rfl] at o2
                  have HO2 := Lib.hid o2
                  have HB2 := Lib.hid (HB.out.trans b2)
                  clear bad z0 z1 hv hlv o2 b2 HO HB HOK HSET
                  go_wp2_with fail
                  go_roundg g2
                  case measure => omega
                  case rel => exact ⟨k + 1, trivial, trivial, by omega, by go_num, by omega, HK2, HB2, HO2⟩
          · obtain rfl : k = i := by omega
            have HOk : Hid (okL L k = true) := by
              show _ = _
              unfold okL
              rw [HK.out, ← HN.out, decide_eq_true rfl]; rfl
            go_wp2_with fail
            go_ret2
            exact ⟨_, by rw [HOk.out]; rfl, fun _ => by
              show World.ownsRow _ _ _ _ _ _ _
              rw [lvTo_len]; exact HO.out, HB.out⟩
  · have dn : ((L.length : Int) != (n : Int)) = true := by rw [bne_iff_ne]; omega
    have HBad : Hid (okL L n = false) := by
      show _ = _
      unfold okL
      rw [decide_eq_false hln]; rfl
    clear hln
    go_enter Try.func53, Try.ntmps53
    go_wp2_with fail
    go_ret2
    exact ⟨_, by rw [HBad.out]; rfl, (fun q => by rw [HBad.out] at q; cases q), Below.refl _ _⟩
end Go.Proofs.Ytngpeehjjcgmmaa
