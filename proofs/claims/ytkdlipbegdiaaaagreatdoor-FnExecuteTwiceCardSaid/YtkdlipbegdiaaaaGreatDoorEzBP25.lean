/- Levels of parts in a list of layers. No condition but sizes. Parts laid flat: the folds of a strip or a ring, one after the other. No condition but sizes. Parts laid flat: a strip, a ring. No condition but sizes. -/
import Derived.Laws.OwnMore
import Derived.Test.YtkdlipbegdiaaaaGreatDoorEzBP11
import Derived.Test.YtkdlipbegdiaaaaGreatDoorEzBP3
import Derived.Test.YtkdlipbegdiaaaaGreatDoorEzBP1
import Derived.Test.YtkdlipbegdiaaaaGreatDoorEzBP6
import Derived.Test.YtkdlipbegdiaaaaGreatDoorEzBP2
import Derived.Test.YtkdlipbegdiaaaaGreatDoorEzBP5
namespace Go.Proofs.YtkdlipbegdiaaaaGreatDoor
open Go.RowKit
/-- at which level of the first k layers the part j is, or -1 -/
def lvAt (L : List Int) : Nat → Int → Int
  | 0, _ => -1
  | k + 1, j => if L.getD k 0 = j then (k : Int) else lvAt L k j
theorem lvAt_succ (L : List Int) (k : Nat) (j : Int) : lvAt L (k + 1) j = if L.getD k 0 = j then (k : Int) else lvAt L k j := rfl
def lvTo (L : List Int) (n k : Nat) : List Int := (List.range n).map fun (j : Nat) => lvAt L k (j : Int)
theorem lvTo_len (L : List Int) (n k : Nat) : (lvTo L n k).length = n := by simp [lvTo]
theorem lvTo_get {L : List Int} {n k j : Nat} (h : j < n) : (lvTo L n k)[j]? = some (lvAt L k (j : Int)) := by simp [lvTo, h]
/-- are the first k layers parts, each another one -/
def okTo (L : List Int) (n : Nat) : Nat → Bool
  | 0 => true
  | k + 1 => okTo L n k && (decide (0 ≤ L.getD k 0) && decide (L.getD k 0 < (n : Int)) && decide (lvAt L k (L.getD k 0) < 0))
def okL (L : List Int) (n : Nat) : Bool := decide (L.length = n) && okTo L n n
theorem okTo_step {L : List Int} {n k m : Nat} (h : okTo L n k = false) (hk : k ≤ m) : okTo L n m = false := by
  induction m with
  | zero => have : k = 0 := by omega
            subst this; exact h
  | succ m ih =>
    by_cases e : k = m + 1
    · subst e; exact h
    · rw [okTo, ih (by omega)]; rfl
theorem lvTo_zero (L : List Int) (n : Nat) : lvTo L n 0 = fillTo (fun _ => -1) n n := by
  unfold lvTo fillTo
  refine List.map_congr_left fun j hj => ?_
  rw [if_pos (List.mem_range.1 hj)]; rfl
theorem lvTo_set {L : List Int} {n k m : Nat} (hk : k < L.length) (hm : L[k] = (m : Int)) : (lvTo L n k).set m (k : Int) = lvTo L n (k + 1) := by
  have hg : L.getD k 0 = (m : Int) := by rw [List.getD_eq_getElem?_getD, List.getElem?_eq_getElem hk]; exact hm
  apply List.ext_getElem?
  intro j
  rw [List.getElem?_set]
  by_cases hj : j < n
  · rw [lvTo_get hj]
    by_cases e : m = j
    · subst e
      rw [if_pos rfl, lvTo_len, if_pos hj, lvTo_get hj, lvAt_succ, if_pos hg]
    · rw [if_neg e, lvTo_get hj, lvAt_succ, if_neg (by rw [hg]; omega)]
  · rw [List.getElem?_eq_none (by rw [lvTo_len]; omega), List.getElem?_eq_none (by rw [lvTo_len]; omega)]
    split
    · rw [lvTo_len, if_neg (by omega)]
    · rfl
theorem own_setI {w : World} {B g cap : Nat} {xs : List Int} {n : Nat} (_hn : xs.length = n) (h : w.ownsRow B 3 1 (.slice (some ⟨g, 0, none⟩) n cap) n (xs.map (Value.int .i64))) (k : Nat) (x : Int) :
    (w.setCell ⟨g, k, none⟩ (.int .i64 x)).ownsRow B 3 1 (.slice (some ⟨g, 0, none⟩) n cap) n ((xs.set k x).map (Value.int .i64)) ∧ Below B w (w.setCell ⟨g, k, none⟩ (.int .i64 x)) := by
  have st := World.ownsRow.stored h k (.int .i64 x)
  refine ⟨?_, below_set w k _ (h.lt g rfl).1⟩
  rw [List.map_set]
  exact st.1
theorem own_cellI {w : World} {B g cap : Nat} {xs : List Int} {n : Nat} (h : w.ownsRow B 3 1 (.slice (some ⟨g, 0, none⟩) n cap) n (xs.map (Value.int .i64))) {k : Nat} {x : Int} (hk : k < n) (hx : xs[k]? = some x) : w.cell? ⟨g, k, none⟩ = some (.int .i64 x) ∧ w.frozen? ⟨g, k, none⟩ = false := by
  have r := World.ownsRow.cellAt h k (by omega)
  rw [List.getElem?_map, hx] at r
  exact ⟨r, World.ownsRow.frozenAt h k⟩
theorem made_zeroI (n : Nat) : (madeCells (Value.int .i64 0).cells (n * 1)).toList = (List.replicate n (0 : Int)).map (Value.int .i64) := by
  apply List.ext_getElem
  · simp [madeCells]
  · intro i h1 h2
    simp [madeCells, Value.cells, Nat.mod_one]
/-- the levels, or none -/
def LvRes (w : World) (L : List Int) (n : Nat) (e : Ending) (w' : World) : Prop :=
  ∃ v, e = .returned (.tuple #[v, .bool (okL L n)]) ∧ (okL L n = true → Own w' w.heap.size v (lvTo L n n)) ∧ Below w.heap.size w w'
set_option maxHeartbeats 2000000 in
set_option maxRecDepth 100000 in
theorem impl_levelsOf (A : Option Addr) (cap n : Nat) (L : List Int) (w : World) (h : Ints w A L) (hl : L.length ≤ 1000) (hn : n ≤ 100) :
    Calls Tryz.prog 78 #[.slice A L.length cap, .int .i64 n] w (LvRes w L n) := by
  by_cases hln : L.length = n
  · subst hln
    obtain ⟨n, hn0⟩ : ∃ n, n = L.length := ⟨_, rfl⟩
    have dn : ((n : Int) != (n : Int)) = false := by simp
    obtain ⟨i0, hi, hz0, hz1, hz2⟩ := info_parts Tryz.infoInt
    obtain ⟨w1, hrun, ho1, hg1⟩ := run_make_full (P := Tryz.prog) w w.heap.size 23 3 i0 (.int .i64 0) 1 Tryz.underlying23 hi hz0 hz1 .i64 .i64 n (by rw [hz2]; omega) (by unfold maxLen; omega) (Nat.le_refl w.heap.size)
    rw [made_zeroI, ← fillTo_zero (fun _ => -1)] at ho1
    have HB := Lib.hid ((Below.refl w.heap.size w).grown hg1 (Nat.le_refl _) (fun _ hh => by cases hh))
    have HO := Lib.hid ho1
    have HR := Lib.hid hrun
    have HN := Lib.hid hn0
    have hn100 : n ≤ 100 := by omega
    rw [← hn0]
    clear ho1 hg1 hi hz0 hz1 hz2 hrun hn0 hn hl
    go_enter Tryz.func78, Tryz.ntmps78
    go_wp2_with fail
    rw [HR.out]
    go_wp2_with fail
    go_loopg [7, 18] (n + 1) (fun g s7 s18 wr => ∃ (i : Nat), s7 = s7 ∧ i ≤ n ∧ s18 = .int .i64 i ∧ n - i < g ∧ Hid (Below w.heap.size w wr) ∧ Hid (wr.ownsRow w.heap.size 3 1 (.slice (some ⟨w.heap.size, 0, none⟩) n n) n ((fillTo (fun _ => -1) n i).map (Value.int .i64))))
    case atStart => exact ⟨0, rfl, Nat.zero_le _, rfl, by omega, HB, HO⟩
    case round =>
      clear HB HO HR
      obtain ⟨i, _, hi, rfl, hg, HB, HO⟩ := hrel
      cases gk with
      | zero => omega
      | succ g1 =>
      by_cases hlt : i < n
      · have hfl := fillTo_len (fun _ => -1) n i
        have hgi : (fillTo (fun _ => -1) n i)[i]? = some 0 := by
          unfold fillTo
          simp [hlt]
        obtain ⟨c1, f1⟩ := own_cellI HO.out hlt hgi
        obtain ⟨o2, b2⟩ := own_setI hfl HO.out i (-1)
        rw [fillTo_set] at o2
        have HO2 := Lib.hid o2
        have HB2 := Lib.hid (HB.out.trans b2)
        have i1 : (i : Int) < (n : Int) := by omega
        have i0 : (0 : Int) ≤ (i : Int) := by omega
        clear hfl hgi o2 b2 HO HB
        go_wp2_with fail
        go_roundg g1
        case measure => omega
        case rel => exact ⟨i + 1, trivial, by omega, by go_num, by omega, HB2, HO2⟩
      · obtain rfl : i = n := by omega
        have HO2 : Hid (wr.ownsRow w.heap.size 3 1 (.slice (some ⟨w.heap.size, 0, none⟩) i i) i ((lvTo L i 0).map (Value.int .i64))) := by
          show World.ownsRow _ _ _ _ _ _ _
          rw [lvTo_zero]; exact HO.out
        have HKO : Hid (okTo L i 0 = true) := rfl
        clear HO
        go_wp2_with fail
        go_loopg [8, 9, 27] (i + 1) (fun g s8 s9 s27 wr => ∃ (k : Nat), s8 = s8 ∧ s9 = s9 ∧ k ≤ i ∧ s27 = .int .i64 k ∧ i - k < g ∧ Hid (okTo L i k = true) ∧ Hid (Below w.heap.size w wr) ∧ Hid (wr.ownsRow w.heap.size 3 1 (.slice (some ⟨w.heap.size, 0, none⟩) i i) i ((lvTo L i k).map (Value.int .i64))))
        case atStart => exact ⟨0, rfl, rfl, Nat.zero_le _, rfl, by omega, HKO, HB, HO2⟩
        case round =>
          clear HKO HO2 HB
          obtain ⟨k, _, _, hk, rfl, hg, HK, HB, HO⟩ := hrel
          cases gk with
          | zero => omega
          | succ g2 =>
          by_cases hkl : k < i
          · have hkL : k < L.length := by rw [← HN.out]; exact hkl
            obtain ⟨b, off, rfl, hb, hc⟩ := h.below HB.out (by intro e; rw [e] at hkL; simp at hkL)
            have r1 := hc k L[k] (List.getElem?_eq_getElem hkL)
            have hgd : L.getD k 0 = L[k] := by rw [List.getD_eq_getElem?_getD, List.getElem?_eq_getElem hkL]; rfl
            have hok : okTo L i (k + 1) = (decide (0 ≤ L[k]) && decide (L[k] < (i : Int)) && decide (lvAt L k L[k] < 0)) := by rw [okTo, HK.out, Bool.true_and, hgd]
            have hset : ∀ m : Nat, L[k] = (m : Int) → (lvTo L i k).set m (k : Int) = lvTo L i (k + 1) := fun m hm => lvTo_set hkL hm
            obtain ⟨z, hz⟩ : ∃ z, z = L[k] := ⟨_, rfl⟩
            rw [← hz] at r1 hok hset
            have HOK := Lib.hid hok
            have HSET := Lib.hid hset
            have k1 : (k : Int) < (i : Int) := by omega
            have k0 : (0 : Int) ≤ (k : Int) := by omega
            clear hc hz hgd hok hset
            have bad : okTo L i (k + 1) = false → okL L i = false := fun hh => by
              unfold okL
              rw [okTo_step hh (show k + 1 ≤ i by omega), Bool.and_false]
            by_cases z0 : z < 0
            · have d1 : decide (z < 0) = true := decide_eq_true z0
              have HBad : Hid (okL L i = false) := bad (by rw [HOK.out, decide_eq_false (by omega)]; rfl)
              clear bad z0
              go_wp2_with fail
              go_ret2
              exact ⟨_, by rw [HBad.out]; rfl, (fun q => by rw [HBad.out] at q; cases q), HB.out⟩
            · have d1 : decide (z < 0) = false := decide_eq_false z0
              by_cases z1 : (i : Int) ≤ z
              · have d2 : decide ((i : Int) ≤ z) = true := decide_eq_true z1
                have HBad : Hid (okL L i = false) := bad (by rw [HOK.out, decide_eq_false (show ¬ z < (i : Int) by omega), Bool.and_false]; rfl)
                clear bad z0 z1
                go_wp2_with fail
                go_ret2
                exact ⟨_, by rw [HBad.out]; rfl, (fun q => by rw [HBad.out] at q; cases q), HB.out⟩
              · have d2 : decide ((i : Int) ≤ z) = false := decide_eq_false z1
                obtain ⟨m, rfl⟩ : ∃ m : Nat, z = (m : Int) := ⟨z.toNat, by omega⟩
                have hmi : m < i := by omega
                obtain ⟨c1, f1⟩ := own_cellI HO.out hmi (lvTo_get hmi)
                have m1 : (m : Int) < (i : Int) := by omega
                have m0 : (0 : Int) ≤ (m : Int) := by omega
                obtain ⟨lv, hlv⟩ : ∃ lv, lv = lvAt L k (m : Int) := ⟨_, rfl⟩
                rw [← hlv] at c1
                by_cases hv : 0 ≤ lv
                · have d3 : decide (0 ≤ lv) = true := decide_eq_true hv
                  have HBad : Hid (okL L i = false) := bad (by rw [HOK.out, ← hlv, decide_eq_false (show ¬ lv < 0 by omega), Bool.and_false])
                  clear bad z0 z1 hv hlv
                  go_wp2_with fail
                  go_ret2
                  exact ⟨_, by rw [HBad.out]; rfl, (fun q => by rw [HBad.out] at q; cases q), HB.out⟩
                · have d3 : decide (0 ≤ lv) = false := decide_eq_false hv
                  have HK2 : Hid (okTo L i (k + 1) = true) := by
                    show _ = _
                    rw [HOK.out, ← hlv, decide_eq_true (show 0 ≤ (m : Int) by omega), decide_eq_true (show (m : Int) < (i : Int) by omega), decide_eq_true (show lv < 0 by omega)]; rfl
                  obtain ⟨o2, b2⟩ := own_setI (lvTo_len L i k) HO.out m (k : Int)
                  rw [HSET.out m rfl] at o2
                  have HO2 := Lib.hid o2
                  have HB2 := Lib.hid (HB.out.trans b2)
                  clear bad z0 z1 hv hlv o2 b2 HO HB HOK HSET
                  go_wp2_with fail
                  go_roundg g2
                  case measure => omega
                  case rel => exact ⟨k + 1, trivial, trivial, by omega, by go_num, by omega, HK2, HB2, HO2⟩
          · obtain rfl : k = i := by omega
            have HOk : Hid (okL L k = true) := by
              show _ = _
              unfold okL
              rw [HK.out, ← HN.out, decide_eq_true rfl]; rfl
            go_wp2_with fail
            go_ret2
            exact ⟨_, by rw [HOk.out]; rfl, fun _ => by
              show World.ownsRow _ _ _ _ _ _ _
              rw [lvTo_len]; exact HO.out, HB.out⟩
  · have dn : ((L.length : Int) != (n : Int)) = true := by rw [bne_iff_ne]; omega
    have HBad : Hid (okL L n = false) := by
      show _ = _
      unfold okL
      rw [decide_eq_false hln]; rfl
    clear hln
    go_enter Tryz.func78, Tryz.ntmps78
    go_wp2_with fail
    go_ret2
    exact ⟨_, by rw [HBad.out]; rfl, (fun q => by rw [HBad.out] at q; cases q), Below.refl _ _⟩
end Go.Proofs.YtkdlipbegdiaaaaGreatDoor
namespace Go.Proofs.YtkdlipbegdiaaaaGreatDoor
open Go.RowKit
theorem Tryz.infoFd : (Tryz.prog.info? 81).map (fun i => (i.zero, i.size, i.bytes)) = some (some (.agg #[.int .i64 0, .int .i64 0, .int .i64 0, .bool false]), 4, 32) := by kernel_rfl
/-- a fold: the part ahead, the part behind, the place, is the part behind the higher one -/
abbrev Fd := Nat × Nat × Int × Bool
def fdV (f : Fd) : List Value := [.int .i64 f.1, .int .i64 f.2.1, .int .i64 f.2.2.1, .bool f.2.2.2]
def fdL (fs : List Fd) : List Value := fs.flatMap fdV
theorem fdL_snoc (fs : List Fd) (f : Fd) : fdL (fs ++ [f]) = fdL fs ++ fdV f := by simp [fdL]
theorem fdL_get {fs : List Fd} {k j : Nat} (hk : k < fs.length) (hj : j < 4) : (fdL fs)[k * 4 + j]? = (fdV fs[k])[j]? := by
  induction fs generalizing k with
  | nil => simp at hk
  | cons f r ih =>
    show (fdV f ++ fdL r)[k * 4 + j]? = _
    have h4 : (fdV f).length = 4 := rfl
    cases k with
    | zero =>
      rw [Nat.zero_mul, Nat.zero_add, List.getElem?_append_left (by omega)]; rfl
    | succ k =>
      rw [List.getElem?_append_right (by omega), h4, show (k + 1) * 4 + j - 4 = k * 4 + j from by omega]
      exact ih (by simpa using hk)
theorem own_below2' {w w' : World} {B : Nat} {e : TypeId} {z n : Nat} {v : Value} {xs : List Value} (h : w.ownsRow B e z v n xs) (hb : Below w.heap.size w w') : w'.ownsRow B e z v n xs :=
  h.kept (row := none) ⟨hb.os, hb.tape, hb.output, hb.size, fun i hi _ => hb.block i hi⟩ (by cases hv : v.ownBlock <;> simp)
/-- folds in a row of the call's own -/
abbrev OwnFr (w : World) (B : Nat) (v : Value) (n : Nat) (L : List Value) : Prop := w.ownsRow B 81 4 v n L
def Moved (W : World) (v v' : Value) : Prop := v'.ownBlock = v.ownBlock ∨ ∀ g, v'.ownBlock = some g → W.heap.size ≤ g
set_option maxRecDepth 100000 in
theorem run_appFd (W : World) (B : Nat) (ty : TypeId) (v : Value) (n : Nat) (L : List Value) (A : Option Addr) (m c : Nat) (news : List Value) (hown : OwnFr W B v n L) (hl : news.length = m * 4)
    (hA : A = none → m = 0) (hnews : ∀ a, A = some a → ∀ j u, news[j]? = some u → W.cell? (a.add j) = some u) (h1 : ∀ u ∈ news, u.oneCell' = true) (hB : B ≤ W.heap.size) (hn : n + m ≤ 1000000000000) :
    ∃ v' w', (Builtin.append_ #[65, 65] ty #[v, .slice A m c]).run Tryz.prog W = .ok v' w' ∧ OwnFr w' B v' (n + m) (L ++ news) ∧ W.grownBy w' v.ownBlock ∧ Below B W w' ∧ Moved W v v' ∧
      (∀ g cap, v = .slice (some ⟨g, 0, none⟩) n cap → n + m ≤ cap → v' = .slice (some ⟨g, 0, none⟩) (n + m) cap) := by
  obtain ⟨i0, hi, hz0, hz1, hz2⟩ := info_parts Tryz.infoFd
  cases A with
  | none =>
    have hm := hA rfl
    subst hm
    have hnil : news = [] := List.eq_nil_of_length_eq_zero (by omega)
    subst hnil
    refine ⟨v, W, run_app_nil W B _ ty _ i0 4 Tryz.underlying65 hi v _ _ hown c, by simpa using hown, World.grownBy.refl W _, Below.refl _ _, Or.inl rfl, fun g cap e _ => by simpa using e⟩
  | some ad =>
    have hnews' := hnews ad rfl
    obtain ⟨v', w', hrun, h2, h3, _⟩ := run_append_own (P := Tryz.prog) W B 65 ty 81 i0 (.agg #[.int .i64 0, .int .i64 0, .int .i64 0, .bool false]) 4 32 Tryz.underlying65 hi hz0 hz1 hz2 rfl (by decide) v _ _ hown ad m c news hl hnews' h1 (by unfold maxLen; omega) (by omega) hB
    have hroom : ∀ g cap, v = .slice (some ⟨g, 0, none⟩) n cap → n + m ≤ cap → v' = .slice (some ⟨g, 0, none⟩) (n + m) cap := by
      intro g cap hv hr
      rcases hown.2 with ⟨e, _⟩ | ⟨g', cap', cur, e, hb, hg, hnc, hcm, hcs, htake⟩
      · rw [hv] at e; cases e
      · rw [hv] at e
        injection e with e1 e2 e3
        injection e1 with e1
        injection e1 with e1
        subst e1 e3
        subst hv
        have hcl : ∀ j, j < news.length → n * 4 + j < cur.size := by intro j hj; omega
        have hrun2 := run_append_room_cells (P := Tryz.prog) W 65 ty 81 i0 Tryz.underlying65 hi g 0 n cap ad m c news (by rw [hz1]; exact hl) hnews' h1 hr
          (by intro j hj
              rw [hz1, cell_of_row W g _ cur 81 (0, 0) hg, Nat.zero_add, Array.getElem?_eq_getElem (hcl j hj)]; rfl) (by intro j _; simp [World.frozen?, hg])
        rw [hrun2] at hrun
        exact ((Result.ok.injEq _ _ _ _ ▸ hrun).1).symm
    refine ⟨v', w', hrun, h2, h3, (Below.refl _ _).grown h3 hB fun k hk => (hown.lt k hk).1, ?_, hroom⟩
    rcases hown.2 with ⟨e, h0⟩ | ⟨g, cap, cur, e, hb, hg, hnc, hcm, hcs, htake⟩
    · right
      have hx0 : L = [] := List.eq_nil_of_length_eq_zero (by rw [hown.1, h0])
      subst e h0 hx0
      obtain ⟨v2, w2, hrun2, h22, _, _⟩ := run_append_own (P := Tryz.prog) W W.heap.size 65 ty 81 i0 (.agg #[.int .i64 0, .int .i64 0, .int .i64 0, .bool false]) 4 32 Tryz.underlying65 hi hz0 hz1 hz2 rfl (by decide) (.slice none 0 0) 0 [] ⟨rfl, Or.inl ⟨rfl, rfl⟩⟩ ad m c news hl hnews' h1 (by unfold maxLen; omega) (by omega) (Nat.le_refl _)
      rw [hrun2] at hrun
      injection hrun with e1 e2
      subst e1 e2
      exact fun g hg => (h22.lt g hg).1
    · by_cases hr : n + m ≤ cap
      · left
        rw [hroom g cap e hr, e]; rfl
      · right
        subst e
        obtain ⟨v2, w2, hrun2, hown2, _⟩ := run_append_arg_grows (P := Tryz.prog) W 65 ty 81 i0 (.agg #[.int .i64 0, .int .i64 0, .int .i64 0, .bool false]) 4 32 Tryz.underlying65 hi hz0 hz1 hz2 rfl (by decide) ⟨g, 0, none⟩ n cap L hown.1
          (fun j u hj => hown.cells (g := g) rfl j u hj) ad m c news hl hnews' (by omega) (by unfold maxLen; omega) (by omega)
        rw [hrun2] at hrun
        injection hrun with e1 e2
        subst e1 e2
        exact fun q hq => (hown2.lt q hq).1
theorem wp_appFd {o : Oper} {a : Act} {W : World} {K : Act → World → Prop} {Q : Exit → Act → World → Prop} (s x : Operand)
    (ho : o.op = .call { callee := .builtin .append, args := #[s, x], argTypes := #[65, 65] })
    (B : Nat) (v : Value) (n : Nat) (L : List Value) (A : Option Addr) (m c : Nat) (news : List Value) (hs : a.eval s = v) (hx : a.eval x = .slice A m c) (hown : OwnFr W B v n L) (hl : news.length = m * 4)
    (hA : A = none → m = 0) (hnews : ∀ a, A = some a → ∀ j u, news[j]? = some u → W.cell? (a.add j) = some u) (h1 : ∀ u ∈ news, u.oneCell' = true) (hB : B ≤ W.heap.size) (hn : n + m ≤ 1000000000000)
    (h : ∀ v' w', OwnFr w' B v' (n + m) (L ++ news) → W.grownBy w' v.ownBlock → Below B W w' → Moved W v v' → (∀ g cap, v = .slice (some ⟨g, 0, none⟩) n cap → n + m ≤ cap → v' = .slice (some ⟨g, 0, none⟩) (n + m) cap) → K (a.put o.dst v') w') : o.wp Tryz.prog a W K Q := by
  obtain ⟨v', w', hrun, h2, h3, h4, h5, h6⟩ := run_appFd W B o.type v n L A m c news hown hl hA hnews h1 hB hn
  unfold Oper.wp execOp
  simp only [ho, resolve, invoke, builtin, Sem.run_bind, Sem.run_pure, Result.andThen_ok, List.map_toArray, List.map_cons, List.map_nil, hs, hx, hrun]
  exact h v' w' h2 h3 h4 h5 h6
theorem step_appFd {ops : Array Oper} {o : Oper} {a : Act} {W : World} {K : Act → World → Prop} {Q : Exit → Act → World → Prop} {E : Prop} (hgd : o.guard = none) (s x : Operand)
    (ho : o.op = .call { callee := .builtin .append, args := #[s, x], argTypes := #[65, 65] })
    (B : Nat) (v : Value) (n : Nat) (L : List Value) (A : Option Addr) (m c : Nat) (news : List Value) (hs : a.eval s = v) (hx : a.eval x = .slice A m c) (hown : OwnFr W B v n L) (hl : news.length = m * 4)
    (hA : A = none → m = 0) (hnews : ∀ a, A = some a → ∀ j u, news[j]? = some u → W.cell? (a.add j) = some u) (h1 : ∀ u ∈ news, u.oneCell' = true) (hB : B ≤ W.heap.size) (hn : n + m ≤ 1000000000000)
    (h : ∀ v' w', OwnFr w' B v' (n + m) (L ++ news) → W.grownBy w' v.ownBlock → Below B W w' → Moved W v v' → (∀ g cap, v = .slice (some ⟨g, 0, none⟩) n cap → n + m ≤ cap → v' = .slice (some ⟨g, 0, none⟩) (n + m) cap) → K (a.put o.dst v') w') :
    if Region.wanted o (yielded ops a.tmps) = true then Oper.wp Tryz.prog o a W K Q else E := by
  have hw : Region.wanted o (yielded ops a.tmps) = true := by simp [Region.wanted, hgd]
  rw [if_pos hw]
  exact wp_appFd s x ho B v n L A m c news hs hx hown hl hA hnews h1 hB hn h
theorem grown_setC (w : World) (g i : Nat) (v : Value) : w.grownBy (w.setCell ⟨g, i, none⟩ v) (some g) :=
  ⟨rfl, rfl, rfl, by simp, fun n hn hne => heap_setCell_other w ⟨g, i, none⟩ n v (by intro e; apply hne; exact congrArg some e)⟩
theorem news_fd (W : World) (f : Fd) : ∀ a, some (⟨W.heap.size, 0, none⟩ : Addr) = some a → ∀ j u, (fdV f)[j]? = some u → (W.alloc (.cells #[.int .i64 f.1, .int .i64 f.2.1, .int .i64 f.2.2.1, .bool f.2.2.2] 81)).cell? (a.add j) = some u := by
  intro a ha j u hj
  cases ha
  have hK := Blk.new W 81 #[.int .i64 f.1, .int .i64 f.2.1, .int .i64 f.2.2.1, .bool f.2.2.2]
  rw [Addr.add_lit, Nat.zero_add, hK.cell j]
  match j, hj with
  | 0, hj => exact hj
  | 1, hj => exact hj
  | 2, hj => exact hj
  | 3, hj => exact hj
theorem one_fd (f : Fd) : ∀ u ∈ fdV f, u.oneCell' = true := by
  intro u hu
  simp only [fdV, List.mem_cons, List.not_mem_nil, or_false] at hu
  rcases hu with rfl | rfl | rfl | rfl <;> rfl
/-- parts laid flat in block r: how many, the places, the folds -/
def Flat (w : World) (r B n : Nat) (ps : List Int) (fs : List Fd) : Prop :=
  ∃ Ap cp Vf, Blk w r 67 #[.int .i64 n, .slice Ap ps.length cp, Vf] ∧ Own w B (.slice Ap ps.length cp) ps ∧ OwnFr w B Vf fs.length (fdL fs) ∧ B ≤ r
theorem Flat.below {w w' : World} {r B n : Nat} {ps : List Int} {fs : List Fd} (h : Flat w r B n ps fs) (hb : Below w.heap.size w w') : Flat w' r B n ps fs := by
  obtain ⟨Ap, cp, Vf, h1, h2, h3, h4⟩ := h
  have kp : ∀ {e : TypeId} {z m : Nat} {v : Value} {xs : List Value}, w.ownsRow B e z v m xs → w'.ownsRow B e z v m xs := fun hh => hh.kept (row := none) ⟨hb.os, hb.tape, hb.output, hb.size, fun i hi _ => hb.block i hi⟩ (by
    rename_i v _
    cases hv : v.ownBlock <;> simp)
  exact ⟨Ap, cp, Vf, h1.below hb h1.lt, kp h2, kp h3, h4⟩
set_option maxHeartbeats 2000000 in
set_option maxRecDepth 100000 in
theorem impl_addFold (r B n a b : Nat) (c : UInt8) (ps : List Int) (fs : List Fd) (p : Int) (w : World) (h : Flat w r B n ps fs) (hb : b < ps.length) (hp : ps[b] = p) (_hl : ps.length ≤ 1000) (hf : fs.length ≤ 1000) (_ha : a ≤ 1000) (hB : B ≤ w.heap.size) :
    Calls Tryz.prog 41 #[ptr r, .int .i64 a, .int .i64 b, .int .u8 (c.toNat : Int)] w fun e w' => e = .returned (.tuple #[]) ∧ Flat w' r B n ps (fs ++ [(a, b, p, ((c.toNat : Int) == 86) == (a % 2 == 0))]) ∧ Below B w w' := by
  obtain ⟨Ap, cp, Vf, h1, h2, h3, h4⟩ := h
  have c1 : w.cell? ⟨r, 1, none⟩ = some (.slice Ap ps.length cp) := h1.cell 1
  have c2 : w.cell? ⟨r, 2, none⟩ = some Vf := h1.cell 2
  have f2 := h1.frozen 2
  obtain ⟨bp, op, rfl, hbp, hcp⟩ := (show Ints w Ap ps from by obtain ⟨_, _, e, hI, _, _⟩ := h2.form; cases e; exact hI) (by intro e; rw [e] at hb; simp at hb)
  have rp := hcp b p (by rw [List.getElem?_eq_getElem hb, hp])
  have hrl := h1.lt
  have b1 : (b : Int) < (ps.length : Int) := by omega
  have b0 : (0 : Int) ≤ (b : Int) := by omega
  obtain ⟨m1, m2⟩ := mod2z a
  obtain ⟨q, hq⟩ : ∃ q, q = a % 2 := ⟨_, rfl⟩
  rw [← hq] at m1 m2
  obtain ⟨ob, hob⟩ : ∃ ob : Bool, ((q : Int) == 0) = ob := ⟨_, rfl⟩
  obtain ⟨cb, hcb⟩ : ∃ cb : Bool, ((c.toNat : Int) == 86) = cb := ⟨_, rfl⟩
  have hfin : (((c.toNat : Int) == 86) == (a % 2 == 0)) = (cb == ob) := by
    rw [hcb, ← hob, ← hq]
    congr 1
    rw [Bool.eq_iff_iff]
    simp
  have hne1 : Vf.ownBlock ≠ some r := own_blk_ne h3 h1 (by decide)
  have hne2 : Vf.ownBlock ≠ some bp := by
    rcases own_ne h3 h2 (by decide) with e | e
    · rw [e]; simp
    · exact e
  have HFin := Lib.hid hfin
  have H3 := Lib.hid h3
  have H2 := Lib.hid h2
  have H1 := Lib.hid h1
  have HS : Hid (∀ W : World, Below w.heap.size w W → W.cell? ⟨r, 1, none⟩ = some (.slice (some ⟨bp, op, none⟩) ps.length cp) ∧ W.cell? ⟨bp, op + b, none⟩ = some (.int .i64 p) ∧ W.cell? ⟨r, 2, none⟩ = some Vf ∧ W.frozen? ⟨r, 2, none⟩ = false) :=
    fun W hb => ⟨(hb.cell (p := ⟨r, 1, none⟩) hrl).trans c1, (hb.cell (p := ⟨bp, op + b, none⟩) hbp).trans rp, (hb.cell (p := ⟨r, 2, none⟩) hrl).trans c2, (h1.below hb hrl).frozen 2⟩
  clear hfin hq hcp h3 h2 h1 c1 c2 f2 rp
  go_enter Tryz.func41, Tryz.ntmps41
  go_wp2_with fail
  have c1 := (HS.out w (Below.refl _ _)).1
  have rp := (HS.out w (Below.refl _ _)).2.1
  have c2 := (HS.out w (Below.refl _ _)).2.2.1
  have f2 := (HS.out w (Below.refl _ _)).2.2.2
  have HZ := Lib.hid hrl
  go_region_law
    (first | (refine step_appFd (by rfl) _ _ (by rfl) B Vf fs.length (fdL fs) _ 1 _ (fdV (a, b, p, cb == ob)) (by rfl) (by rfl) (own_below2' H3.out ((below_drewN (Below.refl _ _) 1).alloc (Nat.le_refl _) _)) rfl (fun e => by cases e) (news_fd _ _) (one_fd _) (Nat.le_trans hB (by simp)) (by omega) ?_; intro v2 w2 ho2 hg2 hb2 hm2 hr2; obtain ⟨g2, k2, hv2, _⟩ := World.ownsRow.form ho2 (by omega); subst hv2; have HKP : Hid (w2.cell? ⟨r, 1, none⟩ = some (.slice (some ⟨bp, op, none⟩) ps.length cp) ∧ w2.cell? ⟨bp, op + b, none⟩ = some (.int .i64 p) ∧ w2.cell? ⟨r, 2, none⟩ = some Vf ∧ w2.frozen? ⟨r, 2, none⟩ = false) := ⟨(hg2.cell_far ⟨r, 1, none⟩ (by simpa using Nat.lt_succ_of_lt hrl) (fun e => hne1 e.symm)).trans (HS.out _ ((below_drewN (Below.refl _ _) 1).alloc (Nat.le_refl _) _)).1, (hg2.cell_far ⟨bp, op + b, none⟩ (by simpa using Nat.lt_succ_of_lt hbp) (fun e => hne2 e.symm)).trans (HS.out _ ((below_drewN (Below.refl _ _) 1).alloc (Nat.le_refl _) _)).2.1, (hg2.cell_far ⟨r, 2, none⟩ (by simpa using Nat.lt_succ_of_lt hrl) (fun e => hne1 e.symm)).trans (HS.out _ ((below_drewN (Below.refl _ _) 1).alloc (Nat.le_refl _) _)).2.2.1, (((H1.out.drewN 1).alloc _).grown hg2 (fun e => hne1 e.symm)).frozen 2⟩; have c2' := HKP.out.2.2.1; have f2' := HKP.out.2.2.2))
  all_goals
    have hA := (below_drewN (Below.refl w.heap.size w) 1).alloc (Nat.le_refl _) (Obj.cells #[.int .i64 a, .int .i64 b, .int .i64 p, .bool (cb == ob)] 81)
    have hK2 := ((H1.out.drewN 1).alloc (Obj.cells #[.int .i64 a, .int .i64 b, .int .i64 p, .bool (cb == ob)] 81)).grown hg2 (fun e => hne1 e.symm)
    have hP2 := (own_below2' H2.out hA).kept hg2 (Or.inr (fun e => hne2 e.symm))
    have hne3 := own_blk_ne ho2 hK2 (by decide)
    have hne4 := own_blk_ne hP2 hK2 (by decide)
    have gS := grown_setC w2 r 2 (Value.slice (some ⟨g2, 0, none⟩) (fs.length + 1) k2)
    have hF3 := ho2.kept gS (Or.inr hne3)
    have hP3 := hP2.kept gS (Or.inr hne4)
    have hK3 := hK2.set_ 2 (Value.slice (some ⟨g2, 0, none⟩) (fs.length + 1) k2)
    have hB3 := ((hA.mono hB).trans hb2).trans (below_set w2 2 (Value.slice (some ⟨g2, 0, none⟩) (fs.length + 1) k2) h4)
    have hFs : fdL (fs ++ [(a, b, p, ((c.toNat : Int) == 86) == (a % 2 == 0))]) = fdL fs ++ fdV (a, b, p, cb == ob) := by rw [fdL_snoc, HFin.out]
    have HR : Hid (Flat (w2.setCell ⟨r, 2, none⟩ (Value.slice (some ⟨g2, 0, none⟩) (fs.length + 1) k2)) r B n ps (fs ++ [(a, b, p, ((c.toNat : Int) == 86) == (a % 2 == 0))])) :=
      ⟨some ⟨bp, op, none⟩, cp, Value.slice (some ⟨g2, 0, none⟩) (fs.length + 1) k2, hK3, hP3, by rw [hFs, List.length_append]; exact hF3, h4⟩
    have HB3 := Lib.hid hB3
    clear hA hK2 hP2 hne3 hne4 gS hF3 hP3 hK3 hB3 hFs ho2 hg2 hb2 hm2 hr2 HKP
    go_end0
    exact ⟨rfl, HR.out, HB3.out⟩
end Go.Proofs.YtkdlipbegdiaaaaGreatDoor
namespace Go.Proofs.YtkdlipbegdiaaaaGreatDoor
open Go.RowKit
/-- is the byte k of a text a V -/
def isV (s : ByteArray) (k : Nat) : Bool := ((s.data.toList.getD k 0).toNat : Int) == 86
theorem isV_at {s : ByteArray} {k : Nat} (h : k < s.size) : isV s k = (((s[k]'h).toNat : Int) == 86) := by
  unfold isV
  rw [List.getD_eq_getElem?_getD, List.getElem?_eq_getElem (by simpa using h)]; rfl
/-- the folds of a strip -/
def fdS (xs : List Int) (s : ByteArray) (k : Nat) : List Fd := (List.range k).map fun j => (j, j + 1, plcAt xs (j + 1), isV s j == (j % 2 == 0))
theorem fdS_len (xs : List Int) (s : ByteArray) (k : Nat) : (fdS xs s k).length = k := by simp [fdS]
theorem fdS_succ (xs : List Int) (s : ByteArray) (k : Nat) : fdS xs s (k + 1) = fdS xs s k ++ [(k, k + 1, plcAt xs (k + 1), isV s k == (k % 2 == 0))] := by simp [fdS, List.range_succ]
theorem plcL_len (xs : List Int) : (plcL xs).length = xs.length + 1 := plcTo_len xs _
theorem plcL_at {xs : List Int} {k : Nat} (h : k < (plcL xs).length) : (plcL xs)[k] = plcAt xs k := by
  have := plcTo_get (xs := xs) (m := xs.length + 1) (k := k) (by rw [← plcL_len]; exact h)
  rw [List.getElem?_eq_getElem (by exact h)] at this
  exact Option.some.inj this
theorem Flat.new {w : World} {B n : Nat} {ps : List Int} {A : Option Addr} {c : Nat} (h : Own w B (.slice A ps.length c) ps) (hB : B ≤ w.heap.size) : Flat (w.alloc (.cells #[.int .i64 n, .slice A ps.length c, .slice none 0 0] 67)) w.heap.size B n ps [] :=
  ⟨A, c, .slice none 0 0, Blk.new w _ _, own_below2' h ((Below.refl _ _).alloc (Nat.le_refl _) _), ⟨rfl, Or.inl ⟨rfl, rfl⟩⟩, hB⟩
set_option maxHeartbeats 1000000 in
set_option maxRecDepth 100000 in
theorem impl_flatStrip (A : Option Addr) (cap : Nat) (xs : List Int) (s : ByteArray) (w : World) (h : Ints w A xs) (hl : xs.length ≤ 100) (hx : ∀ x ∈ xs, 0 ≤ x ∧ x ≤ 1000) (hs : s.size < xs.length) :
    Calls Tryz.prog 21 #[.slice A xs.length cap, .string s] w fun e w' => ∃ r, e = .returned (ptr r) ∧ Flat w' r w.heap.size xs.length (plcL xs) (fdS xs s s.size) ∧ Below w.heap.size w w' := by
  go_enter Tryz.func21, Tryz.ntmps21
  go_wp2_with fail
  refine (impl_placesOf A cap xs w h hl hx).mono ?_
  rintro e w1 ⟨v, rfl, hP, hb1⟩
  obtain ⟨Ap, cp, rfl, _, _, _⟩ := hP.form
  have HF := Lib.hid (Flat.new (n := xs.length) hP hb1.size)
  have HB := Lib.hid (hb1.alloc hb1.size (.cells #[.int .i64 xs.length, .slice Ap (plcL xs).length cp, .slice none 0 0] 67))
  have hz1 := hb1.size
  obtain ⟨r, hr⟩ : ∃ r, r = w1.heap.size := ⟨_, rfl⟩
  rw [← hr] at HF
  clear hP hb1
  go_wp2_with fail
  rw [← hr]
  go_loopg [6] (s.size + 1) (fun g s6 wr => ∃ (k : Nat), k ≤ s.size ∧ s6 = .int .i64 k ∧ s.size - k < g ∧ Hid (Flat wr r w.heap.size xs.length (plcL xs) (fdS xs s k)) ∧ Hid (Below w.heap.size w wr))
  case atStart => exact ⟨0, Nat.zero_le _, rfl, by omega, HF, HB⟩
  case round =>
    clear HF HB hr
    obtain ⟨k, hk, rfl, hg, HF, HB⟩ := hrel
    cases gk with
    | zero => omega
    | succ g =>
    by_cases hlt : k < s.size
    · have HA := Lib.hid (impl_addFold r w.heap.size xs.length k (k + 1) s[k] (plcL xs) (fdS xs s k) (plcAt xs (k + 1)) wr HF.out (by rw [plcL_len]; omega) (plcL_at _) (by rw [plcL_len]; omega) (by rw [fdS_len]; omega) (by omega) HB.out.size)
      have HE : Hid (fdS xs s k ++ [(k, k + 1, plcAt xs (k + 1), (((s[k]).toNat : Int) == 86) == (k % 2 == 0))] = fdS xs s (k + 1)) := by
        show _ = _
        rw [fdS_succ, isV_at hlt]
      clear HF
      go_wp2_with fail
      refine HA.out.mono ?_
      rintro e w2 ⟨rfl, hF2, hb2⟩
      rw [HE.out] at hF2
      have HF2 := Lib.hid hF2
      have HB2 := Lib.hid (HB.out.trans hb2)
      clear hF2 hb2 HA HB
      go_wp2_with fail
      go_roundg g
      case measure => omega
      case rel => exact ⟨k + 1, by omega, by go_num, by omega, HF2, HB2⟩
    · obtain rfl : k = s.size := by omega
      go_wp2_with fail
      go_ret
      exact ⟨r, rfl, HF.out, HB.out⟩
end Go.Proofs.YtkdlipbegdiaaaaGreatDoor
