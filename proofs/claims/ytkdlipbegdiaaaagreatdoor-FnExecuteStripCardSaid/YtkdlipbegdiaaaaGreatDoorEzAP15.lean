/- VertexMany and VertexFirst, the program's and the reference's. No condition but sizes. Texts by rank; equal angles fold as their balance tells; the first text begins with M. No condition. -/
import Derived.Test.YtkdlipbegdiaaaaGreatDoorEzAP4
import Derived.Test.YtkdlipbegdiaaaaGreatDoorEzAP6
import Derived.Test.YtkdlipbegdiaaaaGreatDoorEzAP14
namespace Go.Proofs.YtkdlipbegdiaaaaGreatDoor
open Go.RowKit
/-- for how many of the first m texts the vertex folds -/
def cntV (xs : List Int) : Nat → Nat
  | 0 => 0
  | m + 1 => cntV xs m + (if vfB xs (txt xs.length m) then 1 else 0)
def vmI (xs : List Int) : Int := if avB xs then (cntV xs (2 ^ xs.length) : Int) else -1
/-- the first of g ranks from k on whose text folds -/
def fstV (xs : List Int) : Nat → Nat → Option Nat
  | _, 0 => none
  | k, g + 1 => if vfB xs (txt xs.length k) then some k else fstV xs (k + 1) g
def vfo (xs : List Int) : Option Nat := if avB xs then fstV xs 0 (2 ^ xs.length) else none
def vfoT (xs : List Int) : ByteArray := match vfo xs with | some k => txt xs.length k | none => ByteArray.empty
theorem cntV_le (xs : List Int) (m : Nat) : cntV xs m ≤ m := by
  induction m with
  | zero => exact Nat.le_refl _
  | succ m ih => unfold cntV; split <;> omega
theorem pow_le_1024 {n : Nat} (h : n ≤ 10) : 2 ^ n ≤ 1024 := Nat.pow_le_pow_right (by decide : 1 ≤ 2) h
theorem wrap_pow {n P : Nat} (h : P = 2 ^ n) (hP : P ≤ 1024) : wrap64 (2 ^ n) = (P : Int) := by
  rw [show (2 : Int) ^ n = ((2 ^ n : Nat) : Int) from by simp, ← h]
  unfold wrap64; omega
theorem fstV_none {xs : List Int} (h : ∀ s, vfB xs s = false) (g k : Nat) : fstV xs k g = none := by
  induction g generalizing k with
  | zero => rfl
  | succ g ih => rw [fstV, h, if_neg (by decide)]; exact ih _
theorem vfo_ac {xs : List Int} (h : acB xs = false) : vfo xs = none := by
  unfold vfo
  split
  · exact fstV_none (fun s => by unfold vfB; rw [h]; rfl) _ _
  · rfl
theorem vfo_av {xs : List Int} (h : avB xs = false) : vfo xs = none := by
  unfold vfo; rw [h]; rfl
theorem fstV_step (xs : List Int) (k P : Nat) (h : k < P) : fstV xs k (P - k) = if vfB xs (txt xs.length k) then some k else fstV xs (k + 1) (P - (k + 1)) := by
  rw [show P - k = (P - (k + 1)) + 1 from by omega]; rfl
set_option maxHeartbeats 1000000 in
theorem impl_VertexMany (A : Option Addr) (cap : Nat) (xs : List Int) (w : World) (h : Ints w A xs) (hl : xs.length ≤ maxLen) :
    Calls Tryz.prog 131 #[.slice A xs.length cap] w fun e w' => e = .returned (.int .i64 (vmI xs)) ∧ Below w.heap.size w w' := by
  cases hv : avB xs with
  | false =>
    have HV := Lib.hid hv; clear hv
    go_enter Tryz.func131, Tryz.ntmps131
    go_wp2_with fail
    refine (impl_AnglesValid A cap xs w h hl).mono ?_
    rintro e w' ⟨rfl, rfl⟩
    rw [HV.out]
    go_wp2_with fail
    go_ret
    exact ⟨by unfold vmI; rw [HV.out]; rfl, Below.refl _ _⟩
  | true =>
    obtain ⟨_, h2, h10, hx, _⟩ := avB_parts hv
    have HV := Lib.hid hv; clear hv
    have HX := Lib.hid hx; clear hx
    obtain ⟨P, hPe⟩ : ∃ P, P = 2 ^ xs.length := ⟨_, rfl⟩
    have hP : P ≤ 1024 := hPe ▸ pow_le_1024 h10
    have hwr : wrap64 (2 ^ xs.length) = (P : Int) := wrap_pow hPe hP
    have HP := Lib.hid hPe; clear hPe
    go_enter Tryz.func131, Tryz.ntmps131
    go_wp2_with fail
    refine (impl_AnglesValid A cap xs w h hl).mono ?_
    rintro e w' ⟨rfl, rfl⟩
    rw [HV.out]
    go_wp2_with fail
    go_loopg [4, 5] (P + 1) (fun g s4 s5 wr => ∃ (k c : Nat), k ≤ P ∧ s5 = .int .i64 k ∧ s4 = .int .i64 c ∧ c ≤ k ∧ Hid (c = cntV xs k) ∧ P - k < g ∧ Below w.heap.size w wr)
    case atStart => exact ⟨0, 0, Nat.zero_le _, rfl, rfl, Nat.le_refl _, rfl, by omega, Below.refl _ _⟩
    case round =>
      obtain ⟨k, c, hk, rfl, rfl, hck, HC, hg, hbel⟩ := hrel
      have hw := h.below hbel
      have hsz := hbel.size
      cases gk with
      | zero => omega
      | succ g =>
      by_cases hlt : k < P
      · go_wp2_with fail
        refine (impl_foldsOfNumber xs.length k wr (by omega) (by omega)).mono ?_
        rintro e w1 ⟨rfl, hb1⟩
        have hbel1 := hbel.trans (hb1.mono hsz)
        have hsz1 := hbel1.size
        have hw1 := h.below hbel1
        have hts := txt_size xs.length k
        have HTS := Lib.hid hts
        clear hb1 hw hts
        go_wp2_with fail
        refine (impl_VertexFolds A cap xs (txt xs.length k) w1 hw1 hl (by rw [HTS.out]; exact hl)).mono ?_
        rintro e w2 ⟨rfl, hb2⟩
        have hbel2 := hbel1.trans (hb2.mono hsz1)
        cases hvf : vfB xs (txt xs.length k) with
        | true =>
          have hc1 : c + 1 = cntV xs (k + 1) := by show _ = cntV xs k + _; rw [hvf, ← HC.out]; rfl
          have HC1 := Lib.hid hc1
          clear hvf hc1 hb2 hw1 hbel hbel1
          go_wp2_with fail
          go_roundg g
          case measure => omega
          case rel => exact ⟨k + 1, c + 1, by omega, by go_num, by go_num, by omega, HC1, by omega, hbel2⟩
        | false =>
          have hc1 : c = cntV xs (k + 1) := by show _ = cntV xs k + _; rw [hvf, ← HC.out]; rfl
          have HC1 := Lib.hid hc1
          clear hvf hc1 hb2 hw1 hbel hbel1
          go_wp2_with fail
          go_roundg g
          case measure => omega
          case rel => exact ⟨k + 1, c, by omega, by go_num, rfl, by omega, HC1, by omega, hbel2⟩
      · obtain rfl : k = P := by omega
        go_wp2_with fail
        go_ret
        exact ⟨by unfold vmI; rw [HV.out, if_pos rfl, ← HP.out, ← HC.out]; rfl, hbel⟩
set_option maxHeartbeats 1000000 in
theorem impl_VertexFirst (A : Option Addr) (cap : Nat) (xs : List Int) (w : World) (h : Ints w A xs) (hl : xs.length ≤ maxLen) :
    Calls Tryz.prog 132 #[.slice A xs.length cap] w fun e w' => e = .returned (.tuple #[.string (vfoT xs), .bool (vfo xs).isSome]) ∧ Below w.heap.size w w' := by
  cases hv : acB xs with
  | false =>
    have HV := Lib.hid hv; clear hv
    go_enter Tryz.func132, Tryz.ntmps132
    go_wp2_with fail
    refine (impl_AnglesCloses A cap xs w h hl).mono ?_
    rintro e w' ⟨rfl, rfl⟩
    rw [HV.out]
    go_wp2_with fail
    go_ret2
    exact ⟨by unfold vfoT; rw [vfo_ac HV.out]; rfl, Below.refl _ _⟩
  | true =>
    have ha : avB xs = true := by unfold acB at hv; rw [Bool.and_eq_true] at hv; exact hv.1
    obtain ⟨_, h2, h10, hx, _⟩ := avB_parts ha
    have HA := Lib.hid ha; clear ha
    have HV := Lib.hid hv; clear hv
    have HX := Lib.hid hx; clear hx
    obtain ⟨P, hPe⟩ : ∃ P, P = 2 ^ xs.length := ⟨_, rfl⟩
    have hP : P ≤ 1024 := hPe ▸ pow_le_1024 h10
    have hwr : wrap64 (2 ^ xs.length) = (P : Int) := wrap_pow hPe hP
    have HP := Lib.hid hPe; clear hPe
    have H0 : Hid (vfo xs = fstV xs 0 (P - 0)) := by show _ = _; unfold vfo; rw [HA.out, if_pos rfl, HP.out]; rfl
    go_enter Tryz.func132, Tryz.ntmps132
    go_wp2_with fail
    refine (impl_AnglesCloses A cap xs w h hl).mono ?_
    rintro e w' ⟨rfl, rfl⟩
    rw [HV.out]
    go_wp2_with fail
    go_loopg [5] (P + 1) (fun g s5 wr => ∃ (k : Nat), k ≤ P ∧ s5 = .int .i64 k ∧ Hid (vfo xs = fstV xs k (P - k)) ∧ P - k < g ∧ Below w.heap.size w wr)
    case atStart => exact ⟨0, Nat.zero_le _, rfl, H0, by omega, Below.refl _ _⟩
    case round =>
      obtain ⟨k, hk, rfl, HC, hg, hbel⟩ := hrel
      have hw := h.below hbel
      have hsz := hbel.size
      cases gk with
      | zero => omega
      | succ g =>
      by_cases hlt : k < P
      · go_wp2_with fail
        refine (impl_foldsOfNumber xs.length k wr (by omega) (by omega)).mono ?_
        rintro e w1 ⟨rfl, hb1⟩
        have hbel1 := hbel.trans (hb1.mono hsz)
        have hsz1 := hbel1.size
        have hw1 := h.below hbel1
        have hts := txt_size xs.length k
        have HTS := Lib.hid hts
        clear hb1 hw hts
        go_wp2_with fail
        refine (impl_VertexFolds A cap xs (txt xs.length k) w1 hw1 hl (by rw [HTS.out]; exact hl)).mono ?_
        rintro e w2 ⟨rfl, hb2⟩
        have hbel2 := hbel1.trans (hb2.mono hsz1)
        have hgo := fstV_step xs k P hlt
        cases hvf : vfB xs (txt xs.length k) with
        | true =>
          have hc1 : vfo xs = some k := by rw [HC.out, hgo, hvf, if_pos rfl]
          have HC1 := Lib.hid hc1
          clear hvf hc1 hb2 hw1 hbel hbel1 hgo
          go_wp2_with fail
          go_ret2
          exact ⟨by unfold vfoT; rw [HC1.out]; rfl, hbel2⟩
        | false =>
          have hc1 : vfo xs = fstV xs (k + 1) (P - (k + 1)) := by rw [HC.out, hgo, hvf, if_neg (by decide)]
          have HC1 := Lib.hid hc1
          clear hvf hc1 hb2 hw1 hbel hbel1 hgo
          go_wp2_with fail
          go_roundg g
          case measure => omega
          case rel => exact ⟨k + 1, by omega, by go_num, HC1, by omega, hbel2⟩
      · obtain rfl : k = P := by omega
        have hc1 : vfo xs = none := by rw [HC.out, Nat.sub_self]; rfl
        have HC1 := Lib.hid hc1
        clear hc1
        go_wp2_with fail
        go_ret2
        exact ⟨by unfold vfoT; rw [HC1.out]; rfl, hbel⟩
set_option maxHeartbeats 1000000 in
theorem spec_VertexMany (A : Option Addr) (cap : Nat) (xs : List Int) (w : World) (h : Ints w A xs) (hl : xs.length ≤ maxLen) (hcap : xs.length ≤ cap) (hcm : cap ≤ maxLen) :
    Calls Tryz.prog 83 #[.slice A xs.length cap] w fun e w' => e = .returned (.int .i64 (vmI xs)) ∧ Below w.heap.size w w' := by
  cases hv : avB xs with
  | false =>
    have HV := Lib.hid hv; clear hv
    go_enter Tryz.func83, Tryz.ntmps83
    go_wp2_with fail
    refine (spec_AnglesValid A cap xs w h hl).mono ?_
    rintro e w' ⟨rfl, rfl⟩
    rw [HV.out]
    go_wp2_with fail
    go_ret
    exact ⟨by unfold vmI; rw [HV.out]; rfl, Below.refl _ _⟩
  | true =>
    obtain ⟨_, h2, h10, hx, _⟩ := avB_parts hv
    have HV := Lib.hid hv; clear hv
    have HX := Lib.hid hx; clear hx
    obtain ⟨P, hPe⟩ : ∃ P, P = 2 ^ xs.length := ⟨_, rfl⟩
    have hP : P ≤ 1024 := hPe ▸ pow_le_1024 h10
    have HP := Lib.hid hPe; clear hPe
    go_enter Tryz.func83, Tryz.ntmps83
    go_wp2_with fail
    refine (spec_AnglesValid A cap xs w h hl).mono ?_
    rintro e w' ⟨rfl, rfl⟩
    rw [HV.out]
    go_wp2_with fail
    go_loopg [3, 4] (P + 1) (fun g s4 s5 wr => ∃ (k c : Nat), k ≤ P ∧ s5 = .int .i64 k ∧ s4 = .int .i64 c ∧ c ≤ k ∧ Hid (c = cntV xs k) ∧ P - k < g ∧ Below w.heap.size w wr)
    case atStart => exact ⟨0, 0, Nat.zero_le _, rfl, rfl, Nat.le_refl _, rfl, by omega, Below.refl _ _⟩
    case round =>
      obtain ⟨k, c, hk, rfl, rfl, hck, HC, hg, hbel⟩ := hrel
      have hw := h.below hbel
      have hsz := hbel.size
      cases gk with
      | zero => omega
      | succ g =>
      by_cases hlt : k < P
      · go_wp2_with fail
        refine (spec_l1Power xs.length wr (by omega)).mono ?_
        rintro e w1 ⟨rfl, rfl⟩
        rw [← HP.out]
        go_wp2_with fail
        refine (spec_l1Text xs.length k wr (by omega) (by omega)).mono ?_
        rintro e w1 ⟨rfl, rfl⟩
        have hts := txt_size xs.length k
        have HTS := Lib.hid hts
        clear hts
        go_wp2_with fail
        refine (spec_VertexFolds A cap xs (txt xs.length k) wr hw hl (by rw [HTS.out]; exact hl) hcap hcm).mono ?_
        rintro e w2 ⟨rfl, hb2⟩
        have hbel2 := hbel.trans (hb2.mono hsz)
        cases hvf : vfB xs (txt xs.length k) with
        | true =>
          have hc1 : c + 1 = cntV xs (k + 1) := by show _ = cntV xs k + _; rw [hvf, ← HC.out]; rfl
          have HC1 := Lib.hid hc1
          clear hvf hc1 hb2 hw hbel
          go_wp2_with fail
          go_roundg g
          case measure => omega
          case rel => exact ⟨k + 1, c + 1, by omega, by go_num, by go_num, by omega, HC1, by omega, hbel2⟩
        | false =>
          have hc1 : c = cntV xs (k + 1) := by show _ = cntV xs k + _; rw [hvf, ← HC.out]; rfl
          have HC1 := Lib.hid hc1
          clear hvf hc1 hb2 hw hbel
          go_wp2_with fail
          go_roundg g
          case measure => omega
          case rel => exact ⟨k + 1, c, by omega, by go_num, rfl, by omega, HC1, by omega, hbel2⟩
      · obtain rfl : k = P := by omega
        go_wp2_with fail
        refine (spec_l1Power xs.length wr (by omega)).mono ?_
        rintro e w1 ⟨rfl, rfl⟩
        rw [← HP.out]
        go_wp2_with fail
        go_ret
        exact ⟨by unfold vmI; rw [HV.out, if_pos rfl, ← HP.out, ← HC.out]; rfl, hbel⟩
set_option maxHeartbeats 1000000 in
theorem spec_VertexFirst (A : Option Addr) (cap : Nat) (xs : List Int) (w : World) (h : Ints w A xs) (hl : xs.length ≤ maxLen) (hcap : xs.length ≤ cap) (hcm : cap ≤ maxLen) :
    Calls Tryz.prog 85 #[.slice A xs.length cap] w fun e w' => e = .returned (.tuple #[.string (vfoT xs), .bool (vfo xs).isSome]) ∧ Below w.heap.size w w' := by
  cases hv : avB xs with
  | false =>
    have HV := Lib.hid hv; clear hv
    go_enter Tryz.func85, Tryz.ntmps85
    go_wp2_with fail
    refine (spec_AnglesValid A cap xs w h hl).mono ?_
    rintro e w' ⟨rfl, rfl⟩
    rw [HV.out]
    go_wp2_with fail
    go_ret2
    exact ⟨by unfold vfoT; rw [vfo_av HV.out]; rfl, Below.refl _ _⟩
  | true =>
    obtain ⟨_, h2, h10, hx, _⟩ := avB_parts hv
    have HA := Lib.hid hv; clear hv
    have HX := Lib.hid hx; clear hx
    obtain ⟨P, hPe⟩ : ∃ P, P = 2 ^ xs.length := ⟨_, rfl⟩
    have hP : P ≤ 1024 := hPe ▸ pow_le_1024 h10
    have HP := Lib.hid hPe; clear hPe
    have H0 : Hid (vfo xs = fstV xs 0 (P - 0)) := by show _ = _; unfold vfo; rw [HA.out, if_pos rfl, HP.out]; rfl
    go_enter Tryz.func85, Tryz.ntmps85
    go_wp2_with fail
    refine (spec_AnglesValid A cap xs w h hl).mono ?_
    rintro e w' ⟨rfl, rfl⟩
    rw [HA.out]
    go_wp2_with fail
    go_loopg [4] (P + 1) (fun g s5 wr => ∃ (k : Nat), k ≤ P ∧ s5 = .int .i64 k ∧ Hid (vfo xs = fstV xs k (P - k)) ∧ P - k < g ∧ Below w.heap.size w wr)
    case atStart => exact ⟨0, Nat.zero_le _, rfl, H0, by omega, Below.refl _ _⟩
    case round =>
      obtain ⟨k, hk, rfl, HC, hg, hbel⟩ := hrel
      have hw := h.below hbel
      have hsz := hbel.size
      cases gk with
      | zero => omega
      | succ g =>
      by_cases hlt : k < P
      · go_wp2_with fail
        refine (spec_l1Power xs.length wr (by omega)).mono ?_
        rintro e w1 ⟨rfl, rfl⟩
        rw [← HP.out]
        go_wp2_with fail
        refine (spec_l1Text xs.length k wr (by omega) (by omega)).mono ?_
        rintro e w1 ⟨rfl, rfl⟩
        have hts := txt_size xs.length k
        have HTS := Lib.hid hts
        clear hts
        go_wp2_with fail
        refine (spec_VertexFolds A cap xs (txt xs.length k) wr hw hl (by rw [HTS.out]; exact hl) hcap hcm).mono ?_
        rintro e w2 ⟨rfl, hb2⟩
        have hbel2 := hbel.trans (hb2.mono hsz)
        have hgo := fstV_step xs k P hlt
        cases hvf : vfB xs (txt xs.length k) with
        | true =>
          have hc1 : vfo xs = some k := by rw [HC.out, hgo, hvf, if_pos rfl]
          have HC1 := Lib.hid hc1
          clear hvf hc1 hb2 hw hbel hgo
          go_wp2_with fail
          go_ret2
          exact ⟨by unfold vfoT; rw [HC1.out]; rfl, hbel2⟩
        | false =>
          have hc1 : vfo xs = fstV xs (k + 1) (P - (k + 1)) := by rw [HC.out, hgo, hvf, if_neg (by decide)]
          have HC1 := Lib.hid hc1
          clear hvf hc1 hb2 hw hbel hgo
          go_wp2_with fail
          go_roundg g
          case measure => omega
          case rel => exact ⟨k + 1, by omega, by go_num, HC1, by omega, hbel2⟩
      · obtain rfl : k = P := by omega
        have hc1 : vfo xs = none := by rw [HC.out, Nat.sub_self]; rfl
        have HC1 := Lib.hid hc1
        clear hc1
        go_wp2_with fail
        refine (spec_l1Power xs.length wr (by omega)).mono ?_
        rintro e w1 ⟨rfl, rfl⟩
        rw [← HP.out]
        go_wp2_with fail
        go_ret2
        exact ⟨by unfold vfoT; rw [HC1.out]; rfl, hbel⟩
end Go.Proofs.YtkdlipbegdiaaaaGreatDoor
namespace Go.Proofs.YtkdlipbegdiaaaaGreatDoor
theorem fstV_some {xs : List Int} : ∀ {g k r : Nat}, fstV xs k g = some r → k ≤ r ∧ r < k + g ∧ vfB xs (txt xs.length r) = true ∧ ∀ j, k ≤ j → j < r → vfB xs (txt xs.length j) = false := by
  intro g
  induction g with
  | zero => intro k r h; cases h
  | succ g ih =>
    intro k r h
    rw [fstV] at h
    cases hv : vfB xs (txt xs.length k) with
    | true =>
      rw [hv, if_pos rfl] at h
      have : k = r := Option.some.inj h
      subst this
      exact ⟨Nat.le_refl _, by omega, hv, fun j h1 h2 => by omega⟩
    | false =>
      rw [hv, if_neg (by decide)] at h
      obtain ⟨h1, h2, h3, h4⟩ := ih h
      refine ⟨by omega, by omega, h3, fun j hj1 hj2 => ?_⟩
      rcases Nat.lt_or_ge k j with e | e
      · exact h4 j (by omega) hj2
      · have : j = k := by omega
        rw [this]; exact hv
theorem vfo_some {xs : List Int} {r : Nat} (h : vfo xs = some r) : avB xs = true ∧ r < 2 ^ xs.length ∧ vfB xs (txt xs.length r) = true ∧ ∀ j, j < r → vfB xs (txt xs.length j) = false := by
  unfold vfo at h
  split at h
  · next ha =>
    obtain ⟨_, h2, h3, h4⟩ := fstV_some h
    exact ⟨ha, by omega, h3, fun j hj => h4 j (Nat.zero_le _) hj⟩
  · cases h
end Go.Proofs.YtkdlipbegdiaaaaGreatDoor
