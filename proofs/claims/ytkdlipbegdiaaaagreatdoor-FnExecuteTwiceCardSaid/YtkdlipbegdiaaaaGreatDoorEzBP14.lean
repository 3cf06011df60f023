/- VertexMany and VertexFirst, the program's and the reference's. No condition but sizes. The drawn vertices: 'l91Vertex' and the draws of laws on vertices. No condition but sizes. A number's digits: the laws' own. No condition but sizes. -/
import Derived.Test.YtkdlipbegdiaaaaGreatDoorEzBP5
import Derived.Test.YtkdlipbegdiaaaaGreatDoorEzBP6
import Derived.Test.YtkdlipbegdiaaaaGreatDoorEzBP13
import Derived.Test.YtkdlipbegdiaaaaGreatDoorEzBP7
import Derived.Test.YtkdlipbegdiaaaaGreatDoorEzBP0
import Derived.Lib.ItoaNum
namespace Go.Proofs.YtkdlipbegdiaaaaGreatDoor
open Go.RowKit
/-- for how many of the first m texts the vertex folds -/
def cntV (xs : List Int) : Nat → Nat
  | 0 => 0
  | m + 1 => cntV xs m + (if vfB xs (txt xs.length m) then 1 else 0)
def vmI (xs : List Int) : Int := if avB xs then (cntV xs (2 ^ xs.length) : Int) else -1
/-- the first of g ranks from k on whose text folds -/
def fstV (xs : List Int) : Nat → Nat → Option Nat
  | _, 0 => none
  | k, g + 1 => if vfB xs (txt xs.length k) then some k else fstV xs (k + 1) g
def vfo (xs : List Int) : Option Nat := if avB xs then fstV xs 0 (2 ^ xs.length) else none
def vfoT (xs : List Int) : ByteArray := match vfo xs with | some k => txt xs.length k | none => ByteArray.empty
theorem cntV_le (xs : List Int) (m : Nat) : cntV xs m ≤ m := by
  induction m with
  | zero => exact Nat.le_refl _
  | succ m ih => unfold cntV; split <;> omega
theorem pow_le_1024 {n : Nat} (h : n ≤ 10) : 2 ^ n ≤ 1024 := Nat.pow_le_pow_right (by decide : 1 ≤ 2) h
theorem wrap_pow {n P : Nat} (h : P = 2 ^ n) (hP : P ≤ 1024) : wrap64 (2 ^ n) = (P : Int) := by
  rw [show (2 : Int) ^ n = ((2 ^ n : Nat) : Int) from by simp, ← h]
  unfold wrap64; omega
theorem fstV_none {xs : List Int} (h : ∀ s, vfB xs s = false) (g k : Nat) : fstV xs k g = none := by
  induction g generalizing k with
  | zero => rfl
  | succ g ih => rw [fstV, h, if_neg (by decide)]; exact ih _
theorem vfo_ac {xs : List Int} (h : acB xs = false) : vfo xs = none := by
  unfold vfo
  split
  · exact fstV_none (fun s => by unfold vfB; rw [h]; rfl) _ _
  · rfl
theorem vfo_av {xs : List Int} (h : avB xs = false) : vfo xs = none := by
  unfold vfo; rw [h]; rfl
theorem fstV_step (xs : List Int) (k P : Nat) (h : k < P) : fstV xs k (P - k) = if vfB xs (txt xs.length k) then some k else fstV xs (k + 1) (P - (k + 1)) := by
  rw [show P - k = (P - (k + 1)) + 1 from by omega]; rfl
set_option maxHeartbeats 1000000 in
theorem impl_VertexMany (A : Option Addr) (cap : Nat) (xs : List Int) (w : World) (h : Ints w A xs) (hl : xs.length ≤ maxLen) :
    Calls Tryz.prog 131 #[.slice A xs.length cap] w fun e w' => e = .returned (.int .i64 (vmI xs)) ∧ Below w.heap.size w w' := by
  cases hv : avB xs with
  | false =>
    have HV := Lib.hid hv; clear hv
    go_enter Tryz.func131, Tryz.ntmps131
    go_wp2_with fail
    refine (impl_AnglesValid A cap xs w h hl).mono ?_
    rintro e w' ⟨rfl, rfl⟩
    rw [HV.out]
    go_wp2_with fail
    go_ret
    exact ⟨by unfold vmI; rw [HV.out]; rfl, Below.refl _ _⟩
  | true =>
    obtain ⟨_, h2, h10, hx, _⟩ := avB_parts hv
    have HV := Lib.hid hv; clear hv
    have HX := Lib.hid hx; clear hx
    obtain ⟨P, hPe⟩ : ∃ P, P = 2 ^ xs.length := ⟨_, rfl⟩
    have hP : P ≤ 1024 := hPe ▸ pow_le_1024 h10
    have hwr : wrap64 (2 ^ xs.length) = (P : Int) := wrap_pow hPe hP
    have HP := Lib.hid hPe; clear hPe
    go_enter Tryz.func131, Tryz.ntmps131
    go_wp2_with fail
    refine (impl_AnglesValid A cap xs w h hl).mono ?_
    rintro e w' ⟨rfl, rfl⟩
    rw [HV.out]
    go_wp2_with fail
    go_loopg [4, 5] (P + 1) (fun g s4 s5 wr => ∃ (k c : Nat), k ≤ P ∧ s5 = .int .i64 k ∧ s4 = .int .i64 c ∧ c ≤ k ∧ Hid (c = cntV xs k) ∧ P - k < g ∧ Below w.heap.size w wr)
    case atStart => exact ⟨0, 0, Nat.zero_le _, rfl, rfl, Nat.le_refl _, rfl, by omega, Below.refl _ _⟩
    case round =>
      obtain ⟨k, c, hk, rfl, rfl, hck, HC, hg, hbel⟩ := hrel
      have hw := h.below hbel
      have hsz := hbel.size
      cases gk with
      | zero => omega
      | succ g =>
      by_cases hlt : k < P
      · go_wp2_with fail
        refine (impl_foldsOfNumber xs.length k wr (by omega) (by omega)).mono ?_
        rintro e w1 ⟨rfl, hb1⟩
        have hbel1 := hbel.trans (hb1.mono hsz)
        have hsz1 := hbel1.size
        have hw1 := h.below hbel1
        have hts := txt_size xs.length k
        have HTS := Lib.hid hts
        clear hb1 hw hts
        go_wp2_with fail
        refine (impl_VertexFolds A cap xs (txt xs.length k) w1 hw1 hl (by rw [HTS.out]; exact hl)).mono ?_
        rintro e w2 ⟨rfl, hb2⟩
        have hbel2 := hbel1.trans (hb2.mono hsz1)
        cases hvf : vfB xs (txt xs.length k) with
        | true =>
          have hc1 : c + 1 = cntV xs (k + 1) := by show _ = cntV xs k + _; rw [hvf, ← HC.out]; rfl
          have HC1 := Lib.hid hc1
          clear hvf hc1 hb2 hw1 hbel hbel1
          go_wp2_with fail
          go_roundg g
          case measure => omega
          case rel => exact ⟨k + 1, c + 1, by omega, by go_num, by go_num, by omega, HC1, by omega, hbel2⟩
        | false =>
          have hc1 : c = cntV xs (k + 1) := by show _ = cntV xs k + _; rw [hvf, ← HC.out]; rfl
          have HC1 := Lib.hid hc1
          clear hvf hc1 hb2 hw1 hbel hbel1
          go_wp2_with fail
          go_roundg g
          case measure => omega
          case rel => exact ⟨k + 1, c, by omega, by go_num, rfl, by omega, HC1, by omega, hbel2⟩
      · obtain rfl : k = P := by omega
        go_wp2_with fail
        go_ret
        exact ⟨by unfold vmI; rw [HV.out, if_pos rfl, ← HP.out, ← HC.out]; rfl, hbel⟩
set_option maxHeartbeats 1000000 in
theorem impl_VertexFirst (A : Option Addr) (cap : Nat) (xs : List Int) (w : World) (h : Ints w A xs) (hl : xs.length ≤ maxLen) :
    Calls Tryz.prog 132 #[.slice A xs.length cap] w fun e w' => e = .returned (.tuple #[.string (vfoT xs), .bool (vfo xs).isSome]) ∧ Below w.heap.size w w' := by
  cases hv : acB xs with
  | false =>
    have HV := Lib.hid hv; clear hv
    go_enter Tryz.func132, Tryz.ntmps132
    go_wp2_with fail
    refine (impl_AnglesCloses A cap xs w h hl).mono ?_
    rintro e w' ⟨rfl, rfl⟩
    rw [HV.out]
    go_wp2_with fail
    go_ret2
    exact ⟨by unfold vfoT; rw [vfo_ac HV.out]; rfl, Below.refl _ _⟩
  | true =>
    have ha : avB xs = true := by unfold acB at hv; rw [Bool.and_eq_true] at hv; exact hv.1
    obtain ⟨_, h2, h10, hx, _⟩ := avB_parts ha
    have HA := Lib.hid ha; clear ha
    have HV := Lib.hid hv; clear hv
    have HX := Lib.hid hx; clear hx
    obtain ⟨P, hPe⟩ : ∃ P, P = 2 ^ xs.length := ⟨_, rfl⟩
    have hP : P ≤ 1024 := hPe ▸ pow_le_1024 h10
    have hwr : wrap64 (2 ^ xs.length) = (P : Int) := wrap_pow hPe hP
    have HP := Lib.hid hPe; clear hPe
    have H0 : Hid (vfo xs = fstV xs 0 (P - 0)) := by show _ = _; unfold vfo; rw [HA.out, if_pos rfl, HP.out]; rfl
    go_enter Tryz.func132, Tryz.ntmps132
    go_wp2_with fail
    refine (impl_AnglesCloses A cap xs w h hl).mono ?_
    rintro e w' ⟨rfl, rfl⟩
    rw [HV.out]
    go_wp2_with fail
    go_loopg [5] (P + 1) (fun g s5 wr => ∃ (k : Nat), k ≤ P ∧ s5 = .int .i64 k ∧ Hid (vfo xs = fstV xs k (P - k)) ∧ P - k < g ∧ Below w.heap.size w wr)
    case atStart => exact ⟨0, Nat.zero_le _, rfl, H0, by omega, Below.refl _ _⟩
    case round =>
      obtain ⟨k, hk, rfl, HC, hg, hbel⟩ := hrel
      have hw := h.below hbel
      have hsz := hbel.size
      cases gk with
      | zero => omega
      | succ g =>
      by_cases hlt : k < P
      · go_wp2_with fail
        refine (impl_foldsOfNumber xs.length k wr (by omega) (by omega)).mono ?_
        rintro e w1 ⟨rfl, hb1⟩
        have hbel1 := hbel.trans (hb1.mono hsz)
        have hsz1 := hbel1.size
        have hw1 := h.below hbel1
        have hts := txt_size xs.length k
        have HTS := Lib.hid hts
        clear hb1 hw hts
        go_wp2_with fail
        refine (impl_VertexFolds A cap xs (txt xs.length k) w1 hw1 hl (by rw [HTS.out]; exact hl)).mono ?_
        rintro e w2 ⟨rfl, hb2⟩
        have hbel2 := hbel1.trans (hb2.mono hsz1)
        have hgo := fstV_step xs k P hlt
        cases hvf : vfB xs (txt xs.length k) with
        | true =>
          have hc1 : vfo xs = some k := by rw [HC.out, hgo, hvf, if_pos rfl]
          have HC1 := Lib.hid hc1
          clear hvf hc1 hb2 hw1 hbel hbel1 hgo
          go_wp2_with fail
          go_ret2
          exact ⟨by unfold vfoT; rw [HC1.out]; rfl, hbel2⟩
        | false =>
          have hc1 : vfo xs = fstV xs (k + 1) (P - (k + 1)) := by rw [HC.out, hgo, hvf, if_neg (by decide)]
          have HC1 := Lib.hid hc1
          clear hvf hc1 hb2 hw1 hbel hbel1 hgo
          go_wp2_with fail
          go_roundg g
          case measure => omega
          case rel => exact ⟨k + 1, by omega, by go_num, HC1, by omega, hbel2⟩
      · obtain rfl : k = P := by omega
        have hc1 : vfo xs = none := by rw [HC.out, Nat.sub_self]; rfl
        have HC1 := Lib.hid hc1
        clear hc1
        go_wp2_with fail
        go_ret2
        exact ⟨by unfold vfoT; rw [HC1.out]; rfl, hbel⟩
set_option maxHeartbeats 1000000 in
theorem spec_VertexMany (A : Option Addr) (cap : Nat) (xs : List Int) (w : World) (h : Ints w A xs) (hl : xs.length ≤ maxLen) (hcap : xs.length ≤ cap) (hcm : cap ≤ maxLen) :
    Calls Tryz.prog 83 #[.slice A xs.length cap] w fun e w' => e = .returned (.int .i64 (vmI xs)) ∧ Below w.heap.size w w' := by
  cases hv : avB xs with
  | false =>
    have HV := Lib.hid hv; clear hv
    go_enter Tryz.func83, Tryz.ntmps83
    go_wp2_with fail
    refine (spec_AnglesValid A cap xs w h hl).mono ?_
    rintro e w' ⟨rfl, rfl⟩
    rw [HV.out]
    go_wp2_with fail
    go_ret
    exact ⟨by unfold vmI; rw [HV.out]; rfl, Below.refl _ _⟩
  | true =>
    obtain ⟨_, h2, h10, hx, _⟩ := avB_parts hv
    have HV := Lib.hid hv; clear hv
    have HX := Lib.hid hx; clear hx
    obtain ⟨P, hPe⟩ : ∃ P, P = 2 ^ xs.length := ⟨_, rfl⟩
    have hP : P ≤ 1024 := hPe ▸ pow_le_1024 h10
    have HP := Lib.hid hPe; clear hPe
    go_enter Tryz.func83, Tryz.ntmps83
    go_wp2_with fail
    refine (spec_AnglesValid A cap xs w h hl).mono ?_
    rintro e w' ⟨rfl, rfl⟩
    rw [HV.out]
    go_wp2_with fail
    go_loopg [3, 4] (P + 1) (fun g s4 s5 wr => ∃ (k c : Nat), k ≤ P ∧ s5 = .int .i64 k ∧ s4 = .int .i64 c ∧ c ≤ k ∧ Hid (c = cntV xs k) ∧ P - k < g ∧ Below w.heap.size w wr)
    case atStart => exact ⟨0, 0, Nat.zero_le _, rfl, rfl, Nat.le_refl _, rfl, by omega, Below.refl _ _⟩
    case round =>
      obtain ⟨k, c, hk, rfl, rfl, hck, HC, hg, hbel⟩ := hrel
      have hw := h.below hbel
      have hsz := hbel.size
      cases gk with
      | zero => omega
      | succ g =>
      by_cases hlt : k < P
      · go_wp2_with fail
        refine (spec_l1Power xs.length wr (by omega)).mono ?_
        rintro e w1 ⟨rfl, rfl⟩
        rw [← HP.out]
        go_wp2_with fail
        refine (spec_l1Text xs.length k wr (by omega) (by omega)).mono ?_
        rintro e w1 ⟨rfl, rfl⟩
        have hts := txt_size xs.length k
        have HTS := Lib.hid hts
        clear hts
        go_wp2_with fail
        refine (spec_VertexFolds A cap xs (txt xs.length k) wr hw hl (by rw [HTS.out]; exact hl) hcap hcm).mono ?_
        rintro e w2 ⟨rfl, hb2⟩
        have hbel2 := hbel.trans (hb2.mono hsz)
        cases hvf : vfB xs (txt xs.length k) with
        | true =>
          have hc1 : c + 1 = cntV xs (k + 1) := by show _ = cntV xs k + _; rw [hvf, ← HC.out]; rfl
          have HC1 := Lib.hid hc1
          clear hvf hc1 hb2 hw hbel
          go_wp2_with fail
          go_roundg g
          case measure => omega
          case rel => exact ⟨k + 1, c + 1, by omega, by go_num, by go_num, by omega, HC1, by omega, hbel2⟩
        | false =>
          have hc1 : c = cntV xs (k + 1) := by show _ = cntV xs k + _; rw [hvf, ← HC.out]; rfl
          have HC1 := Lib.hid hc1
          clear hvf hc1 hb2 hw hbel
          go_wp2_with fail
          go_roundg g
          case measure => omega
          case rel => exact ⟨k + 1, c, by omega, by go_num, rfl, by omega, HC1, by omega, hbel2⟩
      · obtain rfl : k = P := by omega
        go_wp2_with fail
        refine (spec_l1Power xs.length wr (by omega)).mono ?_
        rintro e w1 ⟨rfl, rfl⟩
        rw [← HP.out]
        go_wp2_with fail
        go_ret
        exact ⟨by unfold vmI; rw [HV.out, if_pos rfl, ← HP.out, ← HC.out]; rfl, hbel⟩
set_option maxHeartbeats 1000000 in
theorem spec_VertexFirst (A : Option Addr) (cap : Nat) (xs : List Int) (w : World) (h : Ints w A xs) (hl : xs.length ≤ maxLen) (hcap : xs.length ≤ cap) (hcm : cap ≤ maxLen) :
    Calls Tryz.prog 85 #[.slice A xs.length cap] w fun e w' => e = .returned (.tuple #[.string (vfoT xs), .bool (vfo xs).isSome]) ∧ Below w.heap.size w w' := by
  cases hv : avB xs with
  | false =>
    have HV := Lib.hid hv; clear hv
    go_enter Tryz.func85, Tryz.ntmps85
    go_wp2_with fail
    refine (spec_AnglesValid A cap xs w h hl).mono ?_
    rintro e w' ⟨rfl, rfl⟩
    rw [HV.out]
    go_wp2_with fail
    go_ret2
    exact ⟨by unfold vfoT; rw [vfo_av HV.out]; rfl, Below.refl _ _⟩
  | true =>
    obtain ⟨_, h2, h10, hx, _⟩ := avB_parts hv
    have HA := Lib.hid hv; clear hv
    have HX := Lib.hid hx; clear hx
    obtain ⟨P, hPe⟩ : ∃ P, P = 2 ^ xs.length := ⟨_, rfl⟩
    have hP : P ≤ 1024 := hPe ▸ pow_le_1024 h10
    have HP := Lib.hid hPe; clear hPe
    have H0 : Hid (vfo xs = fstV xs 0 (P - 0)) := by show _ = _; unfold vfo; rw [HA.out, if_pos rfl, HP.out]; rfl
    go_enter Tryz.func85, Tryz.ntmps85
    go_wp2_with fail
    refine (spec_AnglesValid A cap xs w h hl).mono ?_
    rintro e w' ⟨rfl, rfl⟩
    rw [HA.out]
    go_wp2_with fail
    go_loopg [4] (P + 1) (fun g s5 wr => ∃ (k : Nat), k ≤ P ∧ s5 = .int .i64 k ∧ Hid (vfo xs = fstV xs k (P - k)) ∧ P - k < g ∧ Below w.heap.size w wr)
    case atStart => exact ⟨0, Nat.zero_le _, rfl, H0, by omega, Below.refl _ _⟩
    case round =>
      obtain ⟨k, hk, rfl, HC, hg, hbel⟩ := hrel
      have hw := h.below hbel
      have hsz := hbel.size
      cases gk with
      | zero => omega
      | succ g =>
      by_cases hlt : k < P
      · go_wp2_with fail
        refine (spec_l1Power xs.length wr (by omega)).mono ?_
        rintro e w1 ⟨rfl, rfl⟩
        rw [← HP.out]
        go_wp2_with fail
        refine (spec_l1Text xs.length k wr (by omega) (by omega)).mono ?_
        rintro e w1 ⟨rfl, rfl⟩
        have hts := txt_size xs.length k
        have HTS := Lib.hid hts
        clear hts
        go_wp2_with fail
        refine (spec_VertexFolds A cap xs (txt xs.length k) wr hw hl (by rw [HTS.out]; exact hl) hcap hcm).mono ?_
        rintro e w2 ⟨rfl, hb2⟩
        have hbel2 := hbel.trans (hb2.mono hsz)
        have hgo := fstV_step xs k P hlt
        cases hvf : vfB xs (txt xs.length k) with
        | true =>
          have hc1 : vfo xs = some k := by rw [HC.out, hgo, hvf, if_pos rfl]
          have HC1 := Lib.hid hc1
          clear hvf hc1 hb2 hw hbel hgo
          go_wp2_with fail
          go_ret2
          exact ⟨by unfold vfoT; rw [HC1.out]; rfl, hbel2⟩
        | false =>
          have hc1 : vfo xs = fstV xs (k + 1) (P - (k + 1)) := by rw [HC.out, hgo, hvf, if_neg (by decide)]
          have HC1 := Lib.hid hc1
          clear hvf hc1 hb2 hw hbel hgo
          go_wp2_with fail
          go_roundg g
          case measure => omega
          case rel => exact ⟨k + 1, by omega, by go_num, HC1, by omega, hbel2⟩
      · obtain rfl : k = P := by omega
        have hc1 : vfo xs = none := by rw [HC.out, Nat.sub_self]; rfl
        have HC1 := Lib.hid hc1
        clear hc1
        go_wp2_with fail
        refine (spec_l1Power xs.length wr (by omega)).mono ?_
        rintro e w1 ⟨rfl, rfl⟩
        rw [← HP.out]
        go_wp2_with fail
        go_ret2
        exact ⟨by unfold vfoT; rw [HC1.out]; rfl, hbel⟩
end Go.Proofs.YtkdlipbegdiaaaaGreatDoor
namespace Go.Proofs.YtkdlipbegdiaaaaGreatDoor
open Go.RowKit
set_option maxHeartbeats 2000000 in
theorem spec_l91Vertex (w : World) (r : Nat) (A : Option Addr) (cap : Nat) (bs : List UInt8) (q most : Nat) (h : Rd w r A cap bs q) (hq : q ≤ 600000) (h2 : 2 ≤ most) (h10 : most ≤ 10) :
    Calls Tryz.prog 34 #[ptr r, .int .i64 most] w fun e w' => ∃ (B : Option Addr) (xs : List Int) (c : Nat) (s : ByteArray) (q' : Nat), e = .returned (.tuple #[.slice B xs.length c, .string s]) ∧ Away w' r B xs ∧ xs.length ≤ c ∧ c ≤ maxLen ∧ xs.length ≤ most ∧ Small xs ∧ s.size ≤ 20 ∧ q' ≤ q + 100 ∧ Rd w' r A cap bs q' ∧ w.grownBy w' (some r) := by
  go_enter Tryz.func34, Tryz.ntmps34
  go_wp2_with fail
  refine (spec_l91Angles w r A cap bs q most h (by omega) h2 h10).mono ?_
  rintro e w1 ⟨B, xs, c, q1, rfl, hA, hc, hcm, hxm, hSm, hq1, R1, G1⟩
  have HSm := Lib.hid hSm
  have HA := Lib.hid hA
  have hcm2 := hcm
  have hl : xs.length ≤ maxLen := by omega
  unfold maxLen at hcm2
  clear hSm hA
  go_wp2_with fail
  refine (spec_AnglesValid B c xs w1 HA.out.ints hl).mono ?_
  rintro e w' ⟨rfl, rfl⟩
  cases hv : avB xs with
  | false =>
    go_wp2_with fail
    refine (spec_pick w1 r A cap bs q1 20 R1 (by omega) (by omega)).mono ?_
    rintro e w8 ⟨v, rfl, hv, R8, g8⟩
    have G8 := G1.trans g8
    have HA8 := Lib.hid (HA.out.grown g8)
    clear hv g8 HA G1
    by_cases v0 : v = 0
    · subst v0
      go_wp2_with fail
      refine (spec_l91Any w8 r A cap bs _ R8 (by omega)).mono ?_
      rintro e w9 ⟨t, q9, rfl, ht, hq9, R9, g9⟩
      go_wp2_with fail
      go_ret2
      exact ⟨B, xs, c, t, q9, rfl, HA8.out.grown g9, hc, hcm, hxm, HSm.out, by omega, by omega, R9, G8.trans g9⟩
    · have e00 : ((v : Int) == 0) = false := by rw [beq_eq_false_iff_ne]; omega
      go_wp2_with fail
      refine (spec_l91Text w8 r A cap bs _ xs.length R8 (by omega) (by omega)).mono ?_
      rintro e w9 ⟨t, rfl, ht, R9, g9⟩
      have HTs := Lib.hid ht
      clear ht
      go_wp2_with fail
      go_ret2
      exact ⟨B, xs, c, t, _, rfl, HA8.out.grown g9, hc, hcm, hxm, HSm.out, by rw [HTs.out]; omega, by omega, R9, G8.trans g9⟩
  | true =>
    obtain ⟨_, _, _, hx, _⟩ := avB_parts hv
    have HX := Lib.hid hx
    clear hx hv
    go_wp2_with fail
    refine (spec_pick w1 r A cap bs q1 2 R1 (by omega) (by omega)).mono ?_
    rintro e w2 ⟨n, rfl, hn, R2, g2⟩
    have G2 := G1.trans g2
    have HA2 := Lib.hid (HA.out.grown g2)
    clear HA g2
    by_cases n0 : n = 0
    · subst n0
      obtain ⟨P, hPe⟩ : ∃ P, P = 2 ^ xs.length := ⟨_, rfl⟩
      have hP : P ≤ 1024 := hPe ▸ pow_le_1024 (by omega)
      have hP1 : 1 ≤ P := hPe ▸ Nat.one_le_two_pow
      have HP := Lib.hid hPe
      clear hPe hn
      go_wp2_with fail
      refine (spec_pick w2 r A cap bs (q1 + 1) 128 R2 (by omega) (by omega)).mono ?_
      rintro e w3 ⟨m, rfl, hm, R3, g3⟩
      have hm128 : m < 128 := by omega
      have G3 := G2.trans g3
      have HA3 := Lib.hid (HA2.out.grown g3)
      clear HA2 g3 hm
      go_wp2_with fail
      refine (spec_l1Power xs.length w3 (by omega)).mono ?_
      rintro e w' ⟨rfl, rfl⟩
      rw [← HP.out]
      have hmP : m * P ≤ 130048 := Nat.le_trans (Nat.mul_le_mul (show m ≤ 127 by omega) hP) (by decide)
      have hmP2 : (m : Int) * (P : Int) = ((m * P : Nat) : Int) := by simp
      obtain ⟨M, hM⟩ : ∃ M, M = m * P := ⟨_, rfl⟩
      rw [← hM] at hmP hmP2
      obtain ⟨F, hF⟩ : ∃ F, F = M / 128 := ⟨_, rfl⟩
      have hfr : (M : Int) / 128 = (F : Int) := by omega
      have hF2 : F ≤ 1016 := by omega
      have hm0 : (0 : Int) ≤ (M : Int) := by omega
      clear hF hM
      go_wp2_with fail
      clear hmP2 hfr
      go_loopg [8, 9] (P + 1) (fun g s8 s9 wr => ∃ (k : Nat), k ≤ P ∧ s8 = .int .i64 k ∧ P - k < g ∧ Below w3.heap.size w3 wr)
      case atStart => exact ⟨0, Nat.zero_le _, rfl, by omega, Below.refl _ _⟩
      case round =>
        obtain ⟨k, hk, rfl, hg, hbel⟩ := hrel
        have HA4 := Lib.hid (HA3.out.below hbel)
        have hsz := hbel.size
        cases gk with
        | zero => omega
        | succ g =>
        by_cases hlt : k < P
        · obtain ⟨m1, hm1⟩ : ∃ m1, m1 = (F + k) % P := ⟨_, rfl⟩
          have l1 : m1 < P := hm1 ▸ Nat.mod_lt _ (by omega)
          have t1 : (((F : Int) + (k : Int)).tmod (P : Int)) = (m1 : Int) := by rw [Int.tmod_eq_emod_of_nonneg (by omega), hm1]; simp
          have t2 : (((F : Int) + (k : Int)) % (P : Int)) = (m1 : Int) := by rw [hm1]; simp
          have hP0 : ((P : Int) == 0) = false := by rw [beq_eq_false_iff_ne]; clear t1 t2; omega
          clear hm1
          have hts := txt_size xs.length m1
          have HTS := Lib.hid hts
          have hP63 : (m1 : Nat) ≤ 1000000000000 := by clear t1 t2; omega
          have HT := Lib.hid (And.intro t1 t2)
          clear hts t1 t2
          have hk2 : k < P := hlt
          go_wp2_with fail
          refine (spec_l1Power xs.length wr (by omega)).mono ?_
          rintro e w' ⟨rfl, rfl⟩
          rw [← HP.out]
          go_wp2_with fail
          refine (spec_l1Power xs.length wr (by omega)).mono ?_
          rintro e w' ⟨rfl, rfl⟩
          rw [← HP.out]
          obtain ⟨t1, t2⟩ := HT.out
          go_wp2_with fail
          clear t1 t2
          refine (spec_l1Text xs.length m1 wr (by omega) hP63).mono ?_
          rintro e w' ⟨rfl, rfl⟩
          go_wp2_with fail
          refine (spec_VertexFolds B c xs (txt xs.length m1) wr HA4.out.ints hl (by rw [HTS.out]; exact hl) hc hcm).mono ?_
          rintro e w4 ⟨rfl, hb4⟩
          have hbel2 := hbel.trans (hb4.mono hsz)
          cases hvf : vfB xs (txt xs.length m1) with
          | true =>
            clear hvf
            have G4 := grown_below G3 (hbel2.mono G3.size)
            go_wp2_with fail
            go_ret2
            exact ⟨B, xs, c, _, q1 + 1 + 1, rfl, HA3.out.below hbel2, hc, hcm, hxm, HSm.out, by rw [HTS.out]; omega, by omega, R3.below hbel2 R3.blk.lt, G4⟩
          | false =>
            clear hvf
            go_wp2_with fail
            go_roundg g
            case measure => omega
            case rel => exact ⟨k + 1, by omega, by go_num, by omega, hbel2⟩
        · obtain rfl : k = P := by omega
          have R4 := R3.below hbel R3.blk.lt
          have G4 := grown_below G3 (hbel.mono G3.size)
          clear HA3 R3 hbel
          go_wp2_with fail
          refine (spec_l1Power xs.length wr (by omega)).mono ?_
          rintro e w' ⟨rfl, rfl⟩
          rw [← HP.out]
          go_wp2_with fail
          refine (spec_pick wr r A cap bs (q1 + 1 + 1) 20 R4 (by omega) (by omega)).mono ?_
          rintro e w8 ⟨v, rfl, hv, R8, g8⟩
          have G8 := G4.trans g8
          have HA8 := Lib.hid (HA4.out.grown g8)
          clear hv g8 HA4 G4
          by_cases v0 : v = 0
          · subst v0
            go_wp2_with fail
            refine (spec_l91Any w8 r A cap bs _ R8 (by omega)).mono ?_
            rintro e w9 ⟨t, q9, rfl, ht, hq9, R9, g9⟩
            go_wp2_with fail
            go_ret2
            exact ⟨B, xs, c, t, q9, rfl, HA8.out.grown g9, hc, hcm, hxm, HSm.out, by omega, by omega, R9, G8.trans g9⟩
          · have e00 : ((v : Int) == 0) = false := by rw [beq_eq_false_iff_ne]; omega
            go_wp2_with fail
            refine (spec_l91Text w8 r A cap bs _ xs.length R8 (by omega) (by omega)).mono ?_
            rintro e w9 ⟨t, rfl, ht, R9, g9⟩
            have HTs := Lib.hid ht
            clear ht
            go_wp2_with fail
            go_ret2
            exact ⟨B, xs, c, t, _, rfl, HA8.out.grown g9, hc, hcm, hxm, HSm.out, by rw [HTs.out]; omega, by omega, R9, G8.trans g9⟩
    · have e0 : ((n : Int) == 0) = false := by rw [beq_eq_false_iff_ne]; omega
      go_wp2_with fail
      refine (spec_pick w2 r A cap bs (q1 + 1) 20 R2 (by omega) (by omega)).mono ?_
      rintro e w8 ⟨v, rfl, hv, R8, g8⟩
      have G8 := G2.trans g8
      have HA8 := Lib.hid (HA2.out.grown g8)
      clear hv g8 HA2 G2
      by_cases v0 : v = 0
      · subst v0
        go_wp2_with fail
        refine (spec_l91Any w8 r A cap bs _ R8 (by omega)).mono ?_
        rintro e w9 ⟨t, q9, rfl, ht, hq9, R9, g9⟩
        go_wp2_with fail
        go_ret2
        exact ⟨B, xs, c, t, q9, rfl, HA8.out.grown g9, hc, hcm, hxm, HSm.out, by omega, by omega, R9, G8.trans g9⟩
      · have e00 : ((v : Int) == 0) = false := by rw [beq_eq_false_iff_ne]; omega
        go_wp2_with fail
        refine (spec_l91Text w8 r A cap bs _ xs.length R8 (by omega) (by omega)).mono ?_
        rintro e w9 ⟨t, rfl, ht, R9, g9⟩
        have HTs := Lib.hid ht
        clear ht
        go_wp2_with fail
        go_ret2
        exact ⟨B, xs, c, t, _, rfl, HA8.out.grown g9, hc, hcm, hxm, HSm.out, by rw [HTs.out]; omega, by omega, R9, G8.trans g9⟩
end Go.Proofs.YtkdlipbegdiaaaaGreatDoor
namespace Go.Proofs.YtkdlipbegdiaaaaGreatDoor
open Go.RowKit
theorem digit_byte {n : Nat} (h : n < 10) : ((UInt8.ofNat (48 + n)).toNat : Int) = 48 + (n : Int) := by
  rw [UInt8.toNat_ofNat']
  omega
theorem decDigits_le : ∀ (b n : Nat), n < b → (Lib.decDigits n).length ≤ n + 1 := by
  intro b
  induction b with
  | zero => intro n h; omega
  | succ b ih =>
    intro n h
    by_cases h10 : n < 10
    · rw [Lib.decDigits_one h10]; simp
    · rw [Lib.decDigits, dif_neg h10, List.length_append]
      have := ih (n / 10) (by omega)
      simp only [List.length_cons, List.length_nil]; omega
theorem u8_small {x : Int} (h0 : 0 ≤ x) (h1 : x < 256) : IntKind.u8.wrap x = x := by
  unfold IntKind.wrap
  have e : (2 : Int) ^ IntKind.u8.bits = 256 := by decide
  have e2 : IntKind.u8.signed = false := rfl
  simp only [e, e2]
  simp
  omega
theorem run_one_string (w : World) (z : UInt8) (zi : Int) (hz : (z.toNat : Int) = zi) (g : Nat) (hc : w.cell? ⟨g, 0, none⟩ = some (.int .u8 zi)) : (convert 22 9 (.slice (some ⟨g, 0, none⟩) 1 1)).run Tryz.prog w = .ok (.string (btj [z])) w := by
  refine run_convert_bytes_back w 22 9 5 ⟨g, 0, none⟩ 1 [z] Tryz.underlying22 Tryz.underlying5 Tryz.underlying9 fun j hj => ?_
  have : j = 0 := by simpa using hj
  subst this
  rw [Addr.add_lit]
  simpa [hz] using hc
def FDg (n q r : Int) (D Z S : ByteArray) (i : Nat) (v : Value) (W : World) : Prop :=
  match i with
  | 0 => v = .int .i64 n
  | 1 => v = .int .i64 q
  | 2 => v = .string D
  | 3 => v = .int .i64 n
  | 4 => v = .int .i64 r
  | 5 => v = .int .i64 (48 + r)
  | 6 => v = .int .u8 (48 + r)
  | 7 => ∃ g, v = .slice (some ⟨g, 0, none⟩) 1 1 ∧ g < W.heap.size ∧ W.cell? ⟨g, 0, none⟩ = some (.int .u8 (48 + r))
  | 8 => v = .string Z
  | 9 => v = .string S
  | _ => v = .string S
theorem FDg.more {n q r : Int} {D Z S : ByteArray} : ∀ (i : Nat) (v : Value) (W W' : World), FDg n q r D Z S i v W → Below W.heap.size W W' → FDg n q r D Z S i v W' := by
  intro i v W W' h hb
  unfold FDg at h ⊢
  split at h <;> first | exact h | skip
  obtain ⟨g, e, hl, hc⟩ := h
  exact ⟨g, e, Nat.lt_of_lt_of_le hl hb.size, (hb.cell (p := ⟨g, 0, none⟩) hl).trans hc⟩
end Go.Proofs.YtkdlipbegdiaaaaGreatDoor
