/- Ranks of words: the reference's count, the words of a rank, the program's and the reference's. No condition but sizes. -/
import Derived.Test.YtfhogdbhfbnocaaWordD
import Derived.Sort.Walk0
namespace Go.Proofs.Ytfhogdbhfbnocaa
open Go.RowKit

theorem less_eq (x : Tx) (s : ByteArray) : Op.bytesLess x s.toList = decide (x < s.data.toList) := by
  rw [bytesLess_eq, ByteArray.toList_eq]
theorem cntLt_take {L : List Tx} {y : Tx} {k : Nat} (hk : k < L.length) : cntLt (L.take (k + 1)) y = cntLt (L.take k) y + (if L[k] < y then 1 else 0) := by
  unfold cntLt
  rw [List.take_succ_eq_append_getElem hk, List.countP_append]
  simp [List.countP_cons, List.countP_nil]
theorem cntLt_le (L : List Tx) (y : Tx) : cntLt L y ≤ L.length := List.countP_le_length
set_option maxHeartbeats 1000000 in
theorem spec_l5Rank (s : ByteArray) (n : Nat) (w : World) (hn : n ≤ 6) :
    Calls Try.prog 19 #[.string s, .int .i64 n] w fun e w' => e = .returned (.int .i64 (cntLt (wlS n) s.data.toList : Int)) ∧ Below w.heap.size w w' := by
  go_enter Try.func19, Try.ntmps19
  go_wp2_with fail
  refine (spec_l5All n w hn).mono ?_
  rintro e w2 ⟨v2, rfl, hown2, hb2⟩
  obtain ⟨A, c, rfl, hS, _, _⟩ := hown2.form
  obtain ⟨L, hL⟩ : ∃ L, L = wlS n := ⟨_, rfl⟩
  have hll : L.length ≤ 64 := by rw [hL]; exact wlS_small hn
  rw [← hL] at hS ⊢
  have HS := Lib.hid hS
  have HB2 := Lib.hid hb2
  have HL := Lib.hid hL
  clear hL hS hown2 hb2
  go_wp2_with fail
  go_loop [5, 7] (fun s5 s7 => ∃ (k q : Nat), k ≤ L.length ∧ s7 = .int .i64 k ∧ s5 = .int .i64 q ∧ q ≤ k ∧ Hid (q = cntLt (L.take k) s.data.toList)) (fun _ s7 => L.length - (intOf s7).toNat)
  case atStart => exact ⟨0, 0, Nat.zero_le _, rfl, rfl, Nat.le_refl _, by show _ = _; simp [cntLt]⟩
  case round =>
    obtain ⟨k, q, hk, rfl, rfl, hq, HQ⟩ := hrel
    by_cases hkl : k < L.length
    · obtain ⟨b, off, rfl, hb, hc⟩ := HS.out (by intro e; rw [e] at hkl; simp at hkl)
      have r1 := hc k L[k] (List.getElem?_eq_getElem hkl)
      have hct := cntLt_take (y := s.data.toList) hkl
      obtain ⟨x, hx⟩ : ∃ x, x = L[k] := ⟨_, rfl⟩
      rw [← hx] at r1 hct
      have k1 : (k : Int) < (L.length : Int) := by omega
      have k0 : (0 : Int) ≤ (k : Int) := by omega
      by_cases hlt : x < s.data.toList
      · have d : Op.bytesLess x s.toList = true := by rw [less_eq]; exact decide_eq_true hlt
        have HQ2 : Hid (q + 1 = cntLt (L.take (k + 1)) s.data.toList) := by show _ = _; rw [hct, if_pos hlt, HQ.out]
        clear hlt hct hx hc
        go_wp2_with fail
        go_round
        case rel => exact ⟨k + 1, q + 1, by omega, by go_num, by go_num, by omega, HQ2⟩
        case measure => simp [intOf]; omega
      · have d : Op.bytesLess x s.toList = false := by rw [less_eq]; exact decide_eq_false hlt
        have HQ2 : Hid (q = cntLt (L.take (k + 1)) s.data.toList) := by show _ = _; rw [hct, if_neg hlt, HQ.out]; rfl
        clear hlt hct hx hc
        go_wp2_with fail
        go_round
        case rel => exact ⟨k + 1, q, by omega, by go_num, rfl, by omega, HQ2⟩
        case measure => simp [intOf]; omega
    · obtain rfl : k = L.length := by omega
      have hfin : q = cntLt L s.data.toList := by have := HQ.out; rwa [List.take_length] at this
      have HF := Lib.hid hfin
      clear hfin
      go_wp2_with fail
      go_ret
      exact ⟨ret_int (by rw [HF.out, HL.out]), HB2.out⟩
/-- the word of a rank, as it is told -/
def wOf (n z : Int) : Option Tx := if 0 ≤ n ∧ n ≤ 6 ∧ 0 ≤ z then wNth n.toNat z.toNat else none
theorem find_drop {L : List Tx} {n : Nat} {z : Int} {k : Nat} (hk : k < L.length) : findR (L.drop k) n z = if (cntLt (wlS n) L[k] : Int) = z then some L[k] else findR (L.drop (k + 1)) n z := by
  unfold findR
  rw [List.drop_eq_getElem_cons hk, List.find?_cons]
  by_cases h : (cntLt (wlS n) L[k] : Int) = z
  · rw [decide_eq_true h, if_pos h]
  · rw [decide_eq_false h, if_neg h]
set_option maxHeartbeats 1000000 in
theorem spec_WordNth (n z : Int) (w : World) :
    Calls Try.prog 7 #[.int .i64 n, .int .i64 z] w fun e w' => e = .returned (.tuple #[.string (bts ((wOf n z).getD [])), .bool (wOf n z).isSome]) ∧ Below w.heap.size w w' := by
  by_cases hin : 0 ≤ n ∧ n ≤ 6
  · obtain ⟨m, rfl⟩ : ∃ m : Nat, n = (m : Int) := ⟨n.toNat, by omega⟩
    have hm : m ≤ 6 := by omega
    have hI : inB (m : Int) 0 6 = true := inB_yes hin.1 hin.2
    have hw : wOf (m : Int) z = findR (wlS m) m z := by
      rw [findR_nth]
      unfold wOf
      by_cases hz : 0 ≤ z
      · rw [if_pos ⟨hin.1, hin.2, hz⟩, if_pos hz, Int.toNat_natCast]
      · rw [if_neg (fun h => hz h.2.2), if_neg hz]
    have HW := Lib.hid hw
    have HI := Lib.hid hI
    clear hw hI hin
    go_enter Try.func7, Try.ntmps7
    go_wp2_with fail
    refine (spec_l6In _ _ _ w).mono ?_
    rintro e _ ⟨rfl, rfl⟩
    rw [HI.out]
    go_wp2_with fail
    refine (spec_l5All m w hm).mono ?_
    rintro e w2 ⟨v2, rfl, hown2, hb2⟩
    obtain ⟨A, c, rfl, hS, _, _⟩ := hown2.form
    obtain ⟨L, hL⟩ : ∃ L, L = wlS m := ⟨_, rfl⟩
    have hll : L.length ≤ 64 := by rw [hL]; exact wlS_small hm
    rw [← hL] at hS ⊢
    have HS := Lib.hid hS
    have HB2 := Lib.hid hb2
    have HL := Lib.hid hL
    have HR2 : Hid (Below w2.heap.size w2 w2) := Below.refl _ _
    clear hL hS hown2 hb2
    go_wp2_with fail
    go_loopg [7] (L.length + 1) (fun gg s7 wr => ∃ (k : Nat), k ≤ L.length ∧ s7 = .int .i64 k ∧ L.length - k < gg ∧ Hid (Below w2.heap.size w2 wr) ∧ Hid (wOf (m : Int) z = findR (L.drop k) m z))
    case atStart => exact ⟨0, Nat.zero_le _, rfl, by omega, HR2, by show _ = _; rw [HW.out, List.drop_zero, HL.out]⟩
    case round =>
      clear HR2
      obtain ⟨k, hk, rfl, hg, HBs, HF⟩ := hrel
      cases gk with
      | zero => omega
      | succ g2 =>
      by_cases hkl : k < L.length
      · obtain ⟨b, off, rfl, hb, hc⟩ := HS.out.below HBs.out (by intro e; rw [e] at hkl; simp at hkl)
        have r1 := hc k L[k] (List.getElem?_eq_getElem hkl)
        have hfd := find_drop (n := m) (z := z) hkl
        obtain ⟨x, hx⟩ : ∃ x, x = L[k] := ⟨_, rfl⟩
        rw [← hx] at r1 hfd
        have k1 : (k : Int) < (L.length : Int) := by omega
        have k0 : (0 : Int) ≤ (k : Int) := by omega
        obtain ⟨q, hq⟩ : ∃ q, q = cntLt (wlS m) x := ⟨_, rfl⟩
        have hcr : Calls Try.prog 19 #[.string (bts x), .int .i64 m] wr fun e w' => e = .returned (.int .i64 (q : Int)) ∧ Below wr.heap.size wr w' := by
          rw [hq]; exact spec_l5Rank (bts x) m wr hm
        rw [← hq] at hfd
        have HCR := Lib.hid hcr
        have HFD := Lib.hid hfd
        clear hc hx hq hcr hfd
        go_wp2_with fail
        refine HCR.out.mono ?_
        rintro e w3 ⟨rfl, hb3⟩
        have r3 := (hb3.cell (p := ⟨b, off + k, none⟩) hb).trans r1
        have HB3 := Lib.hid (below_from HBs.out hb3 HBs.out.size)
        clear r1 hb3 HCR
        by_cases hqz : (q : Int) = z
        · have d : ((q : Int) == z) = true := by rw [beq_iff_eq]; exact hqz
          have HX : Hid (wOf (m : Int) z = some x) := by show _ = _; rw [HF.out, HFD.out, if_pos hqz]
          clear hqz
          go_wp2_with fail
          go_ret2
          exact ⟨by rw [HX.out]; rfl, HB2.out.trans (HB3.out.mono HB2.out.size)⟩
        · have d : ((q : Int) == z) = false := by rw [beq_eq_false_iff_ne]; exact hqz
          have HF2 : Hid (wOf (m : Int) z = findR (L.drop (k + 1)) m z) := by show _ = _; rw [HF.out, HFD.out, if_neg hqz]
          clear hqz
          go_wp2_with fail
          go_roundg g2
          case measure => omega
          case rel => exact ⟨k + 1, by omega, by go_num, by omega, HB3, HF2⟩
      · obtain rfl : k = L.length := by omega
        have HX : Hid (wOf (m : Int) z = none) := by show _ = _; rw [HF.out, List.drop_length]; rfl
        go_wp2_with fail
        go_ret2
        exact ⟨by rw [HX.out]; rfl, HB2.out.trans (HBs.out.mono HB2.out.size)⟩
  · have hI : inB n 0 6 = false := by unfold inB; simp only [Bool.and_eq_false_iff, decide_eq_false_iff_not]; omega
    have hw : wOf n z = none := by unfold wOf; rw [if_neg (fun h => hin ⟨h.1, h.2.1⟩)]
    have HW := Lib.hid hw
    have HI := Lib.hid hI
    clear hin hI hw
    go_enter Try.func7, Try.ntmps7
    go_wp2_with fail
    refine (spec_l6In _ _ _ w).mono ?_
    rintro e _ ⟨rfl, rfl⟩
    rw [HI.out]
    go_wp2_with fail
    go_ret2
    exact ⟨by rw [HW.out]; rfl, Below.refl _ _⟩
set_option maxHeartbeats 1000000 in
theorem impl_WordNth (n z : Int) (w : World) :
    Calls Try.prog 8 #[.int .i64 n, .int .i64 z] w fun e w' => e = .returned (.tuple #[.string (bts ((wOf n z).getD [])), .bool (wOf n z).isSome]) ∧ Below w.heap.size w w' := by
  by_cases h1 : n < 0
  · have d1 : decide (n < 0) = true := by simp; omega
    have HW : Hid (wOf n z = none) := by show _ = _; unfold wOf; rw [if_neg (by omega)]
    go_enter Try.func8, Try.ntmps8
    go_wp2_with fail
    go_ret2
    exact ⟨by rw [HW.out]; rfl, Below.refl _ _⟩
  · have d1 : decide (n < 0) = false := by simp; omega
    by_cases h2 : 6 < n
    · have d2 : decide (6 < n) = true := by simp; omega
      have HW : Hid (wOf n z = none) := by show _ = _; unfold wOf; rw [if_neg (by omega)]
      go_enter Try.func8, Try.ntmps8
      go_wp2_with fail
      go_ret2
      exact ⟨by rw [HW.out]; rfl, Below.refl _ _⟩
    · have d2 : decide (6 < n) = false := by simp; omega
      by_cases h3 : z < 0
      · have d3 : decide (z < 0) = true := by simp; omega
        have HW : Hid (wOf n z = none) := by show _ = _; unfold wOf; rw [if_neg (by omega)]
        go_enter Try.func8, Try.ntmps8
        go_wp2_with fail
        go_ret2
        exact ⟨by rw [HW.out]; rfl, Below.refl _ _⟩
      · have d3 : decide (z < 0) = false := by simp; omega
        obtain ⟨m, rfl⟩ : ∃ m : Nat, n = (m : Int) := ⟨n.toNat, by omega⟩
        obtain ⟨r, rfl⟩ : ∃ r : Nat, z = (r : Int) := ⟨z.toNat, by omega⟩
        have hm : m ≤ 6 := by omega
        have hw : wOf (m : Int) (r : Int) = wNth m r := by unfold wOf; rw [if_pos (by omega), Int.toNat_natCast, Int.toNat_natCast]
        have hlen := srt_len m
        obtain ⟨P, hP⟩ : ∃ P, P = 2 ^ m := ⟨_, rfl⟩
        have hP64 : P ≤ 64 := by rw [hP]; exact Nat.le_trans (Nat.pow_le_pow_right (by omega) hm) (by decide)
        have kw : wrap64 ((2 : Int) ^ m) = (P : Int) := by
          have e : (2 : Int) ^ m = (P : Int) := by rw [hP]; simp
          rw [e]
          exact IntWalk.wrap64_in _ (by omega)
        rw [← hP] at hlen
        by_cases hr : r < P
        · have d4 : decide ((P : Int) ≤ (r : Int)) = false := by simp; omega
          obtain ⟨L, hL⟩ : ∃ L, L = srt (wlI m) := ⟨_, rfl⟩
          have hLl : L.length = P := by rw [hL]; exact hlen
          have hrl : r < L.length := by omega
          have hx : wOf (m : Int) (r : Int) = some L[r] := by
            rw [hw]; unfold wNth
            rw [← hL]; exact List.getElem?_eq_getElem hrl
          have hcw := impl_wordsOf m w hm
          rw [← hL] at hcw
          have HX := Lib.hid hx
          have HC := Lib.hid hcw
          have HLl := Lib.hid hLl
          clear hw hlen hP hL hx hcw
          go_enter Try.func8, Try.ntmps8
          go_wp2_with fail
          refine HC.out.mono ?_
          rintro e w2 ⟨g, cap, rfl, hown, hb2⟩
          have r1 := World.ownsRow.cellAt hown r (by have := HLl.out; omega)
          rw [List.getElem?_map, List.getElem?_eq_getElem hrl] at r1
          have i1 : (r : Int) < (L.length : Int) := by omega
          have i0 : (0 : Int) ≤ (r : Int) := by omega
          have HB := Lib.hid hb2
          clear hown hb2
          go_wp2_with fail
          go_ret2
          exact ⟨by rw [HX.out]; rfl, HB.out⟩
        · have d4 : decide ((P : Int) ≤ (r : Int)) = true := by simp; omega
          have hx : wOf (m : Int) (r : Int) = none := by
            rw [hw]; unfold wNth
            rw [List.getElem?_eq_none (by rw [hlen]; omega)]
          have HX := Lib.hid hx
          clear hw hlen hP hx
          go_enter Try.func8, Try.ntmps8
          go_wp2_with fail
          go_ret2
          exact ⟨by rw [HX.out]; rfl, Below.refl _ _⟩
end Go.Proofs.Ytfhogdbhfbnocaa
