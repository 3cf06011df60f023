/- The law on exchanged words: the walk of the law itself. No condition but sizes. -/
import Derived.Test.YtfhogdbhfbnocaaWordH
import Derived.Test.YtfhogdbhfbnocaaWordI
import Derived.Test.YtfhogdbhfbnocaaWordQ
namespace Go.Proofs.Ytfhogdbhfbnocaa
open Go.RowKit

set_option maxHeartbeats 400000 in
theorem laws_power (n : Nat) (w : World) (hn : n ≤ 40) :
    Calls Try.prog 13 #[.int .i64 n] w fun e w' => e = .returned (.int .i64 ((2 ^ n : Nat) : Int)) ∧ w = w' := by
  go_enter Try.func13, Try.ntmps13
  go_wp2_with fail
  go_loop [3, 4] (fun s3 s4 => ∃ (i p : Nat), i ≤ n ∧ s4 = .int .i64 i ∧ s3 = .int .i64 p ∧ p ≤ 1099511627776 ∧ Hid (p = 2 ^ i)) (fun _ s4 => n - (intOf s4).toNat)
  case atStart => exact ⟨0, 1, Nat.zero_le _, rfl, rfl, by omega, rfl⟩
  case round =>
    obtain ⟨i, p, hi, rfl, rfl, hp, HP⟩ := hrel
    by_cases hlt : i < n
    · have hp2 : 2 * p ≤ 1099511627776 := by
        have h1 : 2 * p = 2 ^ (i + 1) := by rw [HP.out, Nat.pow_succ, Nat.mul_comm]
        have h2 : 2 ^ (i + 1) ≤ 2 ^ 40 := Nat.pow_le_pow_right (by omega) (by omega)
        have h3 : 2 ^ 40 = 1099511627776 := by decide
        omega
      go_wp2_with fail
      go_round
      case rel => exact ⟨i + 1, 2 * p, by omega, by go_num, by go_num, hp2, by show _ = _; rw [HP.out, Nat.pow_succ, Nat.mul_comm]⟩
      case measure => simp [intOf]; omega
    · obtain rfl : i = n := by omega
      go_wp2_with fail
      go_ret
      exact ⟨ret_int (by rw [HP.out]; simp), rfl⟩
set_option maxHeartbeats 400000 in
theorem laws_foldsIn (z : Int) (w : World) :
    Calls Try.prog 16 #[.int .i64 z] w fun e w' => e = .returned (.int .i64 (foldN z)) ∧ w = w' := by
  go_enter Try.func16, Try.ntmps16
  go_wp2_with fail
  go_loop [3] (fun s3 => ∃ k : Nat, k ≤ 7 ∧ s3 = .int .i64 k ∧ Hid (foldN z = match ((List.range 7).drop k).find? (fun n => decide (((2 ^ n : Nat) : Int) - 1 = z)) with | some n => (n : Int) | none => -1)) (fun s3 => 7 - (intOf s3).toNat)
  case atStart => exact ⟨0, Nat.zero_le _, rfl, by show _ = _; rfl⟩
  case round =>
    obtain ⟨k, hk, rfl, HF⟩ := hrel
    by_cases hlt : k ≤ 6
    · have d1 : decide ((k : Int) ≤ 6) = true := by simp; omega
      obtain ⟨P, hP⟩ : ∃ P, P = 2 ^ k := ⟨_, rfl⟩
      have hP64 : P ≤ 64 := by rw [hP]; exact Nat.le_trans (Nat.pow_le_pow_right (by omega) hlt) (by decide)
      have hfd := foldN_drop (z := z) hlt
      have hpw := laws_power k w (by omega)
      rw [← hP] at hfd hpw
      have HFD := Lib.hid hfd
      have HPW := Lib.hid hpw
      have kw : IntKind.i64.wrap ((P : Int) - 1) = (P : Int) - 1 := IntWalk.i64_in _ (by omega)
      clear hP hfd hpw
      by_cases hz : (P : Int) - 1 = z
      · have d2 : ((P : Int) - 1 == z) = true := by rw [beq_iff_eq]; exact hz
        have HZ : Hid (foldN z = (k : Int)) := by show _ = _; rw [HF.out, HFD.out, if_pos hz]
        clear hz HF HFD
        go_wp2_with fail
        refine HPW.out.mono ?_
        rintro e _ ⟨rfl, rfl⟩
        go_wp2_with fail
        go_ret
        exact ⟨ret_int (by rw [HZ.out]), rfl⟩
      · have d2 : ((P : Int) - 1 == z) = false := by rw [beq_eq_false_iff_ne]; exact hz
        have HZ : Hid (foldN z = match ((List.range 7).drop (k + 1)).find? (fun n => decide (((2 ^ n : Nat) : Int) - 1 = z)) with | some n => (n : Int) | none => -1) := by show _ = _; rw [HF.out, HFD.out, if_neg hz]
        clear hz HF HFD
        go_wp2_with fail
        refine HPW.out.mono ?_
        rintro e _ ⟨rfl, rfl⟩
        go_wp2_with fail
        go_round
        case rel => exact ⟨k + 1, by omega, by go_num, HZ⟩
        case measure => simp [intOf]; omega
    · have d1 : decide ((k : Int) ≤ 6) = false := by simp; omega
      have HZ : Hid (foldN z = -1) := by show _ = _; rw [HF.out, List.drop_of_length_le (by simp; omega)]; rfl
      clear HF
      go_wp2_with fail
      go_ret
      exact ⟨ret_int (by rw [HZ.out]), rfl⟩
set_option maxHeartbeats 2000000 in
theorem law_FnWordRankOther (A : Option Addr) (cap : Nat) (bs : List UInt8) (w : World) (h : Codes w w.heap.size A bs) (hcap : bs.length ≤ cap) (hcm : cap ≤ maxLen) :
    Calls Try.prog 6 #[.slice A bs.length cap] w fun e w' => e = .returned (.bool true) ∧ Below w.heap.size w w' := by
  have hlm : bs.length ≤ maxLen := Nat.le_trans hcap hcm
  have hlm2 := hlm
  unfold maxLen at hlm2
  by_cases g1 : 1048576 < bs.length
  · have d1 : decide ((1048576 : Int) < (bs.length : Int)) = true := by simp; omega
    go_enter Try.func6, Try.ntmps6
    go_wp2_with fail
    go_ret
    exact ⟨rfl, Below.refl _ _⟩
  · have d1 : decide ((1048576 : Int) < (bs.length : Int)) = false := by simp; omega
    go_enter Try.func6, Try.ntmps6
    go_wp2_with fail
    refine (spec_DrawWordRank w A cap bs h (by omega) hcap hcm).mono ?_
    rintro e w1 ⟨T, rfl, hT, hb1⟩
    have hTm : T.size ≤ maxLen := by unfold maxLen; omega
    obtain ⟨z, hz⟩ : ∃ z, z = rankZ T.data.toList := ⟨_, rfl⟩
    have HZ := Lib.hid hz
    have HB1 := Lib.hid hb1
    clear hb1 hz
    go_wp2_with fail
    refine (impl_WordRank T w1 hTm).mono ?_
    rintro e w2 ⟨rfl, hb2⟩
    rw [← HZ.out]
    have HB2 := Lib.hid (below_from HB1.out hb2 HB1.out.size)
    clear hb2 HB1
    go_wp2_with fail
    refine (spec_WordRank T w2 hTm).mono ?_
    rintro e w3 ⟨rfl, hb3⟩
    rw [← HZ.out]
    have HB3 := Lib.hid (below_from HB2.out hb3 HB2.out.size)
    clear hb3 HB2
    have dz : (z != z) = false := by simp
    have dz2 : (z == z) = true := by simp
    by_cases hz0 : z < 0
    · have d2 : decide (z < 0) = true := decide_eq_true hz0
      go_wp2_with fail
      go_ret
      exact ⟨rfl, HB3.out⟩
    · have d2 : decide (z < 0) = false := decide_eq_false hz0
      obtain ⟨n, hn6, hn, hr⟩ := rankZ_pos (l := T.data.toList) (by rw [← HZ.out]; omega)
      obtain ⟨r, hr0⟩ : ∃ r, r = cntLt (wlS n) T.data.toList := ⟨_, rfl⟩
      rw [← HZ.out, ← hr0] at hr
      have hopp := rank_opp hn
      rw [← hr0] at hopp
      obtain ⟨X, hX⟩ : ∃ X, X = swT T := ⟨_, rfl⟩
      have hXs : X.size = T.size := by rw [hX]; exact swT_size T
      have hXl : X.data.toList = swL' T.data.toList := by rw [hX]; rfl
      have hXm : X.size ≤ maxLen := by rw [hXs]; exact hTm
      obtain ⟨q, hq⟩ : ∃ q, q = cntLt (wlS n) (swL' T.data.toList) := ⟨_, rfl⟩
      rw [← hq] at hopp
      have hXn := swap_mem hn
      have hXr : rankZ X.data.toList = (q : Int) := by rw [hXl, hq]; exact rankZ_at hn6 hXn
      have hXw : wrdB X.data.toList = true := by rw [hXl]; exact wrd_iff.2 ⟨n, hn6, hXn⟩
      have hlen := wlI_size hn
      rw [size_list] at hlen
      obtain ⟨P, hP⟩ : ∃ P, P = 2 ^ n := ⟨_, rfl⟩
      rw [← hP] at hopp hlen
      have hP64 : P ≤ 64 := by rw [hP]; exact Nat.le_trans (Nat.pow_le_pow_right (by omega) hn6) (by decide)
      have hfl : foldN (T.size : Int) = (n : Int) := by
        have h3 : ((2 ^ n : Nat) : Int) - 1 = (T.size : Int) := by rw [← hP]; omega
        rw [← h3]; exact foldN_at hn6
      have hnth : wOf (n : Int) (r : Int) = some T.data.toList := by
        unfold wOf
        rw [if_pos (by omega), Int.toNat_natCast, Int.toNat_natCast, hr0]
        exact rank_of ((wl_perm n).mem_iff.1 hn)
      have hpw : ∀ W : World, Calls Try.prog 13 #[.int .i64 n] W fun e w' => e = .returned (.int .i64 (P : Int)) ∧ W = w' := fun W => by rw [hP]; exact laws_power n W (by omega)
      have hsw : ∀ W : World, Calls Try.prog 15 #[.string T] W fun e w' => e = .returned (.string X) ∧ Below W.heap.size W w' := fun W => by rw [hX]; exact impl_FoldsSwap T W (by omega)
      have hwn : ∀ W : World, Calls Try.prog 8 #[.int .i64 n, .int .i64 r] W fun e w' => e = .returned (.tuple #[.string T, .bool true]) ∧ Below W.heap.size W w' := fun W => by
        have := impl_WordNth (n : Int) (r : Int) W
        rw [hnth] at this
        exact this
      have HPW := Lib.hid hpw
      have HSW := Lib.hid hsw
      have HWN := Lib.hid hwn
      have HXR := Lib.hid hXr
      have HXW := Lib.hid hXw
      have HFL := Lib.hid hfl
      have hzr : z = (r : Int) := hr
      subst hzr
      have dT : (T.toList == T.toList) = true := by simp
      have dr : decide ((0 : Int) ≤ (r : Int)) = true := by simp
      have pP : r < P := by omega
      have dP : decide ((r : Int) < (P : Int)) = true := decide_eq_true (by omega)
      have kw1 : IntKind.i64.wrap ((q : Int) + (r : Int)) = (q : Int) + (r : Int) := IntWalk.i64_in _ (by omega)
      have kw2 : IntKind.i64.wrap ((P : Int) - 1) = (P : Int) - 1 := IntWalk.i64_in _ (by omega)
      have ds : ((q : Int) + (r : Int) == (P : Int) - 1) = true := by rw [beq_iff_eq]; omega
      clear hr hn hr0 hX hXl hq hXn hXr hXw hlen hP hfl hnth hpw hsw hwn hopp HZ
      go_wp2_with fail
      refine (HSW.out w3).mono ?_
      rintro e w4 ⟨rfl, hb4⟩
      have HB4 := Lib.hid (below_from HB3.out hb4 HB3.out.size)
      clear hb4 HB3
      go_wp2_with fail
      refine (impl_WordRank X w4 hXm).mono ?_
      rintro e w5 ⟨rfl, hb5⟩
      rw [HXR.out]
      have HB5 := Lib.hid (below_from HB4.out hb5 HB4.out.size)
      clear hb5 HB4
      go_wp2_with fail
      refine (laws_foldsIn (T.size : Int) w5).mono ?_
      rintro e _ ⟨rfl, rfl⟩
      rw [HFL.out]
      go_wp2_with fail
      refine (HWN.out w5).mono ?_
      rintro e w6 ⟨rfl, hb6⟩
      have HB6 := Lib.hid (below_from HB5.out hb6 HB5.out.size)
      clear hb6 HB5
      go_wp2_with fail
      refine (HPW.out w6).mono ?_
      rintro e _ ⟨rfl, rfl⟩
      go_wp2_with fail
      refine (impl_WordValid X w6 hXm).mono ?_
      rintro e w7 ⟨rfl, hb7⟩
      rw [HXW.out]
      have HB7 := Lib.hid (below_from HB6.out hb7 HB6.out.size)
      clear hb7 HB6
      go_wp2_with fail
      refine (HPW.out w7).mono ?_
      rintro e _ ⟨rfl, rfl⟩
      go_wp2_with fail
      go_ret
      exact ⟨rfl, HB7.out⟩
end Go.Proofs.Ytfhogdbhfbnocaa
