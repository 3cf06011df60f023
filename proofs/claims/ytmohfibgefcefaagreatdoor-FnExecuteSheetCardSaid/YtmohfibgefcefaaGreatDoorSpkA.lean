/- Letters and sizes of a sheet; stacks turned and put onto one another: the reference's. No condition but sizes. -/
import Derived.Test.YtmohfibgefcefaaGreatDoorStkJ
namespace Go.Proofs.YtmohfibgefcefaaGreatDoor
open Go.RowKit

set_option maxHeartbeats 400000 in
theorem spec_l4HighL (c : UInt8) (w : World) :
    Calls Tryz.prog 68 #[.int .u8 (c.toNat : Int)] w fun e w' => e = .returned (.bool (highB c)) ∧ w = w' := by
  have key : ∀ d : UInt8, ((c.toNat : Int) == (d.toNat : Int)) = decide (c = d) := by
    intro d
    rw [Bool.eq_iff_iff, beq_iff_eq, decide_eq_true_eq]
    exact ⟨fun h => UInt8.toNat_inj.1 (by omega), fun h => by rw [h]⟩
  have d1 : ((c.toNat : Int) == 85) = decide (c = 85) := key 85
  have d2 : ((c.toNat : Int) == 68) = decide (c = 68) := key 68
  have d3 : ((c.toNat : Int) == 117) = decide (c = 117) := key 117
  have d4 : ((c.toNat : Int) == 100) = decide (c = 100) := key 100
  obtain ⟨b1, e1⟩ : ∃ b, decide (c = 85) = b := ⟨_, rfl⟩
  obtain ⟨b2, e2⟩ : ∃ b, decide (c = 68) = b := ⟨_, rfl⟩
  obtain ⟨b3, e3⟩ : ∃ b, decide (c = 117) = b := ⟨_, rfl⟩
  obtain ⟨b4, e4⟩ : ∃ b, decide (c = 100) = b := ⟨_, rfl⟩
  have hq : highB c = (b1 || b2 || b3 || b4) := by unfold highB; rw [e1, e2, e3, e4]
  rw [e1] at d1
  rw [e2] at d2
  rw [e3] at d3
  rw [e4] at d4
  rw [hq]
  clear key e1 e2 e3 e4 hq
  cases b1 with
  | true =>
    go_enter Tryz.func68, Tryz.ntmps68
    go_wp2_with fail
    go_ret
    exact ⟨rfl, rfl⟩
  | false =>
    cases b2 with
    | true =>
      go_enter Tryz.func68, Tryz.ntmps68
      go_wp2_with fail
      go_ret
      exact ⟨rfl, rfl⟩
    | false =>
      cases b3 with
      | true =>
        go_enter Tryz.func68, Tryz.ntmps68
        go_wp2_with fail
        go_ret
        exact ⟨rfl, rfl⟩
      | false =>
        cases b4 with
        | true =>
          go_enter Tryz.func68, Tryz.ntmps68
          go_wp2_with fail
          go_ret
          exact ⟨rfl, rfl⟩
        | false =>
          go_enter Tryz.func68, Tryz.ntmps68
          go_wp2_with fail
          go_ret
          exact ⟨rfl, rfl⟩
set_option maxHeartbeats 400000 in
theorem spec_l4WideL (c : UInt8) (w : World) :
    Calls Tryz.prog 67 #[.int .u8 (c.toNat : Int)] w fun e w' => e = .returned (.bool (wideL c)) ∧ w = w' := by
  have key : ∀ d : UInt8, ((c.toNat : Int) == (d.toNat : Int)) = decide (c = d) := by
    intro d
    rw [Bool.eq_iff_iff, beq_iff_eq, decide_eq_true_eq]
    exact ⟨fun h => UInt8.toNat_inj.1 (by omega), fun h => by rw [h]⟩
  have d1 : ((c.toNat : Int) == 82) = decide (c = 82) := key 82
  have d2 : ((c.toNat : Int) == 76) = decide (c = 76) := key 76
  have d3 : ((c.toNat : Int) == 114) = decide (c = 114) := key 114
  have d4 : ((c.toNat : Int) == 108) = decide (c = 108) := key 108
  obtain ⟨b1, e1⟩ : ∃ b, decide (c = 82) = b := ⟨_, rfl⟩
  obtain ⟨b2, e2⟩ : ∃ b, decide (c = 76) = b := ⟨_, rfl⟩
  obtain ⟨b3, e3⟩ : ∃ b, decide (c = 114) = b := ⟨_, rfl⟩
  obtain ⟨b4, e4⟩ : ∃ b, decide (c = 108) = b := ⟨_, rfl⟩
  have hq : wideL c = (b1 || b2 || b3 || b4) := by unfold wideL; rw [e1, e2, e3, e4]
  rw [e1] at d1
  rw [e2] at d2
  rw [e3] at d3
  rw [e4] at d4
  rw [hq]
  clear key e1 e2 e3 e4 hq
  cases b1 with
  | true =>
    go_enter Tryz.func67, Tryz.ntmps67
    go_wp2_with fail
    go_ret
    exact ⟨rfl, rfl⟩
  | false =>
    cases b2 with
    | true =>
      go_enter Tryz.func67, Tryz.ntmps67
      go_wp2_with fail
      go_ret
      exact ⟨rfl, rfl⟩
    | false =>
      cases b3 with
      | true =>
        go_enter Tryz.func67, Tryz.ntmps67
        go_wp2_with fail
        go_ret
        exact ⟨rfl, rfl⟩
      | false =>
        cases b4 with
        | true =>
          go_enter Tryz.func67, Tryz.ntmps67
          go_wp2_with fail
          go_ret
          exact ⟨rfl, rfl⟩
        | false =>
          go_enter Tryz.func67, Tryz.ntmps67
          go_wp2_with fail
          go_ret
          exact ⟨rfl, rfl⟩
set_option maxHeartbeats 1000000 in
set_option maxRecDepth 100000 in
theorem spec_SheetValid (s : ByteArray) (w : World) (hs : s.size ≤ 1000) :
    Calls Tryz.prog 33 #[.string s] w fun e w' => e = .returned (.bool (shB s.data.toList)) ∧ w = w' := by
  go_enter Tryz.func33, Tryz.ntmps33
  go_wp2_with fail
  go_loop [3] (fun s3 => ∃ (k : Nat), k ≤ s.size ∧ s3 = .int .i64 k ∧ Hid ((s.data.toList.take k).all (fun c => wideL c || highB c) = true)) (fun s3 => s.size - (intOf s3).toNat)
  case atStart => exact ⟨0, Nat.zero_le _, rfl, rfl⟩
  case round =>
    obtain ⟨k, hk, rfl, HA⟩ := hrel
    by_cases hlt : k < s.size
    · have k1 : (k : Int) < (s.size : Int) := by omega
      have k0 : (0 : Int) ≤ (k : Int) := by omega
      have HF1 := Lib.hid (fun W : World => spec_l4WideL s[k] W)
      have HF2 := Lib.hid (fun W : World => spec_l4HighL s[k] W)
      have HA2 : Hid ((wideL s[k] || highB s[k]) = true → (s.data.toList.take (k + 1)).all (fun c => wideL c || highB c) = true) := by
        show _ → _
        intro h
        rw [byte_takeX hlt, List.all_append, HA.out]
        show (true && ((wideL s[k] || highB s[k]) && true)) = true
        rw [h]; rfl
      have HNo : Hid ((wideL s[k] || highB s[k]) = false → shB s.data.toList = false) := by
        show _ → _
        intro h
        unfold shB
        rw [Bool.and_eq_false_iff]
        right
        apply Bool.eq_false_iff.2
        intro hh
        have := List.all_eq_true.1 hh _ (byte_memX hlt)
        rw [h] at this; cases this
      obtain ⟨b1, hb1⟩ : ∃ b, wideL s[k] = b := ⟨_, rfl⟩
      obtain ⟨b2, hb2⟩ : ∃ b, highB s[k] = b := ⟨_, rfl⟩
      rw [hb1] at HF1 HA2 HNo
      rw [hb2] at HF2 HA2 HNo
      clear hb1 hb2 HA
      cases b1 with
      | true =>
        go_wp2_with fail
        refine (HF1.out w).mono ?_
        rintro e _ ⟨rfl, rfl⟩
        go_wp2_with fail
        go_round
        case rel => exact ⟨k + 1, by omega, by go_num, HA2.out rfl⟩
        case measure => simp [intOf]; omega
      | false =>
        go_wp2_with fail
        refine (HF1.out w).mono ?_
        rintro e _ ⟨rfl, rfl⟩
        go_wp2_with fail
        refine (HF2.out w).mono ?_
        rintro e _ ⟨rfl, rfl⟩
        cases b2 with
        | true =>
          go_wp2_with fail
          go_round
          case rel => exact ⟨k + 1, by omega, by go_num, HA2.out rfl⟩
          case measure => simp [intOf]; omega
        | false =>
          have HN2 := Lib.hid (HNo.out rfl)
          go_wp2_with fail
          go_ret
          exact ⟨by rw [HN2.out]; rfl, rfl⟩
    · obtain rfl : k = s.size := by omega
      have hA := HA.out
      rw [List.take_of_length_le (by rw [size_listX]; exact Nat.le_refl _)] at hA
      have hq : shB s.data.toList = decide ((s.size : Int) ≤ 5) := by
        unfold shB
        rw [hA, Bool.and_true, size_listX]
        rw [Bool.eq_iff_iff, decide_eq_true_eq, decide_eq_true_eq]; omega
      have HQ := Lib.hid hq
      clear hA hq HA
      go_wp2_with fail
      go_ret
      exact ⟨by rw [HQ.out]; rfl, rfl⟩
set_option maxHeartbeats 1000000 in
set_option maxRecDepth 100000 in
theorem spec_SheetSize (s : ByteArray) (w : World) (hs : s.size ≤ 1000) :
    Calls Tryz.prog 69 #[.string s] w fun e w' => e = .returned (.tuple #[.int .i64 (sizeO s.data.toList).1, .int .i64 (sizeO s.data.toList).2.1, .bool (sizeO s.data.toList).2.2]) ∧ w = w' := by
  have HV := Lib.hid (spec_SheetValid s w hs)
  cases hv : shB s.data.toList with
  | false =>
    rw [hv] at HV
    rw [sizeO_no hv]
    clear hv
    go_enter Tryz.func69, Tryz.ntmps69
    go_wp2_with fail
    refine HV.out.mono ?_
    rintro e _ ⟨rfl, rfl⟩
    go_wp2_with fail
    go_ret3
    exact ⟨rfl, rfl⟩
  | true =>
    rw [hv] at HV
    rw [sizeO_yes hv]
    obtain ⟨h5, hall⟩ := shB_parts hv
    rw [size_listX] at h5
    have HAL := Lib.hid hall
    clear hv hall
    go_enter Tryz.func69, Tryz.ntmps69
    go_wp2_with fail
    refine HV.out.mono ?_
    rintro e _ ⟨rfl, rfl⟩
    go_wp2_with fail
    go_loop [5, 6, 7] (fun s5 s6 s7 => ∃ (k P Q : Nat), k ≤ s.size ∧ s7 = .int .i64 k ∧ s5 = .int .i64 P ∧ s6 = .int .i64 Q ∧ P ≤ 32 ∧ Q ≤ 32 ∧ Hid (P = rowsT (s.data.toList.take k) ∧ Q = colsT (s.data.toList.take k))) (fun _ _ s7 => s.size - (intOf s7).toNat)
    case atStart => exact ⟨0, 1, 1, Nat.zero_le _, rfl, rfl, rfl, by omega, by omega, rfl, rfl⟩
    case round =>
      obtain ⟨k, P, Q, hk, rfl, rfl, rfl, hP, hQ, HPQ⟩ := hrel
      by_cases hlt : k < s.size
      · have k1 : (k : Int) < (s.size : Int) := by omega
        have k0 : (0 : Int) ≤ (k : Int) := by omega
        have hlet := HAL.out s[k] (byte_memX hlt)
        have hone := letter_one hlet
        have htk := byte_takeX hlt
        have HF1 := Lib.hid (fun W : World => spec_l4WideL s[k] W)
        have e1 := rowsT_snoc (s.data.toList.take k) s[k]
        have e2 := colsT_snoc (s.data.toList.take k) s[k]
        rw [← htk, ← HPQ.out.1, hone] at e1
        rw [← htk, ← HPQ.out.2] at e2
        have le1 : rowsT (s.data.toList.take (k + 1)) ≤ 32 := rowsT_le (by rw [List.length_take]; omega)
        have le2 : colsT (s.data.toList.take (k + 1)) ≤ 32 := colsT_le (by rw [List.length_take]; omega)
        obtain ⟨b1, hb1⟩ : ∃ b, wideL s[k] = b := ⟨_, rfl⟩
        rw [hb1] at HF1 e1 e2
        cases b1 with
        | true =>
          simp at e1 e2
          have HP2 : Hid (P = rowsT (s.data.toList.take (k + 1)) ∧ Q * 2 = colsT (s.data.toList.take (k + 1))) := ⟨e1.symm, e2.symm⟩
          have hq2 : Q * 2 ≤ 32 := by omega
          clear e1 e2 le1 le2 hb1 htk hone hlet HPQ
          go_wp2_with fail
          refine (HF1.out w).mono ?_
          rintro e _ ⟨rfl, rfl⟩
          go_wp2_with fail
          go_round
          case rel => exact ⟨k + 1, P, Q * 2, by omega, by go_num, rfl, by go_num, hP, hq2, HP2⟩
          case measure => simp [intOf]; omega
        | false =>
          simp at e1 e2
          have HP2 : Hid (P * 2 = rowsT (s.data.toList.take (k + 1)) ∧ Q = colsT (s.data.toList.take (k + 1))) := ⟨e1.symm, e2.symm⟩
          have hq2 : P * 2 ≤ 32 := by omega
          clear e1 e2 le1 le2 hb1 htk hone hlet HPQ
          go_wp2_with fail
          refine (HF1.out w).mono ?_
          rintro e _ ⟨rfl, rfl⟩
          go_wp2_with fail
          go_round
          case rel => exact ⟨k + 1, P * 2, Q, by omega, by go_num, by go_num, rfl, hq2, hQ, HP2⟩
          case measure => simp [intOf]; omega
      · obtain rfl : k = s.size := by omega
        have hA := HPQ.out
        rw [List.take_of_length_le (by rw [size_listX]; exact Nat.le_refl _)] at hA
        have HA := Lib.hid hA
        clear hA HPQ
        go_wp2_with fail
        go_ret3
        exact ⟨by rw [← HA.out.1, ← HA.out.2]; rfl, rfl⟩
end Go.Proofs.YtmohfibgefcefaaGreatDoor
