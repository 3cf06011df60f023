/- The stack of a text, a cell of it: the program's. No condition but sizes. Letters and sizes of a sheet; stacks turned and put onto one another: the reference's. No condition but sizes. Stacks turned and put onto one another: the reference's. No condition but sizes. -/
import Derived.Test.YtkdlipbegdiaaaaGreatDoorEzBP15
namespace Go.Proofs.YtkdlipbegdiaaaaGreatDoor
open Go.RowKit
theorem sizeO_yes {l : List UInt8} (h : shB l = true) : sizeO l = (rowsT l, colsT l, true) := by unfold sizeO; rw [if_pos h]
theorem sizeO_no {l : List UInt8} (h : shB l = false) : sizeO l = (0, 0, false) := by unfold sizeO; rw [if_neg (by rw [h]; decide)]
theorem shB_parts {l : List UInt8} (h : shB l = true) : l.length ≤ 5 ∧ ∀ c ∈ l, (wideL c || highB c) = true := by
  unfold shB at h
  rw [Bool.and_eq_true, decide_eq_true_eq] at h
  exact ⟨h.1, fun c hc => List.all_eq_true.1 h.2 c hc⟩
theorem field_stack (A : Option Addr) (n c : Nat) (W : World) : (Instr.field 162 (.agg #[.slice A n c]) 0).run Tryz.prog W = .ok (.slice A n c) W := by kernel_rfl
set_option maxHeartbeats 2000000 in
set_option maxRecDepth 100000 in
theorem impl_SheetStack (s : ByteArray) (w : World) (hv : shB s.data.toList = true) :
    Calls Tryz.prog 136 #[.string s] w fun e w' => (∃ v, e = .returned (.tuple #[v, .bool true]) ∧ SlC w' v (stackT s.data.toList)) ∧ Below w.heap.size w w' := by
  obtain ⟨h5, hall⟩ := shB_parts hv
  rw [size_listX] at h5
  obtain ⟨l, hl⟩ : ∃ l, l = s.data.toList := ⟨_, rfl⟩
  have hll : l.length = s.size := by rw [hl]; exact size_listX s
  have HZ := Lib.hid (fun W : World => impl_sizeOf s W (by omega))
  rw [sizeO_yes hv, ← hl] at HZ
  obtain ⟨R, hR⟩ : ∃ R, R = rowsT l := ⟨_, rfl⟩
  obtain ⟨C, hC⟩ : ∃ C, C = colsT l := ⟨_, rfl⟩
  have hR32 : R ≤ 32 := by rw [hR]; exact rowsT_le (by omega)
  have hC32 : C ≤ 32 := by rw [hC]; exact colsT_le (by omega)
  have HZ2 : Hid (∀ W : World, Calls Tryz.prog 158 #[.string s] W fun e w' => e = .returned (.tuple #[.agg #[.int .i64 R, .int .i64 C], .bool true]) ∧ Below W.heap.size W w') := by
    show ∀ W : World, _
    intro W
    rw [hR, hC]; exact HZ.out W
  have HRC := Lib.hid (And.intro hR hC)
  have HL := Lib.hid hl
  have HLL := Lib.hid hll
  have HAL := Lib.hid hall
  clear HZ hv hall hl hR hC hll
  go_enter Tryz.func136, Tryz.ntmps136
  go_wp2_with fail
  refine (HZ2.out w).mono ?_
  rintro e w1 ⟨rfl, hb1⟩
  have HN := Lib.hid (fun W : World => impl_newFoldSheet R C W hR32 hC32)
  have HB1 := Lib.hid (hb1.alloc hb1.size (.cells #[.int .i64 R, .int .i64 C] 155))
  clear hb1
  go_wp2_with fail
  refine (HN.out _).mono ?_
  rintro e w2 ⟨q, rfl, hq, hM, hb2⟩
  have HB2 := Lib.hid (HB1.out.trans (hb2.mono HB1.out.size))
  have HQ : Hid (w.heap.size ≤ q) := Nat.le_trans HB1.out.size hq
  have HM := Lib.hid hM
  clear hb2 hq hM HB1 HN
  go_wp2_with fail
  go_loopg [7] (s.size + 1) (fun gg s7 wr => ∃ (k : Nat) (S : Sh), k ≤ s.size ∧ s7 = .int .i64 k ∧ s.size - k < gg ∧ Hid (Below w.heap.size w wr) ∧ Hid (ShM wr q S) ∧ Hid (S = foldAll (newSh R C) (l.take k)) ∧ Hid (ShK S (l.drop k) (2 ^ k)))
  case atStart => exact ⟨0, newSh R C, Nat.zero_le _, rfl, by omega, HB2, HM, rfl, by show ShK _ _ _; rw [HRC.out.1, HRC.out.2]; exact ShK.new l⟩
  case round =>
    clear HB2 HM
    obtain ⟨k, S, hk, rfl, hg, HB, HM, HS, HK⟩ := hrel
    cases gk with
    | zero => omega
    | succ g1 =>
    have hp : 2 ^ k ≤ 32 := pow5 (by omega)
    by_cases hlt : k < s.size
    · have k1 : (k : Int) < (s.size : Int) := by omega
      have k0 : (0 : Int) ≤ (k : Int) := by omega
      have hkl : k < l.length := by rw [HLL.out]; exact hlt
      have hd : l.drop k = s[k] :: l.drop (k + 1) := by
        rw [HL.out, List.drop_eq_getElem_cons (by rw [size_listX]; exact hlt)]; rfl
      have htk : l.take (k + 1) = l.take k ++ [s[k]] := by rw [HL.out]; exact byte_takeX hlt
      have hlet := HAL.out s[k] (byte_memX hlt)
      have hK := HK.out
      rw [hd] at hK
      obtain ⟨hK2, hw2, hh2⟩ := hK.step hlet
      have hr32 : S.1 ≤ 32 := by rw [hK.rows]; exact rowsT_le (by rw [← hd, List.length_drop, HLL.out]; omega)
      have hc32 : S.2.1 ≤ 32 := by rw [hK.cols]; exact colsT_le (by rw [← hd, List.length_drop, HLL.out]; omega)
      have HF := Lib.hid (impl_fold q S s[k] wr HM.out hlet hw2 hh2 hr32 hc32 (fun x hx => by
        have := hK.inv.2 x hx
        exact ⟨by omega, fun e => by rw [e] at this; have h0 := Nat.two_pow_pos k; simp at this; omega⟩))
      have HK2 : Hid (ShK (foldC S s[k]) (l.drop (k + 1)) (2 ^ (k + 1))) := by show ShK _ _ _; rw [Nat.pow_succ, Nat.mul_comm]; exact hK2
      have HS2 : Hid (foldC S s[k] = foldAll (newSh R C) (l.take (k + 1))) := by
        show _ = _
        rw [htk, HS.out]
        unfold foldAll
        rw [List.foldl_append]; rfl
      clear hd htk hlet hK hK2 hw2 hh2 hr32 hc32 HM HS HK
      go_wp2_with fail
      refine HF.out.mono ?_
      rintro e w3 ⟨rfl, hM3, hg3⟩
      have HM3 := Lib.hid hM3
      have HB3 := Lib.hid (HB.out.grown hg3 HB.out.size (fun g e => by cases e; exact HQ.out))
      clear hM3 hg3 HF HB
      go_wp2_with fail
      go_roundg g1
      case measure => omega
      case rel => exact ⟨k + 1, _, by omega, by go_num, by omega, HB3, HM3, HS2, HK2⟩
    · obtain rfl : k = s.size := by omega
      have hK := HK.out
      rw [List.drop_of_length_le (by rw [HLL.out]; exact Nat.le_refl _)] at hK
      have hr1 : S.1 = 1 := hK.rows
      have hc1 : S.2.1 = 1 := hK.cols
      have HT : Hid (shAt S 0 0 = stackT s.data.toList) := by
        show _ = _
        rw [HS.out, List.take_of_length_le (by rw [HLL.out]; exact Nat.le_refl _), HRC.out.1, HRC.out.2, HL.out]; rfl
      have HA := Lib.hid (impl_stackAt q 0 0 S wr HM.out (by omega) (by omega) (by rw [hr1, hc1]; omega))
      clear hK hr1 hc1
      go_wp2_with fail
      refine HA.out.mono ?_
      rintro e w3 ⟨⟨v, rfl, hv⟩, hb3⟩
      rw [HT.out] at hv
      have HV := Lib.hid hv
      have HB3 := Lib.hid (HB.out.trans (hb3.mono HB.out.size))
      obtain ⟨A3, c3, rfl, _⟩ := sl_len hv
      clear hv hb3
      go_wp2_with fail
      rw [field_stack]
      go_wp2_with fail
      go_ret2
      exact ⟨⟨_, rfl, HV.out⟩, HB3.out⟩
end Go.Proofs.YtkdlipbegdiaaaaGreatDoor
namespace Go.Proofs.YtkdlipbegdiaaaaGreatDoor
open Go.RowKit
set_option maxHeartbeats 400000 in
theorem spec_l4HighL (c : UInt8) (w : World) :
    Calls Tryz.prog 168 #[.int .u8 (c.toNat : Int)] w fun e w' => e = .returned (.bool (highB c)) ∧ w = w' := by
  have key : ∀ d : UInt8, ((c.toNat : Int) == (d.toNat : Int)) = decide (c = d) := by
    intro d
    rw [Bool.eq_iff_iff, beq_iff_eq, decide_eq_true_eq]
    exact ⟨fun h => UInt8.toNat_inj.1 (by omega), fun h => by rw [h]⟩
  have d1 : ((c.toNat : Int) == 85) = decide (c = 85) := key 85
  have d2 : ((c.toNat : Int) == 68) = decide (c = 68) := key 68
  have d3 : ((c.toNat : Int) == 117) = decide (c = 117) := key 117
  have d4 : ((c.toNat : Int) == 100) = decide (c = 100) := key 100
  obtain ⟨b1, e1⟩ : ∃ b, decide (c = 85) = b := ⟨_, rfl⟩
  obtain ⟨b2, e2⟩ : ∃ b, decide (c = 68) = b := ⟨_, rfl⟩
  obtain ⟨b3, e3⟩ : ∃ b, decide (c = 117) = b := ⟨_, rfl⟩
  obtain ⟨b4, e4⟩ : ∃ b, decide (c = 100) = b := ⟨_, rfl⟩
  have hq : highB c = (b1 || b2 || b3 || b4) := by unfold highB; rw [e1, e2, e3, e4]
  rw [e1] at d1
  rw [e2] at d2
  rw [e3] at d3
  rw [e4] at d4
  rw [hq]
  clear key e1 e2 e3 e4 hq
  cases b1 with
  | true =>
    go_enter Tryz.func168, Tryz.ntmps168
    go_wp2_with fail
    go_ret
    exact ⟨rfl, rfl⟩
  | false =>
    cases b2 with
    | true =>
      go_enter Tryz.func168, Tryz.ntmps168
      go_wp2_with fail
      go_ret
      exact ⟨rfl, rfl⟩
    | false =>
      cases b3 with
      | true =>
        go_enter Tryz.func168, Tryz.ntmps168
        go_wp2_with fail
        go_ret
        exact ⟨rfl, rfl⟩
      | false =>
        cases b4 with
        | true =>
          go_enter Tryz.func168, Tryz.ntmps168
          go_wp2_with fail
          go_ret
          exact ⟨rfl, rfl⟩
        | false =>
          go_enter Tryz.func168, Tryz.ntmps168
          go_wp2_with fail
          go_ret
          exact ⟨rfl, rfl⟩
set_option maxHeartbeats 400000 in
theorem spec_l4WideL (c : UInt8) (w : World) :
    Calls Tryz.prog 118 #[.int .u8 (c.toNat : Int)] w fun e w' => e = .returned (.bool (wideL c)) ∧ w = w' := by
  have key : ∀ d : UInt8, ((c.toNat : Int) == (d.toNat : Int)) = decide (c = d) := by
    intro d
    rw [Bool.eq_iff_iff, beq_iff_eq, decide_eq_true_eq]
    exact ⟨fun h => UInt8.toNat_inj.1 (by omega), fun h => by rw [h]⟩
  have d1 : ((c.toNat : Int) == 82) = decide (c = 82) := key 82
  have d2 : ((c.toNat : Int) == 76) = decide (c = 76) := key 76
  have d3 : ((c.toNat : Int) == 114) = decide (c = 114) := key 114
  have d4 : ((c.toNat : Int) == 108) = decide (c = 108) := key 108
  obtain ⟨b1, e1⟩ : ∃ b, decide (c = 82) = b := ⟨_, rfl⟩
  obtain ⟨b2, e2⟩ : ∃ b, decide (c = 76) = b := ⟨_, rfl⟩
  obtain ⟨b3, e3⟩ : ∃ b, decide (c = 114) = b := ⟨_, rfl⟩
  obtain ⟨b4, e4⟩ : ∃ b, decide (c = 108) = b := ⟨_, rfl⟩
  have hq : wideL c = (b1 || b2 || b3 || b4) := by unfold wideL; rw [e1, e2, e3, e4]
  rw [e1] at d1
  rw [e2] at d2
  rw [e3] at d3
  rw [e4] at d4
  rw [hq]
  clear key e1 e2 e3 e4 hq
  cases b1 with
  | true =>
    go_enter Tryz.func118, Tryz.ntmps118
    go_wp2_with fail
    go_ret
    exact ⟨rfl, rfl⟩
  | false =>
    cases b2 with
    | true =>
      go_enter Tryz.func118, Tryz.ntmps118
      go_wp2_with fail
      go_ret
      exact ⟨rfl, rfl⟩
    | false =>
      cases b3 with
      | true =>
        go_enter Tryz.func118, Tryz.ntmps118
        go_wp2_with fail
        go_ret
        exact ⟨rfl, rfl⟩
      | false =>
        cases b4 with
        | true =>
          go_enter Tryz.func118, Tryz.ntmps118
          go_wp2_with fail
          go_ret
          exact ⟨rfl, rfl⟩
        | false =>
          go_enter Tryz.func118, Tryz.ntmps118
          go_wp2_with fail
          go_ret
          exact ⟨rfl, rfl⟩
set_option maxHeartbeats 1000000 in
set_option maxRecDepth 100000 in
theorem spec_SheetValid (s : ByteArray) (w : World) (hs : s.size ≤ 1000) :
    Calls Tryz.prog 144 #[.string s] w fun e w' => e = .returned (.bool (shB s.data.toList)) ∧ w = w' := by
  go_enter Tryz.func144, Tryz.ntmps144
  go_wp2_with fail
  go_loop [3] (fun s3 => ∃ (k : Nat), k ≤ s.size ∧ s3 = .int .i64 k ∧ Hid ((s.data.toList.take k).all (fun c => wideL c || highB c) = true)) (fun s3 => s.size - (intOf s3).toNat)
  case atStart => exact ⟨0, Nat.zero_le _, rfl, rfl⟩
  case round =>
    obtain ⟨k, hk, rfl, HA⟩ := hrel
    by_cases hlt : k < s.size
    · have k1 : (k : Int) < (s.size : Int) := by omega
      have k0 : (0 : Int) ≤ (k : Int) := by omega
      have HF1 := Lib.hid (fun W : World => spec_l4WideL s[k] W)
      have HF2 := Lib.hid (fun W : World => spec_l4HighL s[k] W)
      have HA2 : Hid ((wideL s[k] || highB s[k]) = true → (s.data.toList.take (k + 1)).all (fun c => wideL c || highB c) = true) := by
        show _ → _
        intro h
        rw [byte_takeX hlt, List.all_append, HA.out]
        show (true && ((wideL s[k] || highB s[k]) && true)) = true
        rw [h]; rfl
      have HNo : Hid ((wideL s[k] || highB s[k]) = false → shB s.data.toList = false) := by
        show _ → _
        intro h
        unfold shB
        rw [Bool.and_eq_false_iff]
        right
        apply Bool.eq_false_iff.2
        intro hh
        have := List.all_eq_true.1 hh _ (byte_memX hlt)
        rw [h] at this; cases this
      obtain ⟨b1, hb1⟩ : ∃ b, wideL s[k] = b := ⟨_, rfl⟩
      obtain ⟨b2, hb2⟩ : ∃ b, highB s[k] = b := ⟨_, rfl⟩
      rw [hb1] at HF1 HA2 HNo
      rw [hb2] at HF2 HA2 HNo
      clear hb1 hb2 HA
      cases b1 with
      | true =>
        go_wp2_with fail
        refine (HF1.out w).mono ?_
        rintro e _ ⟨rfl, rfl⟩
        go_wp2_with fail
        go_round
        case rel => exact ⟨k + 1, by omega, by go_num, HA2.out rfl⟩
        case measure => simp [intOf]; omega
      | false =>
        go_wp2_with fail
        refine (HF1.out w).mono ?_
        rintro e _ ⟨rfl, rfl⟩
        go_wp2_with fail
        refine (HF2.out w).mono ?_
        rintro e _ ⟨rfl, rfl⟩
        cases b2 with
        | true =>
          go_wp2_with fail
          go_round
          case rel => exact ⟨k + 1, by omega, by go_num, HA2.out rfl⟩
          case measure => simp [intOf]; omega
        | false =>
          have HN2 := Lib.hid (HNo.out rfl)
          go_wp2_with fail
          go_ret
          exact ⟨by rw [HN2.out]; rfl, rfl⟩
    · obtain rfl : k = s.size := by omega
      have hA := HA.out
      rw [List.take_of_length_le (by rw [size_listX]; exact Nat.le_refl _)] at hA
      have hq : shB s.data.toList = decide ((s.size : Int) ≤ 5) := by
        unfold shB
        rw [hA, Bool.and_true, size_listX]
        rw [Bool.eq_iff_iff, decide_eq_true_eq, decide_eq_true_eq]; omega
      have HQ := Lib.hid hq
      clear hA hq HA
      go_wp2_with fail
      go_ret
      exact ⟨by rw [HQ.out]; rfl, rfl⟩
set_option maxHeartbeats 1000000 in
set_option maxRecDepth 100000 in
theorem spec_SheetSize (s : ByteArray) (w : World) (hs : s.size ≤ 1000) :
    Calls Tryz.prog 169 #[.string s] w fun e w' => e = .returned (.tuple #[.int .i64 (sizeO s.data.toList).1, .int .i64 (sizeO s.data.toList).2.1, .bool (sizeO s.data.toList).2.2]) ∧ w = w' := by
  have HV := Lib.hid (spec_SheetValid s w hs)
  cases hv : shB s.data.toList with
  | false =>
    rw [hv] at HV
    rw [sizeO_no hv]
    clear hv
    go_enter Tryz.func169, Tryz.ntmps169
    go_wp2_with fail
    refine HV.out.mono ?_
    rintro e _ ⟨rfl, rfl⟩
    go_wp2_with fail
    go_ret3
    exact ⟨rfl, rfl⟩
  | true =>
    rw [hv] at HV
    rw [sizeO_yes hv]
    obtain ⟨h5, hall⟩ := shB_parts hv
    rw [size_listX] at h5
    have HAL := Lib.hid hall
    clear hv hall
    go_enter Tryz.func169, Tryz.ntmps169
    go_wp2_with fail
    refine HV.out.mono ?_
    rintro e _ ⟨rfl, rfl⟩
    go_wp2_with fail
    go_loop [5, 6, 7] (fun s5 s6 s7 => ∃ (k P Q : Nat), k ≤ s.size ∧ s7 = .int .i64 k ∧ s5 = .int .i64 P ∧ s6 = .int .i64 Q ∧ P ≤ 32 ∧ Q ≤ 32 ∧ Hid (P = rowsT (s.data.toList.take k) ∧ Q = colsT (s.data.toList.take k))) (fun _ _ s7 => s.size - (intOf s7).toNat)
    case atStart => exact ⟨0, 1, 1, Nat.zero_le _, rfl, rfl, rfl, by omega, by omega, rfl, rfl⟩
    case round =>
      obtain ⟨k, P, Q, hk, rfl, rfl, rfl, hP, hQ, HPQ⟩ := hrel
      by_cases hlt : k < s.size
      · have k1 : (k : Int) < (s.size : Int) := by omega
        have k0 : (0 : Int) ≤ (k : Int) := by omega
        have hlet := HAL.out s[k] (byte_memX hlt)
        have hone := letter_one hlet
        have htk := byte_takeX hlt
        have HF1 := Lib.hid (fun W : World => spec_l4WideL s[k] W)
        have e1 := rowsT_snoc (s.data.toList.take k) s[k]
        have e2 := colsT_snoc (s.data.toList.take k) s[k]
        rw [← htk, ← HPQ.out.1, hone] at e1
        rw [← htk, ← HPQ.out.2] at e2
        have le1 : rowsT (s.data.toList.take (k + 1)) ≤ 32 := rowsT_le (by rw [List.length_take]; omega)
        have le2 : colsT (s.data.toList.take (k + 1)) ≤ 32 := colsT_le (by rw [List.length_take]; omega)
        obtain ⟨b1, hb1⟩ : ∃ b, wideL s[k] = b := ⟨_, rfl⟩
        rw [hb1] at HF1 e1 e2
        cases b1 with
        | true =>
          simp at e1 e2
          have HP2 : Hid (P = rowsT (s.data.toList.take (k + 1)) ∧ Q * 2 = colsT (s.data.toList.take (k + 1))) := ⟨e1.symm, e2.symm⟩
          have hq2 : Q * 2 ≤ 32 := by omega
          clear e1 e2 le1 le2 hb1 htk hone hlet HPQ
          go_wp2_with fail
          refine (HF1.out w).mono ?_
          rintro e _ ⟨rfl, rfl⟩
          go_wp2_with fail
          go_round
          case rel => exact ⟨k + 1, P, Q * 2, by omega, by go_num, rfl, by go_num, hP, hq2, HP2⟩
          case measure => simp [intOf]; omega
        | false =>
          simp at e1 e2
          have HP2 : Hid (P * 2 = rowsT (s.data.toList.take (k + 1)) ∧ Q = colsT (s.data.toList.take (k + 1))) := ⟨e1.symm, e2.symm⟩
          have hq2 : P * 2 ≤ 32 := by omega
          clear e1 e2 le1 le2 hb1 htk hone hlet HPQ
          go_wp2_with fail
          refine (HF1.out w).mono ?_
          rintro e _ ⟨rfl, rfl⟩
          go_wp2_with fail
          go_round
          case rel => exact ⟨k + 1, P * 2, Q, by omega, by go_num, by go_num, rfl, hq2, hQ, HP2⟩
          case measure => simp [intOf]; omega
      · obtain rfl : k = s.size := by omega
        have hA := HPQ.out
        rw [List.take_of_length_le (by rw [size_listX]; exact Nat.le_refl _)] at hA
        have HA := Lib.hid hA
        clear hA HPQ
        go_wp2_with fail
        go_ret3
        exact ⟨by rw [← HA.out.1, ← HA.out.2]; rfl, rfl⟩
end Go.Proofs.YtkdlipbegdiaaaaGreatDoor
namespace Go.Proofs.YtkdlipbegdiaaaaGreatDoor
open Go.RowKit
theorem own_low {w : World} {B B' : Nat} {e : TypeId} {z n : Nat} {v : Value} {xs : List Value} (h : w.ownsRow B e z v n xs) (hB : B' ≤ B) : w.ownsRow B' e z v n xs := by
  rcases h with ⟨h1, h2⟩
  refine ⟨h1, ?_⟩
  rcases h2 with h2 | ⟨g, cap, cur, e1, hb, rest⟩
  · exact Or.inl h2
  · exact Or.inr ⟨g, cap, cur, e1, Nat.le_trans hB hb, rest⟩
set_option maxHeartbeats 2000000 in
set_option maxRecDepth 100000 in
theorem spec_l4Turned (A : Option Addr) (cap : Nat) (b : List Cl) (high : Bool) (w : World) (h : RowV w A (clL b)) (hl : b.length ≤ 1000) :
    Calls Tryz.prog 193 #[.slice A b.length cap, .bool high] w fun e w' => (∃ v, e = .returned v ∧ OwnC w' w.heap.size v b.length (clL (turned high b 0))) ∧ Below w.heap.size w w' := by
  have HR := Lib.hid h
  have kw2 : IntKind.i64.wrap ((b.length : Int) - 1) = (b.length : Int) - 1 := IntWalk.i64_in _ (by omega)
  clear h
  go_enter Tryz.func193, Tryz.ntmps193
  obtain ⟨w1, hw1⟩ : ∃ w1, w1 = w.alloc (.cells #[] 131) := ⟨_, rfl⟩
  have HB1 : Hid (Below w.heap.size w w1) := by show Below _ _ _; rw [hw1]; exact (Below.refl _ _).alloc (Nat.le_refl _) _
  have HO1 : Hid (OwnC w1 w.heap.size (.slice (some ⟨w.heap.size, 0, none⟩) 0 0) 0 []) := by
    show OwnC _ _ _ _ _
    rw [hw1]
    exact World.ownsRow_lit w #[] 0 (Nat.le_refl _) (by unfold maxLen; omega) rfl
  have HW1 := Lib.hid hw1
  clear hw1
  go_wp2_with fail
  rw [← HW1.out]
  go_loopg [5, 6] (b.length + 1) (fun gg s5 s6 wr => ∃ (j : Nat) (z : Int), j ≤ b.length ∧ z + 1 = (j : Int) ∧ s6 = .int .i64 z ∧ j < gg ∧ Hid (OwnC wr w.heap.size s5 (b.length - j) (clL (turned high b j))) ∧ Hid (Below w.heap.size w wr))
  case atStart => exact ⟨b.length, (b.length : Int) - 1, Nat.le_refl _, by omega, rfl, by omega, by show OwnC _ _ _ _ _; rw [turned_end, Nat.sub_self]; exact HO1.out, HB1⟩
  case round =>
    clear HO1 HB1 kw2 HW1
    obtain ⟨j, z, hj, hz, rfl, hg, HO, HB⟩ := hrel
    cases gk with
    | zero => omega
    | succ g1 =>
    by_cases h0 : j = 0
    · subst h0
      obtain rfl : z = -1 := by omega
      have hO := HO.out
      rw [Nat.sub_zero] at hO
      have HO' := Lib.hid hO
      obtain ⟨Am, cm, rfl, _, _, _⟩ := own_formX hO
      clear hO HO
      go_wp2_with fail
      go_ret
      exact ⟨⟨_, rfl, HO'.out⟩, HB.out⟩
    · obtain ⟨k, rfl⟩ : ∃ k, j = k + 1 := ⟨j - 1, by omega⟩
      obtain rfl : z = (k : Int) := by omega
      have hk : k < b.length := by omega
      have k0 : (0 : Int) ≤ (k : Int) := by omega
      have k1 : (k : Int) < (b.length : Int) := by omega
      have kw : IntKind.i64.wrap ((k : Int) - 1) = (k : Int) - 1 := IntWalk.i64_in _ (by omega)
      obtain ⟨bb, off, e, hbb, e0, e1, e2, e3⟩ := (HR.out.below HB.out).cl hk
      subst e
      have hst := turned_step high hk
      obtain ⟨x, hx⟩ : ∃ x, x = b[k] := ⟨_, rfl⟩
      rw [← hx] at e0 e1 e2 e3 hst
      obtain ⟨xr, xc, xu, xh⟩ := x
      have HST := Lib.hid hst
      obtain ⟨Am, cm, rfl, _, _, _⟩ := own_formX HO.out
      clear hx hst
      cases high with
      | false =>
        have hb3 : Below wr.heap.size wr (wr.alloc (.cells #[.int .i64 xr, .int .i64 xc, .bool !xu, .bool xh] 131)) := (Below.refl _ _).alloc (Nat.le_refl _) _
        have hb4 := hb3.alloc hb3.size (.cells #[.int .i64 xr, .int .i64 xc, .bool !xu, .bool xh] 131)
        have HOB := Lib.hid (own_belowX HO.out hb4)
        have HNW : Hid (RowV ((wr.alloc (.cells #[.int .i64 xr, .int .i64 xc, .bool !xu, .bool xh] 131)).alloc (.cells #[.int .i64 xr, .int .i64 xc, .bool !xu, .bool xh] 131)) (some ⟨wr.heap.size + 1, 0, none⟩) (clV (xr, xc, !xu, xh))) := by
          show RowV _ _ _
          have h := RowV.lit (wr.alloc (.cells #[.int .i64 xr, .int .i64 xc, .bool !xu, .bool xh] 131)) (clV (xr, xc, !xu, xh)) 131
          have e : (wr.alloc (.cells #[.int .i64 xr, .int .i64 xc, .bool !xu, .bool xh] 131)).heap.size = wr.heap.size + 1 := by simp
          rw [e] at h; exact h
        have HB4 := Lib.hid (HB.out.trans (hb4.mono HB.out.size))
        clear hb3 hb4 HO
        go_wp2_with (at_builtin; go_loud (refine wpList_appC (by rfl) _ _ (by rfl) w.heap.size _ (b.length - (k + 1)) (clL (turned false b (k + 1))) (some ⟨wr.heap.size + 1, 0, none⟩) 1 _ (clV (xr, xc, !xu, xh)) (by rfl) (by rfl) HOB.out rfl (fun e => by cases e) HNW.out.news (by have := cl_one [(xr, xc, !xu, xh)]; rw [clL_one] at this; exact this) HB4.out.size (by omega) ?_))
        intro v5 w5 ho5 hg5 hb5 hm5 hr5
        have ho5' : OwnC w5 w.heap.size v5 (b.length - k) (clL (turned false b k)) := by
          have e1 : b.length - (k + 1) + 1 = b.length - k := by omega
          rw [e1] at ho5
          rw [← HST.out, clL_app, clL_one]; simpa [clT] using ho5
        have HO5 := Lib.hid ho5'
        have HB5 := Lib.hid (HB4.out.trans hb5)
        clear ho5 ho5' hg5 hb5 hm5 hr5 HOB HNW HB4
        go_wp2_with fail
        go_roundg g1
        case measure => omega
        case rel => exact ⟨k, (k : Int) - 1, by omega, by omega, by go_num, by omega, HO5, HB5⟩
      | true =>
        have hb3 : Below wr.heap.size wr (wr.alloc (.cells #[.int .i64 xr, .int .i64 xc, .bool !xu, .bool !xh] 131)) := (Below.refl _ _).alloc (Nat.le_refl _) _
        have hb4 := hb3.alloc hb3.size (.cells #[.int .i64 xr, .int .i64 xc, .bool !xu, .bool !xh] 131)
        have HOB := Lib.hid (own_belowX HO.out hb4)
        have HNW : Hid (RowV ((wr.alloc (.cells #[.int .i64 xr, .int .i64 xc, .bool !xu, .bool !xh] 131)).alloc (.cells #[.int .i64 xr, .int .i64 xc, .bool !xu, .bool !xh] 131)) (some ⟨wr.heap.size + 1, 0, none⟩) (clV (xr, xc, !xu, !xh))) := by
          show RowV _ _ _
          have h := RowV.lit (wr.alloc (.cells #[.int .i64 xr, .int .i64 xc, .bool !xu, .bool !xh] 131)) (clV (xr, xc, !xu, !xh)) 131
          have e : (wr.alloc (.cells #[.int .i64 xr, .int .i64 xc, .bool !xu, .bool !xh] 131)).heap.size = wr.heap.size + 1 := by simp
          rw [e] at h; exact h
        have HB4 := Lib.hid (HB.out.trans (hb4.mono HB.out.size))
        clear hb3 hb4 HO
        go_wp2_with (at_builtin; go_loud (refine wpList_appC (by rfl) _ _ (by rfl) w.heap.size _ (b.length - (k + 1)) (clL (turned true b (k + 1))) (some ⟨wr.heap.size + 1, 0, none⟩) 1 _ (clV (xr, xc, !xu, !xh)) (by rfl) (by rfl) HOB.out rfl (fun e => by cases e) HNW.out.news (by have := cl_one [(xr, xc, !xu, !xh)]; rw [clL_one] at this; exact this) HB4.out.size (by omega) ?_))
        intro v5 w5 ho5 hg5 hb5 hm5 hr5
        have ho5' : OwnC w5 w.heap.size v5 (b.length - k) (clL (turned true b k)) := by
          have e1 : b.length - (k + 1) + 1 = b.length - k := by omega
          rw [e1] at ho5
          rw [← HST.out, clL_app, clL_one]; simpa [clT] using ho5
        have HO5 := Lib.hid ho5'
        have HB5 := Lib.hid (HB4.out.trans hb5)
        clear ho5 ho5' hg5 hb5 hm5 hr5 HOB HNW HB4
        go_wp2_with fail
        go_roundg g1
        case measure => omega
        case rel => exact ⟨k, (k : Int) - 1, by omega, by omega, by go_num, by omega, HO5, HB5⟩
set_option maxHeartbeats 2000000 in
set_option maxRecDepth 100000 in
theorem spec_l4Put (A A' : Option Addr) (ca cb : Nat) (a b : List Cl) (c : UInt8) (w : World) (ha : RowV w A (clL a)) (hb : RowV w A' (clL b)) (hla : a.length ≤ 1000) (hlb : b.length ≤ 1000) :
    Calls Tryz.prog 184 #[.slice A a.length ca, .slice A' b.length cb, .int .u8 (c.toNat : Int)] w fun e w' => (∃ v, e = .returned v ∧ OwnC w' w.heap.size v (putS a b (highB c) (underB c)).length (clL (putS a b (highB c) (underB c)))) ∧ Below w.heap.size w w' := by
  have HH := Lib.hid (spec_l4HighL c w)
  obtain ⟨hi, hhi⟩ : ∃ hi, highB c = hi := ⟨_, rfl⟩
  have HT := Lib.hid (spec_l4Turned A' cb b hi w hb hlb)
  have HA := Lib.hid ha
  rw [hhi] at HH ⊢
  have hAn : A = none → a.length = 0 := fun e => by subst e; have h := congrArg List.length ha.none_; rw [clL_len, List.length_nil] at h; omega
  have hub : decide ((97 : Int) ≤ (c.toNat : Int)) = underB c := by unfold underB; rw [Bool.eq_iff_iff, decide_eq_true_eq, decide_eq_true_eq]; omega
  obtain ⟨un, hun⟩ : ∃ u, underB c = u := ⟨_, rfl⟩
  rw [hun] at hub ⊢
  have HL : Hid ((putS a b hi un).length = a.length + b.length) := putS_len a b hi un
  clear hhi hun ha hb
  go_enter Tryz.func184, Tryz.ntmps184
  go_wp2_with fail
  refine HH.out.mono ?_
  rintro e _ ⟨rfl, rfl⟩
  go_wp2_with fail
  refine HT.out.mono ?_
  rintro e w1 ⟨⟨v1, rfl, ho1⟩, hb1⟩
  have HO1 := Lib.hid ho1
  have HB1 := Lib.hid hb1
  have HA1 := Lib.hid (HA.out.below hb1)
  obtain ⟨A1, c1, rfl, hr1, _, _⟩ := own_formX ho1
  have HR1 := Lib.hid hr1
  clear ho1 hb1 hr1
  cases un with
  | true =>
    go_wp2_with (at_builtin; go_loud (refine wpList_appC (by rfl) _ _ (by rfl) w.heap.size _ b.length (clL (turned hi b 0)) _ a.length _ (clL a) (by rfl) (by rfl) HO1.out (clL_len a) hAn HA1.out.news (cl_one a) HB1.out.size (by omega) ?_))
    intro v3 w3 ho3 hg3 hb3 hm3 hr3
    have HE : Hid (OwnC w3 w.heap.size v3 (putS a b hi true).length (clL (putS a b hi true))) := by
      show OwnC _ _ _ _ _
      have e1 : (putS a b hi true).length = b.length + a.length := by rw [HL.out]; omega
      have e2 : clL (putS a b hi true) = clL (turned hi b 0) ++ clL a := by unfold putS; rw [if_pos rfl, clL_app, turned_all]
      rw [e1, e2]; exact ho3
    have HB3 := Lib.hid (HB1.out.trans hb3)
    obtain ⟨A3, c3, rfl, _, _, _⟩ := own_formX ho3
    clear ho3 hg3 hb3 hm3 hr3 hAn
    go_wp2_with fail
    go_ret
    exact ⟨⟨_, rfl, HE.out⟩, HB3.out⟩
  | false =>
    have hb2 : Below w1.heap.size w1 (w1.alloc (.cells #[] 131)) := (Below.refl _ _).alloc (Nat.le_refl _) _
    have HO2 : Hid (OwnC (w1.alloc (.cells #[] 131)) w1.heap.size (.slice (some ⟨w1.heap.size, 0, none⟩) 0 0) 0 []) := World.ownsRow_lit w1 #[] 0 (Nat.le_refl _) (by unfold maxLen; omega) rfl
    have HB2 := Lib.hid hb2
    have HA2 := Lib.hid (HA1.out.below hb2)
    have hBn : A1 = none → b.length = 0 := fun e => by subst e; have h := congrArg List.length HR1.out.none_; rw [clL_len, turned_len, List.length_nil] at h; omega
    clear hb2
    go_wp2_with (at_builtin; go_loud (refine wpList_appC (by rfl) _ _ (by rfl) w1.heap.size _ 0 [] _ a.length _ (clL a) (by rfl) (by rfl) HO2.out (clL_len a) hAn HA2.out.news (cl_one a) HB2.out.size (by omega) ?_))
    intro v3 w3 ho3 hg3 hb3 hm3 hr3
    have ho3 : OwnC w3 w1.heap.size v3 a.length (clL a) := by simpa using ho3
    obtain ⟨A3, c3, rfl, _, _, _⟩ := own_formX ho3
    have HB3 := Lib.hid (HB2.out.trans hb3)
    have HO3 := Lib.hid ho3
    have HR3 := Lib.hid (HR1.out.below HB3.out)
    clear ho3 hg3 hb3 hm3 hr3 HO2 HB2 HA2
    go_wp2_with (at_builtin; go_loud (refine wpList_appC (by rfl) _ _ (by rfl) w1.heap.size _ a.length (clL a) _ b.length _ (clL (turned hi b 0)) (by rfl) (by rfl) HO3.out (by rw [clL_len, turned_len, Nat.sub_zero]) hBn HR3.out.news (cl_one _) HB3.out.size (by omega) ?_))
    intro v5 w5 ho5 hg5 hb5 hm5 hr5
    have HE : Hid (OwnC w5 w.heap.size v5 (putS a b hi false).length (clL (putS a b hi false))) := by
      show OwnC _ _ _ _ _
      have e2 : clL (putS a b hi false) = clL a ++ clL (turned hi b 0) := by unfold putS; rw [if_neg (by decide), clL_app, turned_all]
      rw [HL.out, e2]
      exact own_low ho5 HB1.out.size
    have HB5 := Lib.hid (HB1.out.trans ((HB3.out.trans hb5).mono HB1.out.size))
    obtain ⟨A5, c5, rfl, _, _, _⟩ := own_formX ho5
    clear ho5 hg5 hb5 hm5 hr5 hAn hBn
    go_wp2_with fail
    go_ret
    exact ⟨⟨_, rfl, HE.out⟩, HB5.out⟩
end Go.Proofs.YtkdlipbegdiaaaaGreatDoor
