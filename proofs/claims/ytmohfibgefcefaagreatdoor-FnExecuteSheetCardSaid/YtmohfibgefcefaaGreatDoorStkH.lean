/- The stack of a text, a cell of it: the program's. No condition but sizes. -/
import Derived.Test.YtmohfibgefcefaaGreatDoorStkG
namespace Go.Proofs.YtmohfibgefcefaaGreatDoor
open Go.RowKit

theorem sizeO_yes {l : List UInt8} (h : shB l = true) : sizeO l = (rowsT l, colsT l, true) := by unfold sizeO; rw [if_pos h]
theorem sizeO_no {l : List UInt8} (h : shB l = false) : sizeO l = (0, 0, false) := by unfold sizeO; rw [if_neg (by rw [h]; decide)]
theorem shB_parts {l : List UInt8} (h : shB l = true) : l.length ≤ 5 ∧ ∀ c ∈ l, (wideL c || highB c) = true := by
  unfold shB at h
  rw [Bool.and_eq_true, decide_eq_true_eq] at h
  exact ⟨h.1, fun c hc => List.all_eq_true.1 h.2 c hc⟩
theorem field_stack (A : Option Addr) (n c : Nat) (W : World) : (Instr.field 61 (.agg #[.slice A n c]) 0).run Tryz.prog W = .ok (.slice A n c) W := by kernel_rfl
set_option maxHeartbeats 2000000 in
set_option maxRecDepth 100000 in
theorem impl_SheetStack (s : ByteArray) (w : World) (hv : shB s.data.toList = true) :
    Calls Tryz.prog 8 #[.string s] w fun e w' => (∃ v, e = .returned (.tuple #[v, .bool true]) ∧ SlC w' v (stackT s.data.toList)) ∧ Below w.heap.size w w' := by
  obtain ⟨h5, hall⟩ := shB_parts hv
  rw [size_listX] at h5
  obtain ⟨l, hl⟩ : ∃ l, l = s.data.toList := ⟨_, rfl⟩
  have hll : l.length = s.size := by rw [hl]; exact size_listX s
  have HZ := Lib.hid (fun W : World => impl_sizeOf s W (by omega))
  rw [sizeO_yes hv, ← hl] at HZ
  obtain ⟨R, hR⟩ : ∃ R, R = rowsT l := ⟨_, rfl⟩
  obtain ⟨C, hC⟩ : ∃ C, C = colsT l := ⟨_, rfl⟩
  have hR32 : R ≤ 32 := by rw [hR]; exact rowsT_le (by omega)
  have hC32 : C ≤ 32 := by rw [hC]; exact colsT_le (by omega)
  have HZ2 : Hid (∀ W : World, Calls Tryz.prog 29 #[.string s] W fun e w' => e = .returned (.tuple #[.agg #[.int .i64 R, .int .i64 C], .bool true]) ∧ Below W.heap.size W w') := by
    show ∀ W : World, _
    intro W
    rw [hR, hC]; exact HZ.out W
  have HRC := Lib.hid (And.intro hR hC)
  have HL := Lib.hid hl
  have HLL := Lib.hid hll
  have HAL := Lib.hid hall
  clear HZ hv hall hl hR hC hll
  go_enter Tryz.func8, Tryz.ntmps8
  go_wp2_with fail
  refine (HZ2.out w).mono ?_
  rintro e w1 ⟨rfl, hb1⟩
  have HN := Lib.hid (fun W : World => impl_newFoldSheet R C W hR32 hC32)
  have HB1 := Lib.hid (hb1.alloc hb1.size (.cells #[.int .i64 R, .int .i64 C] 54))
  clear hb1
  go_wp2_with fail
  refine (HN.out _).mono ?_
  rintro e w2 ⟨q, rfl, hq, hM, hb2⟩
  have HB2 := Lib.hid (HB1.out.trans (hb2.mono HB1.out.size))
  have HQ : Hid (w.heap.size ≤ q) := Nat.le_trans HB1.out.size hq
  have HM := Lib.hid hM
  clear hb2 hq hM HB1 HN
  go_wp2_with fail
  go_loopg [7] (s.size + 1) (fun gg s7 wr => ∃ (k : Nat) (S : Sh), k ≤ s.size ∧ s7 = .int .i64 k ∧ s.size - k < gg ∧ Hid (Below w.heap.size w wr) ∧ Hid (ShM wr q S) ∧ Hid (S = foldAll (newSh R C) (l.take k)) ∧ Hid (ShK S (l.drop k) (2 ^ k)))
  case atStart => exact ⟨0, newSh R C, Nat.zero_le _, rfl, by omega, HB2, HM, rfl, by show ShK _ _ _; rw [HRC.out.1, HRC.out.2]; exact ShK.new l⟩
  case round =>
    clear HB2 HM
    obtain ⟨k, S, hk, rfl, hg, HB, HM, HS, HK⟩ := hrel
    cases gk with
    | zero => omega
    | succ g1 =>
    have hp : 2 ^ k ≤ 32 := pow5 (by omega)
    by_cases hlt : k < s.size
    · have k1 : (k : Int) < (s.size : Int) := by omega
      have k0 : (0 : Int) ≤ (k : Int) := by omega
      have hkl : k < l.length := by rw [HLL.out]; exact hlt
      have hd : l.drop k = s[k] :: l.drop (k + 1) := by
        rw [HL.out, List.drop_eq_getElem_cons (by rw [size_listX]; exact hlt)]; rfl
      have htk : l.take (k + 1) = l.take k ++ [s[k]] := by rw [HL.out]; exact byte_takeX hlt
      have hlet := HAL.out s[k] (byte_memX hlt)
      have hK := HK.out
      rw [hd] at hK
      obtain ⟨hK2, hw2, hh2⟩ := hK.step hlet
      have hr32 : S.1 ≤ 32 := by rw [hK.rows]; exact rowsT_le (by rw [← hd, List.length_drop, HLL.out]; omega)
      have hc32 : S.2.1 ≤ 32 := by rw [hK.cols]; exact colsT_le (by rw [← hd, List.length_drop, HLL.out]; omega)
      have HF := Lib.hid (impl_fold q S s[k] wr HM.out hlet hw2 hh2 hr32 hc32 (fun x hx => by
        have := hK.inv.2 x hx
        exact ⟨by omega, fun e => by rw [e] at this; have h0 := Nat.two_pow_pos k; simp at this; omega⟩))
      have HK2 : Hid (ShK (foldC S s[k]) (l.drop (k + 1)) (2 ^ (k + 1))) := by show ShK _ _ _; rw [Nat.pow_succ, Nat.mul_comm]; exact hK2
      have HS2 : Hid (foldC S s[k] = foldAll (newSh R C) (l.take (k + 1))) := by
        show _ = _
        rw [htk, HS.out]
        unfold foldAll
        rw [List.foldl_append]; rfl
      clear hd htk hlet hK hK2 hw2 hh2 hr32 hc32 HM HS HK
      go_wp2_with fail
      refine HF.out.mono ?_
      rintro e w3 ⟨rfl, hM3, hg3⟩
      have HM3 := Lib.hid hM3
      have HB3 := Lib.hid (HB.out.grown hg3 HB.out.size (fun g e => by cases e; exact HQ.out))
      clear hM3 hg3 HF HB
      go_wp2_with fail
      go_roundg g1
      case measure => omega
      case rel => exact ⟨k + 1, _, by omega, by go_num, by omega, HB3, HM3, HS2, HK2⟩
    · obtain rfl : k = s.size := by omega
      have hK := HK.out
      rw [List.drop_of_length_le (by rw [HLL.out]; exact Nat.le_refl _)] at hK
      have hr1 : S.1 = 1 := hK.rows
      have hc1 : S.2.1 = 1 := hK.cols
      have HT : Hid (shAt S 0 0 = stackT s.data.toList) := by
        show _ = _
        rw [HS.out, List.take_of_length_le (by rw [HLL.out]; exact Nat.le_refl _), HRC.out.1, HRC.out.2, HL.out]; rfl
      have HA := Lib.hid (impl_stackAt q 0 0 S wr HM.out (by omega) (by omega) (by rw [hr1, hc1]; omega))
      clear hK hr1 hc1
      go_wp2_with fail
      refine HA.out.mono ?_
      rintro e w3 ⟨⟨v, rfl, hv⟩, hb3⟩
      rw [HT.out] at hv
      have HV := Lib.hid hv
      have HB3 := Lib.hid (HB.out.trans (hb3.mono HB.out.size))
      obtain ⟨A3, c3, rfl, _⟩ := sl_len hv
      clear hv hb3
      go_wp2_with fail
      rw [field_stack]
      go_wp2_with fail
      go_ret2
      exact ⟨⟨_, rfl, HV.out⟩, HB3.out⟩
end Go.Proofs.YtmohfibgefcefaaGreatDoor
