/- The program's AnglesBack, FoldsBalance, FoldsSwap. No condition but sizes. -/
import Derived.Lib.ConvBytes
import Derived.Test.YtngpeehjjcgmmaaTurnI
import Derived.Test.YtngpeehjjcgmmaaSeg
namespace Go.Proofs.Ytngpeehjjcgmmaa
open Go.RowKit


set_option maxHeartbeats 400000 in
theorem impl_FoldsBalance (s : ByteArray) (w : World) (hs : s.size ≤ 1000) :
    Calls Try.prog 12 #[.string s] w fun e w' => e = .returned (.int .i64 (balT s.data.toList)) ∧ w = w' := by
  go_enter Try.func12, Try.ntmps12
  go_wp2_with fail
  go_loop [3, 4] (fun s3 s4 => ∃ (k : Nat) (b : Int), k ≤ s.size ∧ s4 = .int .i64 k ∧ s3 = .int .i64 b ∧ -(k : Int) ≤ b ∧ b ≤ (k : Int) ∧ Hid (b + balT (s.data.toList.drop k) = balT s.data.toList)) (fun _ s4 => s.size - (intOf s4).toNat)
  case atStart => exact ⟨0, 0, Nat.zero_le _, rfl, rfl, by omega, by omega, by show _ = _; simp⟩
  case round =>
    obtain ⟨k, b, hk, rfl, rfl, hb1, hb2, H⟩ := hrel
    by_cases hlt : k < s.size
    · have HX := Lib.hid (byte_drop hlt)
      by_cases m1 : s[k] = 77
      · have e1 : ((s[k].toNat : Int) == 77) = true := by rw [m1]; rfl
        have M := Lib.hid m1; clear m1
        go_wp2_with fail
        go_round
        case rel => exact ⟨k + 1, b + 1, by omega, by go_num, rfl, by omega, by omega, by show _ = _; rw [← H.out, HX.out, balT, if_pos M.out]; omega⟩
        case measure => simp [intOf]; omega
      · have n1 : s[k].toNat ≠ 77 := fun e => m1 (UInt8.toNat_inj.1 (by rw [e]; rfl))
        have e1 : ((s[k].toNat : Int) == 77) = false := by rw [beq_eq_false_iff_ne]; omega
        have M := Lib.hid m1; clear m1
        by_cases m2 : s[k] = 86
        · have e2 : ((s[k].toNat : Int) == 86) = true := by rw [m2]; rfl
          have M2 := Lib.hid m2; clear m2 n1
          go_wp2_with fail
          go_round
          case rel => exact ⟨k + 1, b - 1, by omega, by go_num, rfl, by omega, by omega, by show _ = _; rw [← H.out, HX.out, balT, if_neg M.out, if_pos M2.out]; omega⟩
          case measure => simp [intOf]; omega
        · have n2 : s[k].toNat ≠ 86 := fun e => m2 (UInt8.toNat_inj.1 (by rw [e]; rfl))
          have e2 : ((s[k].toNat : Int) == 86) = false := by rw [beq_eq_false_iff_ne]; omega
          have M2 := Lib.hid m2; clear m2 n1 n2
          go_wp2_with fail
          go_round
          case rel => exact ⟨k + 1, b, by omega, by go_num, rfl, by omega, by omega, by show _ = _; rw [← H.out, HX.out, balT, if_neg M.out, if_neg M2.out]; omega⟩
          case measure => simp [intOf]; omega
    · obtain rfl : k = s.size := by omega
      go_wp2_with fail
      go_ret
      exact ⟨ret_int (by rw [← H.out, List.drop_of_length_le (by rw [size_list]; exact Nat.le_refl _)]; simp [balT]), rfl⟩


end Go.Proofs.Ytngpeehjjcgmmaa
