/- Numbers of words, counts as texts: the program's. No condition but sizes, and what the table of powers of ten holds. -/
import Derived.Test.YtmohfibgefcefaaGreatDoorImplB
import Derived.Test.YtmohfibgefcefaaGreatDoorStrE
import Derived.Test.YtmohfibgefcefaaGreatDoorExeH
namespace Go.Proofs.YtmohfibgefcefaaGreatDoor
open Go.RowKit

/-- the table of powers of ten is laid -/
def Pow (w : World) : Prop := Lib.TabIs Tryz.prog w "internal/strconv.uint64pow10" .u64 Lib.pow10Tab
theorem Pow.same {w w' : World} (h : Pow w) (hb : ∀ i, i < w.heap.size → w'.heap[i]? = w.heap[i]?) : Pow w' := by
  unfold Pow Lib.TabIs World.var? at h ⊢
  cases hg : Tryz.prog.globalNamed "internal/strconv.uint64pow10" with
  | none => rw [hg] at h; simp at h
  | some g =>
    rw [hg] at h
    simp only [Option.bind_some] at h ⊢
    have hlt : g < w.heap.size := by
      apply Classical.byContradiction
      intro hn
      rw [Array.getElem?_eq_none (by omega)] at h
      cases h
    rw [hb g hlt]; exact h
theorem Pow.below {w w' : World} (h : Pow w) (hb : Below w.heap.size w w') : Pow w' := h.same fun i hi => hb.block i hi
theorem Pow.grown {w w' : World} {td : Nat} {u v : Value} (h : Pow w) (hg : w.grownBy w' (some td)) (ht : Blk w td 68 #[u, v]) : Pow w' := by
  unfold Pow Lib.TabIs World.var? at h ⊢
  cases hn : Tryz.prog.globalNamed "internal/strconv.uint64pow10" with
  | none => rw [hn] at h; simp at h
  | some g =>
    rw [hn] at h
    simp only [Option.bind_some] at h ⊢
    have hty : g ≠ td := by
      intro e
      subst e
      unfold Blk at ht
      rw [ht] at h
      have := congrArg Array.size (Option.some.inj h)
      simp [Lib.pow10Tab] at this
    have hlt : g < w.heap.size := by
      apply Classical.byContradiction
      intro hn
      rw [Array.getElem?_eq_none (by omega)] at h
      cases h
    rw [hg.block g hlt (fun e => hty (Option.some.inj e))]; exact h
theorem below_grow (w : World) (k : Nat) (os : Array Obj) : Below w.heap.size w (Go.Sort.grow (w.drewN k) os) := by
  refine ⟨rfl, rfl, rfl, ?_, fun i hi => ?_⟩
  · show w.heap.size ≤ (w.heap ++ os).size
    simp
  · show (w.heap ++ os)[i]? = w.heap[i]?
    rw [Array.getElem?_append_left hi]
theorem itoa_nat (n : Nat) : Lib.itoa (n : Int) = Lib.decDigits n := by unfold Lib.itoa; rw [if_neg (by omega)]; simp
set_option maxHeartbeats 1000000 in
theorem impl_numberOf (s : ByteArray) (w : World) :
    Calls Tryz.prog 156 #[.string s] w fun e w' => e = .returned (.int .i64 (numV s.data.toList : Nat)) ∧ w = w' := by
  have hsz : s.data.toList.length = s.size := Array.length_toList
  by_cases g1 : s.size < 1
  · have d1 : decide ((s.size : Int) < 1) = true := by simp; omega
    have HV : Hid (numV s.data.toList = 0) := by show _ = _; unfold numV; rw [if_pos (by omega)]
    clear hsz
    go_enter Tryz.func156, Tryz.ntmps156
    go_wp2_with fail
    go_ret
    exact ⟨by rw [HV.out]; rfl, rfl⟩
  · by_cases g2 : 4 < s.size
    · have d1 : decide ((s.size : Int) < 1) = false := by simp; omega
      have d2 : decide ((4 : Int) < (s.size : Int)) = true := by simp; omega
      have HV : Hid (numV s.data.toList = 0) := by show _ = _; unfold numV; rw [if_pos (by omega)]
      clear hsz
      go_enter Tryz.func156, Tryz.ntmps156
      go_wp2_with fail
      go_ret
      exact ⟨by rw [HV.out]; rfl, rfl⟩
    · have d1 : decide ((s.size : Int) < 1) = false := by simp; omega
      have d2 : decide ((4 : Int) < (s.size : Int)) = false := by simp; omega
      have HV : Hid (numV s.data.toList = (numD s.data.toList 0).getD 0) := by show _ = _; unfold numV; rw [if_neg (by omega)]
      have HSZ := Lib.hid hsz
      clear hsz
      go_enter Tryz.func156, Tryz.ntmps156
      go_wp2_with fail
      go_loopg [3, 4] (s.size + 1) (fun gg s3 s4 wr => ∃ (k a : Nat), k ≤ s.size ∧ s3 = .int .i64 a ∧ s4 = .int .i64 k ∧ s.size - k < gg ∧ Hid (wr = w) ∧ Hid (numD (s.data.toList.drop k) a = numD s.data.toList 0) ∧ Hid (a < 10 ^ k))
      case atStart => exact ⟨0, 0, Nat.zero_le _, rfl, rfl, by omega, rfl, rfl, by show _ < _; decide⟩
      case round =>
        obtain ⟨k, a, hk, rfl, rfl, hg, HW, HD, HA⟩ := hrel
        cases gk with
        | zero => omega
        | succ gl =>
        have ha : a < 10000 := Nat.lt_of_lt_of_le HA.out (Nat.le_trans (Nat.pow_le_pow_right (by omega) (show k ≤ 4 by omega)) (by decide))
        by_cases hlt : k < s.size
        · have k1 : (k : Int) < (s.size : Int) := by omega
          have k0 : (0 : Int) ≤ (k : Int) := by omega
          have hx := byte_drop hlt
          have hdd := HD.out
          rw [hx, numD_cons] at hdd
          obtain ⟨z, hz⟩ : ∃ z, z = s[k].toNat := ⟨_, rfl⟩
          have hz256 : z < 256 := by rw [hz]; exact UInt8.toNat_lt _
          rw [← hz] at hdd
          by_cases m1 : z < 48
          · have e1 : decide ((z : Int) < 48) = true := by simp; omega
            rw [if_pos (Or.inl m1)] at hdd
            have HE : Hid (numV s.data.toList = 0) := by show _ = _; rw [HV.out, ← hdd]; rfl
            rw [hz] at e1
            clear hx hdd m1 hz
            go_wp2_with fail
            go_ret
            exact ⟨by rw [HE.out]; rfl, HW.out.symm⟩
          · by_cases m2 : 57 < z
            · have e1 : decide ((z : Int) < 48) = false := by simp; omega
              have e2 : decide ((57 : Int) < (z : Int)) = true := by simp; omega
              rw [if_pos (Or.inr m2)] at hdd
              have HE : Hid (numV s.data.toList = 0) := by show _ = _; rw [HV.out, ← hdd]; rfl
              rw [hz] at e1 e2
              clear hx hdd m1 m2 hz
              go_wp2_with fail
              go_ret
              exact ⟨by rw [HE.out]; rfl, HW.out.symm⟩
            · have e1 : decide ((z : Int) < 48) = false := by simp; omega
              have e2 : decide ((57 : Int) < (z : Int)) = false := by simp; omega
              rw [if_neg (by omega)] at hdd
              have f1 : IntKind.i64.wrap ((a : Int) * 10) = ((a * 10 : Nat) : Int) := (IntWalk.i64_in _ (by omega)).trans (by omega)
              have f2 : IntKind.u8.wrap ((z : Int) - 48) = ((z - 48 : Nat) : Int) := by
                have : (z : Int) - 48 = ((z - 48 : Nat) : Int) := by omega
                rw [this]
                unfold IntKind.wrap
                have q : (2 : Int) ^ IntKind.u8.bits = 256 := by decide
                have q2 : IntKind.u8.signed = false := rfl
                simp only [q, q2]
                simp; omega
              have f4 : IntKind.i64.wrap ((z - 48 : Nat) : Int) = ((z - 48 : Nat) : Int) := IntWalk.i64_in _ (by omega)
              have f3 : IntKind.i64.wrap (((a * 10 : Nat) : Int) + ((z - 48 : Nat) : Int)) = ((a * 10 + (z - 48) : Nat) : Int) := (IntWalk.i64_in _ (by omega)).trans (by omega)
              have HD2 := Lib.hid hdd
              have HA2 : Hid (a * 10 + (z - 48) < 10 ^ (k + 1)) := by
                show _ < _
                have := HA.out
                rw [Nat.pow_succ]; omega
              obtain ⟨a10, ha10⟩ : ∃ x, x = a * 10 := ⟨_, rfl⟩
              obtain ⟨zd, hzd⟩ : ∃ x, x = z - 48 := ⟨_, rfl⟩
              rw [← ha10] at f1 f3 HD2 HA2
              rw [← hzd] at f2 f3 f4 HD2 HA2
              rw [hz] at e1 e2 f2
              clear hx hdd m1 m2 hz ha10 hzd
              go_wp2_with fail
              go_roundg gl
              case measure => omega
              case rel => exact ⟨k + 1, a10 + zd, by omega, by go_num, by go_num, by omega, HW, HD2, HA2⟩
        · obtain rfl : k = s.size := by omega
          have HE : Hid (numV s.data.toList = a) := by
            show _ = _
            have := HD.out
            rw [List.drop_of_length_le (by rw [HSZ.out]; exact Nat.le_refl _)] at this
            rw [HV.out, ← this]; rfl
          go_wp2_with fail
          go_ret
          exact ⟨by rw [HE.out]; rfl, HW.out.symm⟩
/-- a count as a text -/
theorem impl_countText (n : Nat) (hn : n ≤ 1000000) (w : World) (hp : Pow w) :
    Calls Tryz.prog 155 #[.int .i64 n] w fun e w' => e = .returned (.tuple #[.string (btj (Lib.decDigits n)), .bool true]) ∧ Below w.heap.size w w' := by
  have HI := Tryz.strconv_Itoa (n : Int) (by omega) (by omega) w hp
  rw [itoa_nat] at HI
  have HII := Lib.hid HI
  have d1 : ((n : Int) == -1) = false := by rw [beq_eq_false_iff_ne]; omega
  clear HI
  go_enter Tryz.func155, Tryz.ntmps155
  go_wp2_with fail
  refine HII.out.mono ?_
  rintro e w1 ⟨rfl, k, os, rfl⟩
  go_wp2_with fail
  go_ret2
  exact ⟨rfl, below_grow w k os⟩
theorem impl_countText_no (w : World) :
    Calls Tryz.prog 155 #[.int .i64 (-1)] w fun e w' => e = .returned (.tuple #[.string ⟨#[]⟩, .bool false]) ∧ w = w' := by
  go_enter Tryz.func155, Tryz.ntmps155
  go_wp2_with fail
  go_ret2
  exact ⟨rfl, rfl⟩
end Go.Proofs.YtmohfibgefcefaaGreatDoor
