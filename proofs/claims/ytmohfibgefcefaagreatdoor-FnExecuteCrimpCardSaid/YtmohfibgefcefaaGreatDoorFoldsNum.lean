/- The program's 'foldsOfNumber': the text of so many folds with a rank. No condition but sizes. -/
import Derived.Laws.BitsAllLaws
import Derived.Laws.BitsLemmas
import Derived.Laws.OwnMore
import Derived.Test.YtmohfibgefcefaaGreatDoorBytes
import Derived.Test.YtmohfibgefcefaaGreatDoorTexts
namespace Go.Proofs.YtmohfibgefcefaaGreatDoor
open Go.RowKit

theorem i64_and_one (a : Nat) (ha : a < 9223372036854775808) : bits .and .i64 (a : Int) 1 = ((a % 2 : Nat) : Int) := by
  have h1 : (BitVec.ofInt 64 (a : Int)).toNat = a := by rw [BitVec.ofInt_natCast, BitVec.toNat_ofNat]; exact Nat.mod_eq_of_lt (by omega)
  show IntKind.i64.wrap ((BitVec.ofInt 64 (a : Int) &&& BitVec.ofInt 64 (1 : Int)).toNat : Int) = _
  rw [BitVec.toNat_and, h1, show (BitVec.ofInt 64 (1 : Int)).toNat = 1 from by decide, Nat.and_one_is_mod, IntKind.wrap_i64]
  omega
theorem shr_nat (k m : Nat) : (k : Int) / 2 ^ m = ((k / 2 ^ m : Nat) : Int) := by simp
theorem byteVals_set (bs : List UInt8) (i : Nat) (c : UInt8) (ci : Int) (h : (c.toNat : Int) = ci) : (byteVals bs).set i (.int .u8 ci) = byteVals (bs.set i c) := by
  subst h; simp [byteVals, List.map_set]
theorem made_zero (n : Nat) : (madeCells (Value.int .u8 0).cells (n * 1)).toList = byteVals (List.replicate n 0) := by
  apply List.ext_getElem
  · simp [madeCells, byteVals]
  · intro i h1 h2
    simp [madeCells, byteVals, Value.cells, Nat.mod_one]
theorem ext_txtL (n k : Nat) (bs : List UInt8) (hl : bs.length = n) (h : ∀ j, j < n → bs[j]? = some (bitL k (n - 1 - j))) : bs = txtL n k := by
  apply List.ext_getElem?
  intro i
  by_cases hi : i < n
  · rw [h i hi, txtL_get n k i hi]
  · rw [List.getElem?_eq_none (by omega), List.getElem?_eq_none (by rw [txtL_len]; omega)]

set_option maxHeartbeats 1000000 in
theorem impl_foldsOfNumber (n k : Nat) (w : World) (hn : n ≤ 60) (hk : k ≤ 1000000000000) :
    Calls Tryz.prog 41 #[.int .i64 n, .int .i64 k] w fun e w' => e = .returned (.string (txt n k)) ∧ Below w.heap.size w w' := by
  go_enter Tryz.func41, Tryz.ntmps41
  obtain ⟨i0, hi, hz0, hz1, hz2⟩ := info_parts Tryz.infoByte
  obtain ⟨w1, hrun, ho1, hg1⟩ := run_make_full (P := Tryz.prog) w w.heap.size 22 5 i0 (.int .u8 0) 1 Tryz.underlying22 hi hz0 hz1 .i64 .i64 n (by rw [hz2]; omega) (by unfold maxLen; omega) (Nat.le_refl w.heap.size)
  rw [made_zero] at ho1
  have HB := Lib.hid ((Below.refl w.heap.size w).grown hg1 (Nat.le_refl _) (fun _ hh => by cases hh))
  have HO := Lib.hid ho1
  have HR := Lib.hid hrun
  clear ho1 hg1 hi hz0 hz1 hz2 hrun
  set_option maxRecDepth 100000 in
  go_wp2_with fail
  rw [HR.out]
  go_wp2_with fail
  go_loopg [11] (n + 1) (fun g s11 wr => ∃ (i : Nat) (bs : List UInt8), i ≤ n ∧ s11 = .int .i64 i ∧ n - i < g ∧ Below w.heap.size w wr ∧ bs.length = n ∧ Hid (∀ j, j < i → bs[j]? = some (bitL k (n - 1 - j))) ∧
    wr.ownsRow w.heap.size 5 1 (.slice (some ⟨w.heap.size, 0, none⟩) n n) n (byteVals bs))
  case atStart => exact ⟨0, List.replicate n 0, Nat.zero_le _, rfl, by omega, HB.out, by simp, fun j hj => absurd hj (Nat.not_lt_zero j), HO.out⟩
  case round =>
    obtain ⟨i, bs, hi, rfl, hg, hbel, hlen, HE, hown⟩ := hrel
    cases gk with
    | zero => omega
    | succ g =>
    by_cases hlt : i < n
    · have c1 := hown.cellAt i (by omega)
      rw [List.getElem?_eq_getElem (by simp [byteVals_len]; omega)] at c1
      have c2 := hown.frozenAt i
      have st1 := hown.stored i (.int .u8 77)
      rw [byteVals_set bs i 77 77 rfl] at st1
      have hb1 := hbel.grown st1.2 hbel.size (fun k hk => by cases hk; exact Nat.le_refl _)
      have st2 := st1.1.stored i (.int .u8 86)
      rw [byteVals_set _ i 86 86 rfl, List.set_set] at st2
      have hb2 := hb1.grown st2.2 hb1.size (fun k hk => by cases hk; exact Nat.le_refl _)
      have c3 := st1.1.frozenAt i
      have c4 := st1.1.cellAt i (by omega)
      rw [List.getElem?_eq_getElem (by simp [byteVals_len]; omega)] at c4
      have he : ∀ c : UInt8, bitL k (n - 1 - i) = c → ∀ j, j < i + 1 → (bs.set i c)[j]? = some (bitL k (n - 1 - j)) := by
        intro c hc j hj
        rw [List.getElem?_set]
        by_cases hji : i = j
        · subst hji; rw [if_pos rfl, if_pos (by omega), hc]
        · rw [if_neg hji]; exact HE.out j (by omega)
      have hbits : bits .and .i64 ((k : Int) / 2 ^ (n - 1 - i)) 1 = ((k / 2 ^ (n - 1 - i) % 2 : Nat) : Int) := by
        rw [shr_nat]
        exact i64_and_one _ (Nat.lt_of_le_of_lt (Nat.div_le_self _ _) (by omega))
      have S1 := Lib.hid (show _ ∧ _ ∧ _ from ⟨st1.1, hb1, he⟩)
      have S2 := Lib.hid (show _ ∧ _ from ⟨st2.1, hb2⟩)
      clear st1 st2 hb1 hb2 he hown hbel HE HB HO HR
      by_cases q : k / 2 ^ (n - 1 - i) % 2 = 0
      · have d1 : (bits .and .i64 ((k : Int) / 2 ^ (n - 1 - i)) 1 == 1) = false := by rw [hbits, q]; rfl
        have hb : bitL k (n - 1 - i) = 77 := if_pos q
        have HBB := Lib.hid hb
        clear hb q hbits
        go_wp2_with fail
        go_roundg g
        case measure => omega
        case rel => exact ⟨i + 1, bs.set i 77, by omega, by go_num, by omega, S1.out.2.1, by simp [hlen], S1.out.2.2 77 HBB.out, S1.out.1⟩
      · have d1 : (bits .and .i64 ((k : Int) / 2 ^ (n - 1 - i)) 1 == 1) = true := by rw [hbits, show k / 2 ^ (n - 1 - i) % 2 = 1 from by omega]; rfl
        have hb : bitL k (n - 1 - i) = 86 := if_neg q
        have HBB := Lib.hid hb
        clear hb q hbits
        go_wp2_with fail
        go_roundg g
        case measure => omega
        case rel => exact ⟨i + 1, bs.set i 86, by omega, by go_num, by omega, S2.out.2, by simp [hlen], S1.out.2.2 86 HBB.out, S2.out.1⟩
    · obtain rfl : i = n := by omega
      have hbe : bs = txtL i k := ext_txtL i k bs hlen HE.out
      subst hbe
      have ho : OwnB wr w.heap.size (.slice (some ⟨w.heap.size, 0, none⟩) i i) (txtL i k) := by
        have := hown; rw [← hlen] at this; simpa [OwnB, txtL_len] using this
      have hst : (convert 22 9 (.slice (some ⟨w.heap.size, 0, none⟩) i i)).run Tryz.prog wr = .ok (.string (txt i k)) wr := run_ownB_string ho
      clear ho hown HB HO HR
      go_wp2_with fail
      go_ret
      exact ⟨rfl, hbel⟩
end Go.Proofs.YtmohfibgefcefaaGreatDoor
