/- The laws' own helpers on vertices: a comparison of lists, texts turned and read backwards, powers and texts by rank. No condition but sizes. -/
import Derived.Test.YtkdakceahoihjaaConfC
import Derived.Test.YtkdakceahoihjaaTexts
namespace Go.Proofs.Ytkdakceahoihjaa
open Go.RowKit

def eqGoS : List Int → List Int → Bool
  | [], _ => true
  | x :: r, y :: r' => if x = y then eqGoS r r' else false
  | _ :: _, [] => true
theorem eqGoS_eq {xs ys : List Int} (h : xs.length = ys.length) : eqGoS xs ys = decide (xs = ys) := by
  induction xs generalizing ys with
  | nil => cases ys with
    | nil => rfl
    | cons y r => simp at h
  | cons x r ih =>
    cases ys with
    | nil => simp at h
    | cons y r' =>
      rw [eqGoS, ih (by simpa using h)]
      by_cases e : x = y
      · simp [e]
      · simp [e]

set_option maxHeartbeats 1000000 in
theorem laws_sameInts (A A' : Option Addr) (cap cap' : Nat) (xs ys : List Int) (w : World) (h : Ints w A xs) (h' : Ints w A' ys) (hl : xs.length ≤ maxLen) (_hl' : ys.length ≤ maxLen) :
    Calls Try.prog 27 #[.slice A xs.length cap, .slice A' ys.length cap'] w fun e w' => e = .returned (.bool (decide (xs = ys))) ∧ ∃ m, w.drewN m = w' := by
  unfold maxLen at hl
  by_cases e : xs.length = ys.length
  · have d1 : ((xs.length : Int) != (ys.length : Int)) = false := by rw [bne_eq_false_iff_eq]; omega
    have hys : ys.length ≤ xs.length ∧ xs.length ≤ ys.length := by omega
    have E := Lib.hid e
    clear e
    go_enter Try.func27, Try.ntmps27
    go_wp2_with fail
    go_loopg [5] (xs.length + 1) (fun g i wr => ∃ (k m : Nat), k ≤ xs.length ∧ i = .int .i64 k ∧ xs.length - k < g ∧ w.drewN m = wr ∧ Hid (eqGoS xs ys = eqGoS (xs.drop k) (ys.drop k)))
    case atStart => exact ⟨0, 0, Nat.zero_le _, rfl, by omega, rfl, rfl⟩
    case round =>
      obtain ⟨k, m, hk, rfl, hg, rfl, H⟩ := hrel
      cases gk with
      | zero => omega
      | succ g =>
      by_cases hlt : k < xs.length
      · obtain ⟨b, off, x, rfl, hb, HX, hc, _⟩ := h.at_ hlt
        obtain ⟨b', off', y, rfl, hb', HY, hc', _⟩ := h'.at_ (k := k) (by omega)
        have hlt' : k < ys.length := by omega
        have i1 : (k : Int) < (xs.length : Int) := by omega
        have i2 : (k : Int) < (ys.length : Int) := by omega
        have i3 : (0 : Int) ≤ (k : Int) := by omega
        by_cases q : x = y
        · have dq : (x != y) = false := by rw [bne_eq_false_iff_eq]; exact q
          have Q := Lib.hid q
          clear q
          go_wp2_with fail
          go_quiet (fail)
          go_wp2_with fail
          go_roundg g
          case measure => omega
          case rel => exact ⟨k + 1, _, by omega, by go_num, by omega, rfl, H.out.trans (by rw [HX.out, HY.out, eqGoS, if_pos Q.out])⟩
        · have dq : (x != y) = true := by rw [bne_iff_ne]; exact q
          have Q := Lib.hid q
          clear q
          go_wp2_with fail
          go_quiet (fail)
          go_wp2_with fail
          go_ret
          exact ⟨ret_bool (by rw [← eqGoS_eq E.out, H.out, HX.out, HY.out, eqGoS, if_neg Q.out]), _, (World.drewN_drewN _ _ _).symm⟩
      · go_wp2_with fail
        go_ret
        have e : xs.drop k = [] := List.drop_of_length_le (by omega)
        exact ⟨ret_bool (by rw [← eqGoS_eq E.out, H.out, e, eqGoS]), _, rfl⟩
  · have d1 : ((xs.length : Int) != (ys.length : Int)) = true := by rw [bne_iff_ne]; omega
    have E := Lib.hid e
    clear e
    go_enter Try.func27, Try.ntmps27
    go_wp2_with fail
    go_ret
    exact ⟨ret_bool (by rw [decide_eq_false (fun e => E.out (by rw [e]))]), 0, rfl⟩


set_option maxHeartbeats 1000000 in
theorem laws_foldsOf (n k : Nat) (w : World) (hn : n ≤ 100) (hk : k ≤ 1000000000000) :
    Calls Try.prog 34 #[.int .i64 n, .int .i64 k] w fun e w' => e = .returned (.string (txt n k)) ∧ w = w' := by
  go_enter Try.func34, Try.ntmps34
  go_wp2_with fail
  go_loop [1, 5, 6] (fun s1 s5 s6 => ∃ (i r : Nat) (t : ByteArray), i ≤ n ∧ s6 = .int .i64 i ∧ s1 = .int .i64 r ∧ s5 = .string t ∧ r ≤ k ∧ t.size ≤ 100 ∧ Hid (t.size = i) ∧ Hid (t = txt i k) ∧ Hid (r = k / 2 ^ i)) (fun _ _ s6 => n - (intOf s6).toNat)
  case atStart => exact ⟨0, k, _, Nat.zero_le _, rfl, rfl, rfl, Nat.le_refl _, by decide, rfl, rfl, by show k = k / 2 ^ 0; simp⟩
  case round =>
    obtain ⟨i, r, t, hi, rfl, rfl, rfl, hr, hts, HT, HE, HR⟩ := hrel
    have hrn : Hid (r / 2 = k / 2 ^ (i + 1)) := by show _ = _; rw [HR.out, Nat.pow_succ, Nat.div_div_eq_div_mul]
    by_cases hlt : i < n
    · have h63 : (1 : Nat) + t.size ≤ 9223372036854775807 := by omega
      by_cases q : r % 2 = 0
      · have d1 : (((r : Int) % 2) == 0) = true := by simp; omega
        have hb : bitL k i = 77 := by unfold bitL; rw [← HR.out, if_pos q]
        have HB := Lib.hid hb
        have b12 : ∀ W, (Op.stringOp .add (ByteArray.mk #[77]) t).run Try.prog W = .ok (.string (ByteArray.mk #[77] ++ t)) W := fun W => run_string_add_sum W _ _ h63
        clear q hb h63
        go_wp2_with fail
        go_round
        case rel => exact ⟨i + 1, r / 2, _, by omega, by go_num, by go_num, rfl, by omega, by rw [ByteArray.size_append]; have := HT.out; show 1 + t.size ≤ 100; omega, by show _ = _; rw [ByteArray.size_append, HT.out]; show 1 + i = i + 1; omega, by show _ = _; rw [HE.out, ← txt_succ, HB.out], hrn⟩
        case measure => simp [intOf]; omega
      · have d1 : (((r : Int) % 2) == 0) = false := by rw [beq_eq_false_iff_ne]; omega
        have hb : bitL k i = 86 := by unfold bitL; rw [← HR.out, if_neg q]
        have HB := Lib.hid hb
        have b12 : ∀ W, (Op.stringOp .add (ByteArray.mk #[86]) t).run Try.prog W = .ok (.string (ByteArray.mk #[86] ++ t)) W := fun W => run_string_add_sum W _ _ h63
        clear q hb h63
        go_wp2_with fail
        go_round
        case rel => exact ⟨i + 1, r / 2, _, by omega, by go_num, by go_num, rfl, by omega, by rw [ByteArray.size_append]; have := HT.out; show 1 + t.size ≤ 100; omega, by show _ = _; rw [ByteArray.size_append, HT.out]; show 1 + i = i + 1; omega, by show _ = _; rw [HE.out, ← txt_succ, HB.out], hrn⟩
        case measure => simp [intOf]; omega
    · obtain rfl : i = n := by omega
      go_wp2_with fail
      go_ret
      exact ⟨by rw [← HE.out]; rfl, rfl⟩

set_option maxHeartbeats 400000 in
theorem laws_power (n : Nat) (w : World) (hn : n ≤ 40) :
    Calls Try.prog 33 #[.int .i64 n] w fun e w' => e = .returned (.int .i64 ((2 ^ n : Nat) : Int)) ∧ w = w' := by
  go_enter Try.func33, Try.ntmps33
  go_wp2_with fail
  go_loop [3, 4] (fun s3 s4 => ∃ (i p : Nat), i ≤ n ∧ s4 = .int .i64 i ∧ s3 = .int .i64 p ∧ p ≤ 1099511627776 ∧ Hid (p = 2 ^ i)) (fun _ s4 => n - (intOf s4).toNat)
  case atStart => exact ⟨0, 1, Nat.zero_le _, rfl, rfl, by omega, rfl⟩
  case round =>
    obtain ⟨i, p, hi, rfl, rfl, hp, HP⟩ := hrel
    by_cases hlt : i < n
    · have hp2 : 2 * p ≤ 1099511627776 := by
        have h1 : 2 * p = 2 ^ (i + 1) := by rw [HP.out, Nat.pow_succ, Nat.mul_comm]
        have h2 : 2 ^ (i + 1) ≤ 2 ^ 40 := Nat.pow_le_pow_right (by omega) (by omega)
        have h3 : 2 ^ 40 = 1099511627776 := by decide
        omega
      go_wp2_with fail
      go_round
      case rel => exact ⟨i + 1, 2 * p, by omega, by go_num, by go_num, hp2, by show _ = _; rw [HP.out, Nat.pow_succ, Nat.mul_comm]⟩
      case measure => simp [intOf]; omega
    · obtain rfl : i = n := by omega
      go_wp2_with fail
      go_ret
      exact ⟨ret_int (by rw [HP.out]; simp), rfl⟩


set_option maxHeartbeats 1000000 in
theorem laws_turnedText (s : ByteArray) (k : Nat) (w : World) (hk : k ≤ s.size) (hs : s.size ≤ 1000) :
    Calls Try.prog 40 #[.string s, .int .i64 k] w fun e w' => e = .returned (.string (s.extract k s.size ++ s.extract 0 k)) ∧ ∃ m, w.drewN m = w' := by
  have b1 : (0 : Int) ≤ (k : Int) := by omega
  have b2 : (k : Int) ≤ (s.size : Int) := by omega
  have b12 : ∀ W, (Op.stringOp .add (s.extract k s.size) (s.extract 0 k)).run Try.prog W = .ok (.string (s.extract k s.size ++ s.extract 0 k)) W := fun W =>
    run_string_add_sum W _ _ (by simp only [ByteArray.size_extract]; omega)
  go_enter Try.func40, Try.ntmps40
  go_wp2_with fail
  go_quiet (fail)
  go_wp2_with fail
  go_ret
  exact ⟨rfl, _, rfl⟩

theorem back_step {s : ByteArray} {j : Nat} (h : j < s.size) : bts (s.data.toList.drop (j + 1)).reverse ++ s.extract j (j + 1) = bts (s.data.toList.drop j).reverse := by
  have e : s.extract j (j + 1) = bts [s[j]] := by
    apply ByteArray.ext
    apply Array.ext'
    show (s.extract j (j + 1)).data.toList = [s[j]]
    rw [ByteArray.data_extract]
    simp
    have : s.data.toList.drop j = s[j] :: s.data.toList.drop (j + 1) := byte_drop h
    rw [this]
    simp
  rw [e, byte_drop h, List.reverse_cons]
  exact ByteArray.mk_append_mk _ _
set_option maxHeartbeats 1000000 in
theorem laws_backText (s : ByteArray) (w : World) (hs : s.size ≤ 1000) :
    Calls Try.prog 39 #[.string s] w fun e w' => e = .returned (.string (bts s.data.toList.reverse)) ∧ w = w' := by
  go_enter Try.func39, Try.ntmps39
  go_wp2_with fail
  go_loop [3, 4] (fun s3 s4 => ∃ (k : Nat) (t : ByteArray), k ≤ s.size ∧ s4 = .int .i64 ((k : Int) - 1) ∧ s3 = .string t ∧ t.size ≤ 1000 ∧ Hid (t.size + k = s.size) ∧ Hid (t = bts (s.data.toList.drop k).reverse)) (fun _ s4 => ((intOf s4) + 1).toNat)
  case atStart => exact ⟨s.size, _, Nat.le_refl _, rfl, rfl, by decide, by show 0 + s.size = s.size; omega, by show _ = _; rw [List.drop_of_length_le (by rw [size_list]; exact Nat.le_refl _)]; rfl⟩
  case round =>
    obtain ⟨k, t, hk, rfl, rfl, ht, HT, HE⟩ := hrel
    cases k with
    | zero =>
      go_wp2_with fail
      go_ret
      exact ⟨by rw [HE.out]; rfl, rfl⟩
    | succ j =>
      rw [show (((j + 1 : Nat)) : Int) - 1 = (j : Int) from by omega]
      have d1 : decide ((0 : Int) ≤ (j : Int)) = true := by simp
      have b1 : (j : Int) + 1 ≤ (s.size : Int) := by omega
      have h63 : t.size + (s.extract j (j + 1)).size ≤ 9223372036854775807 := by simp only [ByteArray.size_extract]; omega
      have b12 : ∀ W, (Op.stringOp .add t (s.extract j (j + 1))).run Try.prog W = .ok (.string (t ++ s.extract j (j + 1))) W := fun W => run_string_add_sum W _ _ h63
      have HB := Lib.hid (back_step (s := s) (j := j) (by omega))
      have hsz : (t ++ s.extract j (j + 1)).size = t.size + 1 := by rw [ByteArray.size_append, ByteArray.size_extract]; omega
      have HZ := Lib.hid hsz
      have hts : t.size + 1 ≤ 1000 := by have := HT.out; omega
      clear h63 hsz
      go_wp2_with fail
      go_round
      case rel => exact ⟨j, _, by omega, rfl, rfl, by rw [HZ.out]; exact hts, by show _ = _; rw [HZ.out]; have := HT.out; omega, by show _ = _; rw [HE.out, HB.out]⟩
      case measure => simp [intOf]

end Go.Proofs.Ytkdakceahoihjaa
