/- The reference's tests of angles that close, of lengths and rings, and its least number. No condition but sizes. -/
import Derived.Test.YtngpeehjjcgmmaaSpecB
namespace Go.Proofs.Ytngpeehjjcgmmaa
open Go.RowKit

set_option maxHeartbeats 400000 in
theorem spec_AnglesCloses (A : Option Addr) (cap : Nat) (xs : List Int) (w : World) (h : Ints w A xs) (hl : xs.length ≤ maxLen) :
    Calls Try.prog 23 #[.slice A xs.length cap] w fun e w' => e = .returned (.bool (acB xs)) ∧ w = w' := by
  cases hv : avB xs with
  | false =>
    have HV := Lib.hid hv; clear hv
    go_enter Try.func23, Try.ntmps23
    go_wp2_with fail
    refine (spec_AnglesValid A cap xs w h hl).mono ?_
    rintro e w' ⟨rfl, rfl⟩
    rw [HV.out]
    go_wp2_with fail
    go_ret
    exact ⟨ret_bool (by unfold acB; rw [HV.out]; rfl), rfl⟩
  | true =>
    obtain ⟨_, _, h10, hx, _⟩ := avB_parts hv
    have HV := Lib.hid hv; clear hv
    have HX := Lib.hid hx; clear hx
    go_enter Try.func23, Try.ntmps23
    go_wp2_with fail
    refine (spec_AnglesValid A cap xs w h hl).mono ?_
    rintro e w' ⟨rfl, rfl⟩
    rw [HV.out]
    go_wp2_with fail
    refine (spec_l1Alternate A cap xs w h (by omega) (fun x hx => by have := HX.out x hx; omega)).mono ?_
    rintro e w' ⟨rfl, rfl⟩
    go_wp2_with fail
    go_ret
    exact ⟨ret_bool (by unfold acB balB; rw [HV.out, Bool.eq_iff_iff]; simp), rfl⟩

set_option maxHeartbeats 800000 in
theorem spec_l2Lengths (A : Option Addr) (cap : Nat) (xs : List Int) (w : World) (h : Ints w A xs) (hl : xs.length ≤ maxLen) :
    Calls Try.prog 58 #[.slice A xs.length cap] w fun e w' => e = .returned (.bool (lvB xs)) ∧ w = w' := by
  unfold maxLen at hl
  go_enter Try.func58, Try.ntmps58
  go_wp2_with fail
  go_loop [3] (fun i => ∃ (k : Nat), k ≤ xs.length ∧ i = .int .i64 k ∧ Hid (inAll 1 1000 xs = inAll 1 1000 (xs.drop k))) (fun i => xs.length - (intOf i).toNat)
  case atStart => exact ⟨0, Nat.zero_le _, rfl, rfl⟩
  case round =>
    obtain ⟨k, hk, rfl, H⟩ := hrel
    by_cases hlt : k < xs.length
    · obtain ⟨b, off, x, rfl, hb, HX, hc, hm⟩ := h.at_ hlt
      clear hm
      go_wp2_with fail
      refine (spec_l6In x 1 1000 w).mono ?_
      rintro e w' ⟨rfl, rfl⟩
      cases hi : inB x 1 1000 with
      | false =>
        have HI := Lib.hid hi; clear hi
        go_wp2_with fail
        go_ret
        exact ⟨ret_bool (by unfold lvB; rw [inAll_eq, H.out, HX.out, inAll, HI.out]; simp), rfl⟩
      | true =>
        have HI := Lib.hid hi; clear hi
        go_wp2_with fail
        go_round
        case rel => exact ⟨k + 1, by omega, by go_num, H.out.trans (by rw [HX.out, inAll, if_pos HI.out])⟩
        case measure => simp [intOf]; omega
    · have e : xs.drop k = [] := List.drop_of_length_le (by omega)
      have hall : inAll 1 1000 xs = true := by rw [H.out, e]; rfl
      have HA := Lib.hid hall
      clear hall e
      go_wp2_with fail
      refine (spec_l6In xs.length 1 6 w).mono ?_
      rintro e w' ⟨rfl, rfl⟩
      go_wp2_with fail
      go_ret
      exact ⟨ret_bool (by unfold lvB inB; rw [inAll_eq, HA.out, Bool.eq_iff_iff]; simp; omega), rfl⟩

set_option maxHeartbeats 800000 in
theorem spec_RingValid (A : Option Addr) (cap : Nat) (xs : List Int) (s : ByteArray) (w : World) (h : Ints w A xs) (hl : xs.length ≤ maxLen) (hs : s.size ≤ maxLen) :
    Calls Try.prog 34 #[.slice A xs.length cap, .string s] w fun e w' => e = .returned (.bool (rvB xs s.data.toList)) ∧ w = w' := by
  have hlm := hl
  unfold maxLen at hlm
  cases hv : lvB xs with
  | false =>
    have HV := Lib.hid hv; clear hv
    go_enter Try.func34, Try.ntmps34
    go_wp2_with fail
    refine (spec_l2Lengths A cap xs w h hl).mono ?_
    rintro e w' ⟨rfl, rfl⟩
    rw [HV.out]
    go_wp2_with fail
    go_ret
    exact ⟨ret_bool (by unfold rvB; rw [HV.out]; rfl), rfl⟩
  | true =>
    obtain ⟨h1, h6, hx⟩ := lvB_parts hv
    have HV := Lib.hid hv; clear hv
    have HX := Lib.hid hx; clear hx
    by_cases ho : xs.length % 2 = 0
    · have d1 : (((xs.length : Int) % 2) == 0) = true := by simp; omega
      have HO := Lib.hid ho; clear ho
      cases hf : fvB s.data.toList xs.length with
      | false =>
        have HF := Lib.hid hf; clear hf
        go_enter Try.func34, Try.ntmps34
        go_wp2_with fail
        refine (spec_l2Lengths A cap xs w h hl).mono ?_
        rintro e w' ⟨rfl, rfl⟩
        rw [HV.out]
        go_wp2_with fail
        refine (spec_FoldsValid s xs.length w hs).mono ?_
        rintro e w' ⟨rfl, rfl⟩
        rw [HF.out]
        go_wp2_with fail
        go_ret
        exact ⟨ret_bool (by unfold rvB; rw [HV.out, HF.out]; simp), rfl⟩
      | true =>
        have HF := Lib.hid hf; clear hf
        go_enter Try.func34, Try.ntmps34
        go_wp2_with fail
        refine (spec_l2Lengths A cap xs w h hl).mono ?_
        rintro e w' ⟨rfl, rfl⟩
        rw [HV.out]
        go_wp2_with fail
        refine (spec_FoldsValid s xs.length w hs).mono ?_
        rintro e w' ⟨rfl, rfl⟩
        rw [HF.out]
        go_wp2_with fail
        refine (spec_l1Alternate A cap xs w h (by omega) (fun x hx => by have := HX.out x hx; omega)).mono ?_
        rintro e w' ⟨rfl, rfl⟩
        go_wp2_with fail
        go_ret
        exact ⟨ret_bool (by unfold rvB balB; rw [HV.out, HF.out, Bool.eq_iff_iff]; simp [HO.out]), rfl⟩
    · have d1 : (((xs.length : Int) % 2) == 0) = false := by simp; omega
      have HO := Lib.hid ho; clear ho
      go_enter Try.func34, Try.ntmps34
      go_wp2_with fail
      refine (spec_l2Lengths A cap xs w h hl).mono ?_
      rintro e w' ⟨rfl, rfl⟩
      rw [HV.out]
      go_wp2_with fail
      go_ret
      exact ⟨ret_bool (by unfold rvB; rw [HV.out]; simp [HO.out]), rfl⟩

def leastGo : Int → List Int → Int
  | m, [] => m
  | m, x :: r => leastGo (if x < m then x else m) r

set_option maxHeartbeats 800000 in
theorem spec_l1Least (A : Option Addr) (cap : Nat) (xs : List Int) (w : World) (h : Ints w A xs) (h0 : 0 < xs.length) (hl : xs.length ≤ maxLen) :
    Calls Try.prog 65 #[.slice A xs.length cap] w fun e w' => e = .returned (.int .i64 (leastGo (angleAt xs 0) xs)) ∧ w = w' := by
  unfold maxLen at hl
  obtain ⟨b, off, y, rfl, hb, HY, hc0, _⟩ := h.at_ (k := 0) h0
  have hy := angle_of HY.out
  rw [Nat.add_zero] at hc0
  rw [hy]
  clear HY hy
  go_enter Try.func65, Try.ntmps65
  go_wp2_with fail
  go_loop [3, 4] (fun m i => ∃ (k : Nat) (v : Int), k ≤ xs.length ∧ i = .int .i64 k ∧ m = .int .i64 v ∧ Hid (leastGo y xs = leastGo v (xs.drop k))) (fun _ i => xs.length - (intOf i).toNat)
  case atStart => exact ⟨0, y, Nat.zero_le _, rfl, rfl, rfl⟩
  case round =>
    obtain ⟨k, v, hk, rfl, rfl, H⟩ := hrel
    by_cases hlt : k < xs.length
    · obtain ⟨b2, off2, x, e2, hb2, HX, hc, hm⟩ := h.at_ hlt
      injection e2 with e2
      injection e2 with e3 e4
      subst e3 e4
      clear hm
      go_wp2_with fail
      go_round
      case rel => exact ⟨k + 1, if x < v then x else v, by omega, by go_num, rfl, H.out.trans (by rw [HX.out, leastGo])⟩
      case measure => simp [intOf]; omega
    · go_wp2_with fail
      go_ret
      have e : xs.drop k = [] := List.drop_of_length_le (by omega)
      exact ⟨ret_int (by rw [H.out, e, leastGo]), rfl⟩
end Go.Proofs.Ytngpeehjjcgmmaa
