/- The program's tests of angles, folds and lengths. No condition but sizes. -/
import Derived.Test.YtngpeehjjcgmmaaBase
import Derived.Test.YtngpeehjjcgmmaaPlain
namespace Go.Proofs.Ytngpeehjjcgmmaa
open Go.RowKit

set_option maxHeartbeats 400000 in
theorem impl_balanced (A : Option Addr) (cap : Nat) (xs : List Int) (w : World) (h : Ints w A xs) (hl : xs.length ≤ 100) (hx : ∀ x ∈ xs, 0 ≤ x ∧ x ≤ 1000) :
    Calls Try.prog 27 #[.slice A xs.length cap] w fun e w' => e = .returned (.bool (balB xs)) ∧ w = w' := by
  go_enter Try.func27, Try.ntmps27
  go_wp2
  go_loop [3, 8] (fun s i => ∃ (k : Nat) (v : Int), k ≤ xs.length ∧ i = .int .i64 k ∧ s = .int .i64 v ∧ -1000 * (k : Int) ≤ v ∧ v ≤ 1000 * (k : Int) ∧ Hid (balGo 0 0 xs = balGo k v (xs.drop k))) (fun _ i => xs.length - (intOf i).toNat)
  case atStart => exact ⟨0, 0, Nat.zero_le _, rfl, rfl, by simp, by simp, rfl⟩
  case round =>
    obtain ⟨k, v, hk, rfl, rfl, b1, b2, H⟩ := hrel
    by_cases hlt : k < xs.length
    · obtain ⟨b, off, x, rfl, hb, HX, hc, hm⟩ := h.at_ hlt
      obtain ⟨x1, x2⟩ := hx x hm
      clear hx hm
      by_cases hp : k % 2 = 0
      · have HP := Lib.hid hp; clear hp
        have hpk : (((k : Int) % 2) == 0) = true := by have := HP.out; simp; omega
        go_wp2
        go_round
        case rel => exact ⟨k + 1, v + x, by omega, by go_num, rfl, by omega, by omega, H.out.trans (by rw [HX.out, balGo, if_pos HP.out])⟩
        case measure => simp [intOf]; omega
      · have HP := Lib.hid hp; clear hp
        have hpk : (((k : Int) % 2) == 0) = false := by have := HP.out; simp; omega
        go_wp2
        go_round
        case rel => exact ⟨k + 1, v - x, by omega, by go_num, rfl, by omega, by omega, H.out.trans (by rw [HX.out, balGo, if_neg HP.out])⟩
        case measure => simp [intOf]; omega
    · go_wp2
      go_ret
      refine ⟨ret_bool ?_, rfl⟩
      have e : xs.drop k = [] := List.drop_of_length_le (by omega)
      unfold balB
      rw [H.out, e, balGo, Bool.eq_iff_iff]; simp

set_option maxHeartbeats 400000 in
theorem impl_AnglesValid (A : Option Addr) (cap : Nat) (xs : List Int) (w : World) (h : Ints w A xs) (hl : xs.length ≤ maxLen) :
    Calls Try.prog 26 #[.slice A xs.length cap] w fun e w' => e = .returned (.bool (avB xs)) ∧ w = w' := by
  unfold maxLen at hl
  by_cases g1 : xs.length < 2
  · have d1 : decide ((xs.length : Int) < 2) = true := by simp; omega
    go_enter Try.func26, Try.ntmps26
    go_wp2
    go_ret
    exact ⟨ret_bool (by unfold avB; simp; omega), rfl⟩
  · have d1 : decide ((xs.length : Int) < 2) = false := by simp; omega
    by_cases g2 : 10 < xs.length
    · have d2 : decide ((10 : Int) < (xs.length : Int)) = true := by simp; omega
      go_enter Try.func26, Try.ntmps26
      go_wp2
      go_ret
      exact ⟨ret_bool (by unfold avB; simp; omega), rfl⟩
    · have d2 : decide ((10 : Int) < (xs.length : Int)) = false := by simp; omega
      by_cases g3 : xs.length % 2 = 0
      · have d3 : (((xs.length : Int) % 2) != 0) = false := by simp; omega
        have G := Lib.hid (avB_go g3 (by omega) (by omega))
        clear g3
        go_enter Try.func26, Try.ntmps26
        go_wp2
        go_loop [4, 22] (fun s i => ∃ (k : Nat) (v : Int), k ≤ xs.length ∧ i = .int .i64 k ∧ s = .int .i64 v ∧ 0 ≤ v ∧ v ≤ 360 * (k : Int) ∧ Hid (avB xs = avGo v (xs.drop k))) (fun _ i => xs.length - (intOf i).toNat)
        case atStart => exact ⟨0, 0, Nat.zero_le _, rfl, rfl, by omega, by omega, G.out⟩
        case round =>
          obtain ⟨k, v, hk, rfl, rfl, b1, b2, H⟩ := hrel
          by_cases hlt : k < xs.length
          · obtain ⟨b, off, x, rfl, hb, HX, hc, hm⟩ := h.at_ hlt
            clear hm
            by_cases t1 : x < 1
            · have e1 : decide (x < 1) = true := by simp; omega
              go_wp2
              go_ret
              exact ⟨ret_bool (by rw [H.out, HX.out, avGo, if_pos t1]), rfl⟩
            · have e1 : decide (x < 1) = false := by simp; omega
              by_cases t2 : 360 < x
              · have e2 : decide ((360 : Int) < x) = true := by simp; omega
                go_wp2
                go_ret
                exact ⟨ret_bool (by rw [H.out, HX.out, avGo, if_neg (by omega), if_pos t2]), rfl⟩
              · have e2 : decide ((360 : Int) < x) = false := by simp; omega
                go_wp2
                go_round
                case rel => exact ⟨k + 1, v + x, by omega, by go_num, rfl, by omega, by omega, H.out.trans (by rw [HX.out, avGo, if_neg (by omega), if_neg (by omega)])⟩
                case measure => simp [intOf]; omega
          · go_wp2
            go_ret
            have e : xs.drop k = [] := List.drop_of_length_le (by omega)
            exact ⟨ret_bool (by rw [H.out, e, avGo, Bool.eq_iff_iff]; simp), rfl⟩
      · have d3 : (((xs.length : Int) % 2) != 0) = true := by rw [bne_iff_ne]; omega
        have G := Lib.hid g3
        clear g3
        go_enter Try.func26, Try.ntmps26
        go_wp2
        go_ret
        exact ⟨ret_bool (by have := G.out; unfold avB; simp; omega), rfl⟩

set_option maxHeartbeats 400000 in
theorem impl_AnglesCloses (A : Option Addr) (cap : Nat) (xs : List Int) (w : World) (h : Ints w A xs) (hl : xs.length ≤ maxLen) :
    Calls Try.prog 8 #[.slice A xs.length cap] w fun e w' => e = .returned (.bool (acB xs)) ∧ w = w' := by
  cases hv : avB xs with
  | false =>
    have HV := Lib.hid hv; clear hv
    go_enter Try.func8, Try.ntmps8
    go_wp2_with fail
    refine (impl_AnglesValid A cap xs w h hl).mono ?_
    rintro e w' ⟨rfl, rfl⟩
    rw [HV.out]
    go_wp2
    go_ret
    exact ⟨ret_bool (by unfold acB; rw [HV.out]; rfl), rfl⟩
  | true =>
    obtain ⟨_, _, h10, hx, _⟩ := avB_parts hv
    have HV := Lib.hid hv; clear hv
    have HX := Lib.hid hx; clear hx
    go_enter Try.func8, Try.ntmps8
    go_wp2_with fail
    refine (impl_AnglesValid A cap xs w h hl).mono ?_
    rintro e w' ⟨rfl, rfl⟩
    rw [HV.out]
    go_wp2_with fail
    refine (impl_balanced A cap xs w h (by omega) (fun x hx => by have := HX.out x hx; omega)).mono ?_
    rintro e w' ⟨rfl, rfl⟩
    go_wp2
    go_ret
    exact ⟨ret_bool (by unfold acB; rw [HV.out]; rfl), rfl⟩

end Go.Proofs.Ytngpeehjjcgmmaa
