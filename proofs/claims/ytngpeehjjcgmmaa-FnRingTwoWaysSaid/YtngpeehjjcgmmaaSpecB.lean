/- The reference's sums and tests of angles, lengths and rings. No condition but sizes. -/
import Derived.Test.YtngpeehjjcgmmaaSpecA
namespace Go.Proofs.Ytngpeehjjcgmmaa
open Go.RowKit

set_option maxHeartbeats 400000 in
theorem spec_l1Sum (A : Option Addr) (cap : Nat) (xs : List Int) (w : World) (h : Ints w A xs) (hl : xs.length ≤ 1000) (hx : ∀ x ∈ xs, -1000000 ≤ x ∧ x ≤ 1000000) :
    Calls Try.prog 62 #[.slice A xs.length cap] w fun e w' => e = .returned (.int .i64 xs.sum) ∧ w = w' := by
  go_enter Try.func62, Try.ntmps62
  go_wp2
  go_loop [3, 4] (fun s i => ∃ (k : Nat) (v : Int), k ≤ xs.length ∧ i = .int .i64 k ∧ s = .int .i64 v ∧ -1000000 * (k : Int) ≤ v ∧ v ≤ 1000000 * (k : Int) ∧ Hid (sumGo 0 xs = sumGo v (xs.drop k))) (fun _ i => xs.length - (intOf i).toNat)
  case atStart => exact ⟨0, 0, Nat.zero_le _, rfl, rfl, by simp, by simp, rfl⟩
  case round =>
    obtain ⟨k, v, hk, rfl, rfl, b1, b2, H⟩ := hrel
    by_cases hlt : k < xs.length
    · obtain ⟨b, off, x, rfl, hb, HX, hc, hm⟩ := h.at_ hlt
      obtain ⟨x1, x2⟩ := hx x hm
      clear hx hm
      go_wp2
      go_round
      case rel => exact ⟨k + 1, v + x, by omega, by go_num, rfl, by omega, by omega, H.out.trans (by rw [HX.out, sumGo])⟩
      case measure => simp [intOf]; omega
    · go_wp2
      go_ret
      have e : xs.drop k = [] := List.drop_of_length_le (by omega)
      exact ⟨ret_int (by have := H.out; rw [e, sumGo, sumGo_eq] at this; omega), rfl⟩

set_option maxHeartbeats 400000 in
theorem spec_l1Alternate (A : Option Addr) (cap : Nat) (xs : List Int) (w : World) (h : Ints w A xs) (hl : xs.length ≤ 100) (hx : ∀ x ∈ xs, 0 ≤ x ∧ x ≤ 1000) :
    Calls Try.prog 45 #[.slice A xs.length cap] w fun e w' => e = .returned (.int .i64 (balGo 0 0 xs)) ∧ w = w' := by
  go_enter Try.func45, Try.ntmps45
  go_wp2
  go_loop [3, 4] (fun s i => ∃ (k : Nat) (v : Int), k ≤ xs.length ∧ i = .int .i64 k ∧ s = .int .i64 v ∧ -1000 * (k : Int) ≤ v ∧ v ≤ 1000 * (k : Int) ∧ Hid (balGo 0 0 xs = balGo k v (xs.drop k))) (fun _ i => xs.length - (intOf i).toNat)
  case atStart => exact ⟨0, 0, Nat.zero_le _, rfl, rfl, by simp, by simp, rfl⟩
  case round =>
    obtain ⟨k, v, hk, rfl, rfl, b1, b2, H⟩ := hrel
    by_cases hlt : k < xs.length
    · obtain ⟨b, off, x, rfl, hb, HX, hc, hm⟩ := h.at_ hlt
      obtain ⟨x1, x2⟩ := hx x hm
      clear hx hm
      by_cases hp : k % 2 = 0
      · have HP := Lib.hid hp; clear hp
        have hpk : (((k : Int) % 2) == 0) = true := by have := HP.out; simp; omega
        go_wp2
        go_round
        case rel => exact ⟨k + 1, v + x, by omega, by go_num, rfl, by omega, by omega, H.out.trans (by rw [HX.out, balGo, if_pos HP.out])⟩
        case measure => simp [intOf]; omega
      · have HP := Lib.hid hp; clear hp
        have hpk : (((k : Int) % 2) == 0) = false := by have := HP.out; simp; omega
        go_wp2
        go_round
        case rel => exact ⟨k + 1, v - x, by omega, by go_num, rfl, by omega, by omega, H.out.trans (by rw [HX.out, balGo, if_neg HP.out])⟩
        case measure => simp [intOf]; omega
    · go_wp2
      go_ret
      have e : xs.drop k = [] := List.drop_of_length_le (by omega)
      exact ⟨ret_int (by rw [H.out, e, balGo]), rfl⟩
def inAll (lo hi : Int) : List Int → Bool
  | [] => true
  | x :: r => if inB x lo hi then inAll lo hi r else false
theorem inAll_eq (lo hi : Int) (l : List Int) : l.all (fun x => decide (lo ≤ x) && decide (x ≤ hi)) = inAll lo hi l := by
  induction l with
  | nil => rfl
  | cons x r ih =>
    rw [List.all_cons, ih, inAll]
    show (inB x lo hi && _) = _
    cases inB x lo hi <;> rfl

set_option maxHeartbeats 800000 in
theorem spec_AnglesValid (A : Option Addr) (cap : Nat) (xs : List Int) (w : World) (h : Ints w A xs) (hl : xs.length ≤ maxLen) :
    Calls Try.prog 37 #[.slice A xs.length cap] w fun e w' => e = .returned (.bool (avB xs)) ∧ w = w' := by
  unfold maxLen at hl
  go_enter Try.func37, Try.ntmps37
  go_wp2_with fail
  go_loop [3] (fun i => ∃ (k : Nat), k ≤ xs.length ∧ i = .int .i64 k ∧ Hid (inAll 1 360 xs = inAll 1 360 (xs.drop k))) (fun i => xs.length - (intOf i).toNat)
  case atStart => exact ⟨0, Nat.zero_le _, rfl, rfl⟩
  case round =>
    obtain ⟨k, hk, rfl, H⟩ := hrel
    by_cases hlt : k < xs.length
    · obtain ⟨b, off, x, rfl, hb, HX, hc, hm⟩ := h.at_ hlt
      clear hm
      go_wp2_with fail
      refine (spec_l6In x 1 360 w).mono ?_
      rintro e w' ⟨rfl, rfl⟩
      cases hi : inB x 1 360 with
      | false =>
        have HI := Lib.hid hi; clear hi
        go_wp2_with fail
        go_ret
        exact ⟨ret_bool (by unfold avB; rw [inAll_eq, H.out, HX.out, inAll, HI.out]; simp), rfl⟩
      | true =>
        have HI := Lib.hid hi; clear hi
        go_wp2_with fail
        go_round
        case rel => exact ⟨k + 1, by omega, by go_num, H.out.trans (by rw [HX.out, inAll, if_pos HI.out])⟩
        case measure => simp [intOf]; omega
    · have e : xs.drop k = [] := List.drop_of_length_le (by omega)
      have hall : inAll 1 360 xs = true := by rw [H.out, e]; rfl
      have hall2 := hall
      rw [← inAll_eq] at hall2
      have hb : ∀ x ∈ xs, 1 ≤ x ∧ x ≤ 360 := by simpa using hall2
      have HA := Lib.hid hall
      have HB := Lib.hid hb
      clear hall hall2 hb e
      by_cases g3 : xs.length % 2 = 0
      · have d3 : (((xs.length : Int) % 2) == 0) = true := by simp; omega
        have G := Lib.hid g3; clear g3
        go_wp2_with fail
        refine (spec_l6In xs.length 2 10 w).mono ?_
        rintro e w' ⟨rfl, rfl⟩
        cases hi : inB xs.length 2 10 with
        | false =>
          have HI := Lib.hid hi; clear hi
          go_wp2_with fail
          go_ret
          exact ⟨ret_bool (by
            have h2 := HI.out
            have e3 : (decide (2 ≤ xs.length) && decide (xs.length ≤ 10)) = false := by
              unfold inB at h2; revert h2; simp; intro a b; omega
            unfold avB
            rw [Bool.and_assoc (decide (xs.length % 2 = 0)), e3]; simp), rfl⟩
        | true =>
          have hlen : 2 ≤ xs.length ∧ xs.length ≤ 10 := by
            unfold inB at hi; simp at hi; omega
          have HI := Lib.hid hi; clear hi
          go_wp2_with fail
          refine (spec_l1Sum A cap xs w h (by omega) (fun x hx => by have := HB.out x hx; omega)).mono ?_
          rintro e w' ⟨rfl, rfl⟩
          go_wp2_with fail
          go_ret
          exact ⟨ret_bool (by unfold avB; rw [inAll_eq, HA.out, Bool.eq_iff_iff]; have := G.out; simp; omega), rfl⟩
      · have d3 : (((xs.length : Int) % 2) == 0) = false := by simp; omega
        have G := Lib.hid g3; clear g3
        go_wp2_with fail
        go_ret
        exact ⟨ret_bool (by have := G.out; unfold avB; simp; omega), rfl⟩

end Go.Proofs.Ytngpeehjjcgmmaa
