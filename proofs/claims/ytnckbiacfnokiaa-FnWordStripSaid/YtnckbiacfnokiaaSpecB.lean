/- The reference's sums and tests of angles, lengths and rings. No condition but sizes. -/
import Derived.Test.YtnckbiacfnokiaaSpecA
namespace Go.Proofs.Ytnckbiacfnokiaa
open Go.RowKit


set_option maxHeartbeats 400000 in
theorem spec_l1Alternate (A : Option Addr) (cap : Nat) (xs : List Int) (w : World) (h : Ints w A xs) (hl : xs.length ≤ 100) (hx : ∀ x ∈ xs, 0 ≤ x ∧ x ≤ 1000) :
    Calls Try.prog 35 #[.slice A xs.length cap] w fun e w' => e = .returned (.int .i64 (balGo 0 0 xs)) ∧ w = w' := by
  go_enter Try.func35, Try.ntmps35
  go_wp2
  go_loop [3, 4] (fun s i => ∃ (k : Nat) (v : Int), k ≤ xs.length ∧ i = .int .i64 k ∧ s = .int .i64 v ∧ -1000 * (k : Int) ≤ v ∧ v ≤ 1000 * (k : Int) ∧ Hid (balGo 0 0 xs = balGo k v (xs.drop k))) (fun _ i => xs.length - (intOf i).toNat)
  case atStart => exact ⟨0, 0, Nat.zero_le _, rfl, rfl, by simp, by simp, rfl⟩
  case round =>
    obtain ⟨k, v, hk, rfl, rfl, b1, b2, H⟩ := hrel
    by_cases hlt : k < xs.length
    · obtain ⟨b, off, x, rfl, hb, HX, hc, hm⟩ := h.at_ hlt
      obtain ⟨x1, x2⟩ := hx x hm
      clear hx hm
      by_cases hp : k % 2 = 0
      · have HP := Lib.hid hp; clear hp
        have hpk : (((k : Int) % 2) == 0) = true := by have := HP.out; simp; omega
        go_wp2
        go_round
        case rel => exact ⟨k + 1, v + x, by omega, by go_num, rfl, by omega, by omega, H.out.trans (by rw [HX.out, balGo, if_pos HP.out])⟩
        case measure => simp [intOf]; omega
      · have HP := Lib.hid hp; clear hp
        have hpk : (((k : Int) % 2) == 0) = false := by have := HP.out; simp; omega
        go_wp2
        go_round
        case rel => exact ⟨k + 1, v - x, by omega, by go_num, rfl, by omega, by omega, H.out.trans (by rw [HX.out, balGo, if_neg HP.out])⟩
        case measure => simp [intOf]; omega
    · go_wp2
      go_ret
      have e : xs.drop k = [] := List.drop_of_length_le (by omega)
      exact ⟨ret_int (by rw [H.out, e, balGo]), rfl⟩

def inAll (lo hi : Int) : List Int → Bool
  | [] => true
  | x :: r => if inB x lo hi then inAll lo hi r else false
theorem inAll_eq (lo hi : Int) (l : List Int) : l.all (fun x => decide (lo ≤ x) && decide (x ≤ hi)) = inAll lo hi l := by
  induction l with
  | nil => rfl
  | cons x r ih =>
    rw [List.all_cons, ih, inAll]
    show (inB x lo hi && _) = _
    cases inB x lo hi <;> rfl


end Go.Proofs.Ytnckbiacfnokiaa
