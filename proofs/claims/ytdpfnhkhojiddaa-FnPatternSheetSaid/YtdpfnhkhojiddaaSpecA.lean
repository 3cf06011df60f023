/- The reference's tests of angles, folds and lengths. No condition but sizes. -/
import Derived.Test.YtdpfnhkhojiddaaImplB
namespace Go.Proofs.Ytdpfnhkhojiddaa
open Go.RowKit

def inB (n lo hi : Int) : Bool := decide (lo ≤ n) && decide (n ≤ hi)
theorem inB_yes {n lo hi : Int} (h1 : lo ≤ n) (h2 : n ≤ hi) : inB n lo hi = true := by unfold inB; simp [h1, h2]
theorem inB_low {n lo hi : Int} (h1 : n < lo) : inB n lo hi = false := by unfold inB; simp; intro h; omega
theorem inB_high {n lo hi : Int} (h1 : hi < n) : inB n lo hi = false := by unfold inB; simp; intro _; omega

set_option maxHeartbeats 400000 in
theorem spec_l6In (n lo hi : Int) (w : World) :
    Calls Try.prog 19 #[.int .i64 n, .int .i64 lo, .int .i64 hi] w fun e w' => e = .returned (.bool (inB n lo hi)) ∧ w = w' := by
  by_cases h1 : lo ≤ n
  · have d1 : decide (lo ≤ n) = true := by simp; omega
    by_cases h2 : n ≤ hi
    · have d2 : decide (n ≤ hi) = true := by simp; omega
      go_enter Try.func19, Try.ntmps19
      go_wp2
      go_ret
      exact ⟨ret_bool (inB_yes h1 h2).symm, rfl⟩
    · have d2 : decide (n ≤ hi) = false := by simp; omega
      go_enter Try.func19, Try.ntmps19
      go_wp2
      go_ret
      exact ⟨ret_bool (inB_high (by omega)).symm, rfl⟩
  · have d1 : decide (lo ≤ n) = false := by simp; omega
    go_enter Try.func19, Try.ntmps19
    go_wp2
    go_ret
    exact ⟨ret_bool (inB_low (by omega)).symm, rfl⟩

end Go.Proofs.Ytdpfnhkhojiddaa
