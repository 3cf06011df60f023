/- The law that the program's WordNth is the reference's: the walk of the law itself. No condition. -/
import Derived.Test.YtfhogdbhfbnocaaWordE
namespace Go.Proofs.Ytfhogdbhfbnocaa
open Go.RowKit

set_option maxHeartbeats 1000000 in
theorem law_FnExactWordNth (n z : Int) (w : World) :
    Calls Try.prog 3 #[.int .i64 n, .int .i64 z] w fun e w' => e = .returned (.bool true) ∧ Below w.heap.size w w' := by
  obtain ⟨T, hT⟩ : ∃ T, T = bts ((wOf n z).getD []) := ⟨_, rfl⟩
  obtain ⟨b, hb⟩ : ∃ b, b = (wOf n z).isSome := ⟨_, rfl⟩
  have hTT : (T.toList != T.toList) = false := by simp
  have hTT2 : (T.toList == T.toList) = true := by simp
  have hbb : (b != b) = false := by cases b <;> rfl
  have h1 := spec_WordNth n z w
  rw [← hT, ← hb] at h1
  have h2 := fun W => impl_WordNth n z W
  rw [← hT, ← hb] at h2
  have H1 := Lib.hid h1
  have H2 := Lib.hid h2
  clear hT hb h1 h2
  go_enter Try.func3, Try.ntmps3
  go_wp2_with fail
  refine H1.out.mono ?_
  rintro e w1 ⟨rfl, hb1⟩
  go_wp2_with fail
  refine (H2.out w1).mono ?_
  rintro e w2 ⟨rfl, hb2⟩
  have b2 := below_from hb1 hb2 hb1.size
  go_wp2_with fail
  go_ret
  exact ⟨rfl, b2⟩
end Go.Proofs.Ytfhogdbhfbnocaa
