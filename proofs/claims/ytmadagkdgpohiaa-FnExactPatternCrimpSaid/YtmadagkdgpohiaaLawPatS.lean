/- The law that the program's PatternCrimp is the reference's: the walk of the law itself. No condition but sizes. -/
import Derived.Test.YtmadagkdgpohiaaPatS
import Derived.Test.YtmadagkdgpohiaaLawPat
namespace Go.Proofs.Ytmadagkdgpohiaa
open Go.RowKit

set_option maxHeartbeats 1000000 in
theorem law_FnExactPatternCrimp (A : Option Addr) (cap : Nat) (vs : List Vx) (s : ByteArray) (w : World) (h : Verts w A vs) (hl : vs.length ≤ maxLen) (hs : s.size ≤ maxLen) :
    Calls Try.prog 8 #[.slice A vs.length cap, .string s] w fun e w' => e = .returned (.bool true) ∧ Below w.heap.size w w' := by
  have hsm := hs
  unfold maxLen at hsm
  by_cases g0 : 1048576 < s.size
  · have d0 : decide ((1048576 : Int) < (s.size : Int)) = true := by simp; omega
    go_enter Try.func8, Try.ntmps8
    go_wp2_with fail
    go_ret
    exact ⟨rfl, Below.refl _ _⟩
  have d0 : decide ((1048576 : Int) < (s.size : Int)) = false := by simp; omega
  obtain ⟨z, hz⟩ : ∃ z, z = szL vs 1048576 := ⟨_, rfl⟩
  have HZ := Lib.hid hz
  clear hz
  have q1 : (pcrI vs s != pcrI vs s) = false := by simp
  go_enter Try.func8, Try.ntmps8
  go_wp2_with fail
  refine (laws_szVertexS A cap vs 1048576 w h hl (by omega) (by omega)).mono ?_
  rintro e w1 ⟨rfl, hb1⟩
  rw [← HZ.out]
  by_cases g : z < 0
  · have d : decide (z < 0) = true := by simp; omega
    go_wp2_with fail
    go_ret
    exact ⟨rfl, hb1⟩
  · have d : decide (z < 0) = false := by simp; omega
    have hok := szL_ok (vs := vs) (by rw [← HZ.out]; omega)
    obtain ⟨l1, l2⟩ := hok
    have L2 := Lib.hid l2
    clear l2
    go_wp2_with fail
    refine (laws_toVertexS A cap vs w1 (h.below hb1) l1 L2.out).mono ?_
    rintro e w2 ⟨R2, rfl, hr2, ht2, hb2⟩
    have hv2 := hr2.verts ht2
    have b2 := below_from hb1 hb2 hb1.size
    clear hr2 ht2 hb1 hb2
    go_wp2_with fail
    refine (spec_PatternCrimp _ vs.length vs s w2 hv2 (by unfold maxLen; omega) hs).mono ?_
    rintro e w3 ⟨rfl, hb3⟩
    have b3 := below_from b2 hb3 b2.size
    clear b2 hb3 hv2
    go_wp2_with fail
    refine (laws_toVertexS A cap vs w3 (h.below b3) l1 L2.out).mono ?_
    rintro e w4 ⟨R4, rfl, hr4, ht4, hb4⟩
    have hv4 := hr4.verts ht4
    have b4 := below_from b3 hb4 b3.size
    clear hr4 ht4 b3 hb4
    go_wp2_with fail
    refine (impl_PatternCrimp _ vs.length vs s w4 hv4 (by unfold maxLen; omega) hs (Nat.le_refl _) (by unfold maxLen; omega)).mono ?_
    rintro e w5 ⟨rfl, hb5⟩
    have hv5 := hv4.below hb5
    have b5 := below_from b4 hb5 b4.size
    clear b4 hb5 hv4
    go_wp2_with fail
    refine (laws_toVertexS A cap vs w5 (h.below b5) l1 L2.out).mono ?_
    rintro e w6 ⟨R6, rfl, hr6, ht6, hb6⟩
    have hv6 := hr6.verts ht6
    have hv6' := hv5.below hb6
    have b6 := below_from b5 hb6 b5.size
    clear hr6 ht6 b5 hb6 hv5
    go_wp2_with fail
    refine (laws_eqVertexS _ _ vs.length vs.length vs w6 hv6' hv6 l1).mono ?_
    rintro e w7 ⟨rfl, hb7⟩
    go_wp2_with fail
    go_ret
    exact ⟨rfl, below_from b6 hb7 b6.size⟩
end Go.Proofs.Ytmadagkdgpohiaa
