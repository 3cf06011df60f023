/- The laws that the program's PatternValid and PatternCreases are the reference's: the walks of the laws themselves. No condition but sizes. -/
import Derived.Test.YtmadagkdgpohiaaPatK
import Derived.Test.YtmadagkdgpohiaaVertC
namespace Go.Proofs.Ytmadagkdgpohiaa
open Go.RowKit

theorem szB_ok {xs : List Int} {left : Int} (h : 0 ≤ szB xs left) : (xs.length : Int) ≤ left ∧ szB xs left = left - xs.length := by
  unfold szB at h ⊢
  by_cases e : left - xs.length < 0
  · rw [if_pos e] at h; omega
  · rw [if_neg e]; omega
theorem szV_ok {v : Vx} {left : Int} (h : 0 ≤ szV v left) : (v.1.length : Int) ≤ left ∧ (v.2.length : Int) ≤ left ∧ szV v left ≤ left := by
  unfold szV at h ⊢
  by_cases e : szB v.1 left < 0
  · rw [if_pos e] at h; omega
  · rw [if_neg e] at h ⊢
    have h1 := szB_ok (by omega : 0 ≤ szB v.1 left)
    have h2 := szB_ok h
    omega
theorem szGo_ok {vs : List Vx} {left : Int} (h : 0 ≤ szGo vs left) : ∀ v ∈ vs, (v.1.length : Int) ≤ left ∧ (v.2.length : Int) ≤ left := by
  induction vs generalizing left with
  | nil => intro v hv; cases hv
  | cons v r ih =>
    rw [szGo] at h
    by_cases e : szV v left < 0
    · rw [if_pos e] at h; omega
    · rw [if_neg e] at h
      have h1 := szV_ok (by omega : 0 ≤ szV v left)
      intro u hu
      rcases List.mem_cons.1 hu with rfl | hu
      · exact ⟨h1.1, h1.2.1⟩
      · have := ih h u hu
        omega
theorem szL_ok {vs : List Vx} (h : 0 ≤ szL vs 1048576) : vs.length ≤ 1048576 ∧ ∀ v ∈ vs, v.1.length ≤ 1048576 ∧ v.2.length ≤ 1048576 := by
  unfold szL at h
  by_cases e : (1048576 : Int) - vs.length < 0
  · rw [if_pos e] at h; omega
  · rw [if_neg e] at h
    refine ⟨by omega, fun v hv => ?_⟩
    have := szGo_ok h v hv
    omega

set_option maxHeartbeats 1000000 in
theorem law_FnExactPatternValid (A : Option Addr) (cap : Nat) (vs : List Vx) (w : World) (h : Verts w A vs) (hl : vs.length ≤ maxLen) :
    Calls Try.prog 3 #[.slice A vs.length cap] w fun e w' => e = .returned (.bool true) ∧ Below w.heap.size w w' := by
  obtain ⟨z, hz⟩ : ∃ z, z = szL vs 1048576 := ⟨_, rfl⟩
  have HZ := Lib.hid hz
  clear hz
  have q1 : (patB vs != patB vs) = false := by simp
  go_enter Try.func3, Try.ntmps3
  go_wp2_with fail
  refine (laws_szVertexS A cap vs 1048576 w h hl (by omega) (by omega)).mono ?_
  rintro e w1 ⟨rfl, hb1⟩
  rw [← HZ.out]
  by_cases g : z < 0
  · have d : decide (z < 0) = true := by simp; omega
    go_wp2_with fail
    go_ret
    exact ⟨rfl, hb1⟩
  · have d : decide (z < 0) = false := by simp; omega
    have hok := szL_ok (vs := vs) (by rw [← HZ.out]; omega)
    obtain ⟨l1, l2⟩ := hok
    have L2 := Lib.hid l2
    clear l2
    go_wp2_with fail
    refine (laws_toVertexS A cap vs w1 (h.below hb1) l1 L2.out).mono ?_
    rintro e w2 ⟨R2, rfl, hr2, ht2, hb2⟩
    have hv2 := hr2.verts ht2
    have b2 := below_from hb1 hb2 hb1.size
    clear hr2 ht2 hb1 hb2
    go_wp2_with fail
    refine (spec_PatternValid _ vs.length vs w2 hv2 (by unfold maxLen; omega)).mono ?_
    rintro e w3 ⟨rfl, hb3⟩
    have b3 := below_from b2 hb3 b2.size
    clear b2 hb3 hv2
    go_wp2_with fail
    refine (laws_toVertexS A cap vs w3 (h.below b3) l1 L2.out).mono ?_
    rintro e w4 ⟨R4, rfl, hr4, ht4, hb4⟩
    have hv4 := hr4.verts ht4
    have b4 := below_from b3 hb4 b3.size
    clear hr4 ht4 b3 hb4
    go_wp2_with fail
    refine (impl_PatternValid _ vs.length vs w4 hv4 (by unfold maxLen; omega)).mono ?_
    rintro e w5 ⟨rfl, hb5⟩
    have hv5 := hv4.below hb5
    have b5 := below_from b4 hb5 b4.size
    clear b4 hb5 hv4
    go_wp2_with fail
    refine (laws_toVertexS A cap vs w5 (h.below b5) l1 L2.out).mono ?_
    rintro e w6 ⟨R6, rfl, hr6, ht6, hb6⟩
    have hv6 := hr6.verts ht6
    have hv6' := hv5.below hb6
    have b6 := below_from b5 hb6 b5.size
    clear hr6 ht6 b5 hb6 hv5
    go_wp2_with fail
    refine (laws_eqVertexS _ _ vs.length vs.length vs w6 hv6' hv6 l1).mono ?_
    rintro e w7 ⟨rfl, hb7⟩
    go_wp2_with fail
    go_ret
    exact ⟨rfl, below_from b6 hb7 b6.size⟩

set_option maxHeartbeats 1000000 in
theorem law_FnExactPatternCreases (A : Option Addr) (cap : Nat) (vs : List Vx) (w : World) (h : Verts w A vs) (hl : vs.length ≤ maxLen) :
    Calls Try.prog 4 #[.slice A vs.length cap] w fun e w' => e = .returned (.bool true) ∧ Below w.heap.size w w' := by
  obtain ⟨z, hz⟩ : ∃ z, z = szL vs 1048576 := ⟨_, rfl⟩
  have HZ := Lib.hid hz
  clear hz
  have q1 : (pcI vs != pcI vs) = false := by simp
  go_enter Try.func4, Try.ntmps4
  go_wp2_with fail
  refine (laws_szVertexS A cap vs 1048576 w h hl (by omega) (by omega)).mono ?_
  rintro e w1 ⟨rfl, hb1⟩
  rw [← HZ.out]
  by_cases g : z < 0
  · have d : decide (z < 0) = true := by simp; omega
    go_wp2_with fail
    go_ret
    exact ⟨rfl, hb1⟩
  · have d : decide (z < 0) = false := by simp; omega
    have hok := szL_ok (vs := vs) (by rw [← HZ.out]; omega)
    obtain ⟨l1, l2⟩ := hok
    have L2 := Lib.hid l2
    clear l2
    go_wp2_with fail
    refine (laws_toVertexS A cap vs w1 (h.below hb1) l1 L2.out).mono ?_
    rintro e w2 ⟨R2, rfl, hr2, ht2, hb2⟩
    have hv2 := hr2.verts ht2
    have b2 := below_from hb1 hb2 hb1.size
    clear hr2 ht2 hb1 hb2
    go_wp2_with fail
    refine (spec_PatternCreases _ vs.length vs w2 hv2 (by unfold maxLen; omega)).mono ?_
    rintro e w3 ⟨rfl, hb3⟩
    have b3 := below_from b2 hb3 b2.size
    clear b2 hb3 hv2
    go_wp2_with fail
    refine (laws_toVertexS A cap vs w3 (h.below b3) l1 L2.out).mono ?_
    rintro e w4 ⟨R4, rfl, hr4, ht4, hb4⟩
    have hv4 := hr4.verts ht4
    have b4 := below_from b3 hb4 b3.size
    clear hr4 ht4 b3 hb4
    go_wp2_with fail
    refine (impl_PatternCreases _ vs.length vs w4 hv4 (by unfold maxLen; omega)).mono ?_
    rintro e w5 ⟨rfl, hb5⟩
    have hv5 := hv4.below hb5
    have b5 := below_from b4 hb5 b4.size
    clear b4 hb5 hv4
    go_wp2_with fail
    refine (laws_toVertexS A cap vs w5 (h.below b5) l1 L2.out).mono ?_
    rintro e w6 ⟨R6, rfl, hr6, ht6, hb6⟩
    have hv6 := hr6.verts ht6
    have hv6' := hv5.below hb6
    have b6 := below_from b5 hb6 b5.size
    clear hr6 ht6 b5 hb6 hv5
    go_wp2_with fail
    refine (laws_eqVertexS _ _ vs.length vs.length vs w6 hv6' hv6 l1).mono ?_
    rintro e w7 ⟨rfl, hb7⟩
    go_wp2_with fail
    go_ret
    exact ⟨rfl, below_from b6 hb7 b6.size⟩

end Go.Proofs.Ytmadagkdgpohiaa
