/- The laws that the program's VertexMany and VertexFirst are the reference's: the walks of the laws themselves. No condition but sizes. -/
import Derived.Test.YtanpdmdcgkcabaaVMany
import Derived.Test.YtanpdmdcgkcabaaLawA
namespace Go.Proofs.Ytanpdmdcgkcabaa
open Go.RowKit

set_option maxHeartbeats 1000000 in
theorem law_FnExactVertexMany (A : Option Addr) (cap : Nat) (xs : List Int) (w : World) (h : Ints w A xs) (hcap : xs.length ≤ cap) (hcm : cap ≤ maxLen) :
    Calls Try.prog 7 #[.slice A xs.length cap] w fun e w' => e = .returned (.bool true) ∧ Below w.heap.size w w' := by
  have hlm : xs.length ≤ maxLen := Nat.le_trans hcap hcm
  have hlm2 := hlm
  unfold maxLen at hlm2
  by_cases g1 : 1048576 < xs.length
  · have d1 : decide ((1048576 : Int) < (xs.length : Int)) = true := by simp; omega
    go_enter Try.func7, Try.ntmps7
    go_wp2_with fail
    go_ret
    exact ⟨rfl, Below.refl _ _⟩
  · have d1 : decide ((1048576 : Int) < (xs.length : Int)) = false := by simp; omega
    have e1 : (vmI xs == vmI xs) = true := by simp
    go_enter Try.func7, Try.ntmps7
    go_wp2_with fail
    refine (laws_toIntS A cap xs w h (by omega)).mono ?_
    rintro e w1 ⟨v1, rfl, hown1, hb1⟩
    obtain ⟨A1, c1, rfl, hI1, hc1, hm1⟩ := hown1.form
    clear hown1
    go_wp2_with fail
    refine (spec_VertexMany A1 c1 xs w1 hI1 hlm hc1 hm1).mono ?_
    rintro e w2 ⟨rfl, hb2⟩
    have b2 := below_from hb1 hb2 hb1.size
    clear hb1 hb2 hI1
    go_wp2_with fail
    refine (laws_toIntS A cap xs w2 (h.below b2) (by omega)).mono ?_
    rintro e w3 ⟨v3, rfl, hown3, hb3⟩
    obtain ⟨A3, c3, rfl, hI3, hc3, hm3⟩ := hown3.form
    clear hown3
    have b3 := below_from b2 hb3 b2.size
    clear b2 hb3
    go_wp2_with fail
    refine (impl_VertexMany A3 c3 xs w3 hI3 hlm).mono ?_
    rintro e w4 ⟨rfl, hb4⟩
    have hI4 := hI3.below hb4
    have b4 := below_from b3 hb4 b3.size
    clear b3 hb4 hI3
    go_wp2_with fail
    refine (laws_toIntS A cap xs w4 (h.below b4) (by omega)).mono ?_
    rintro e w5 ⟨v5, rfl, hown5, hb5⟩
    obtain ⟨A5, c5, rfl, hI5, hc5, hm5⟩ := hown5.form
    clear hown5
    have hI4' := hI4.below hb5
    have b5 := below_from b4 hb5 b4.size
    clear b4 hb5 hI4
    go_wp2_with fail
    refine (laws_eqIntS A3 A5 c3 c5 xs xs w5 hI4' hI5 hlm hlm).mono ?_
    rintro e w6 ⟨rfl, m, rfl⟩
    rw [decide_eq_true (rfl : xs = xs)]
    go_wp2_with fail
    go_ret
    exact ⟨rfl, below_drewN b5 _⟩

set_option maxHeartbeats 1000000 in
theorem law_FnExactVertexFirst (A : Option Addr) (cap : Nat) (xs : List Int) (w : World) (h : Ints w A xs) (hcap : xs.length ≤ cap) (hcm : cap ≤ maxLen) :
    Calls Try.prog 6 #[.slice A xs.length cap] w fun e w' => e = .returned (.bool true) ∧ Below w.heap.size w w' := by
  have hlm : xs.length ≤ maxLen := Nat.le_trans hcap hcm
  have hlm2 := hlm
  unfold maxLen at hlm2
  by_cases g1 : 1048576 < xs.length
  · have d1 : decide ((1048576 : Int) < (xs.length : Int)) = true := by simp; omega
    go_enter Try.func6, Try.ntmps6
    go_wp2_with fail
    go_ret
    exact ⟨rfl, Below.refl _ _⟩
  · have d1 : decide ((1048576 : Int) < (xs.length : Int)) = false := by simp; omega
    have e1 : ((vfoT xs).toList == (vfoT xs).toList) = true := by simp
    have e2 : ((vfo xs).isSome != (vfo xs).isSome) = false := by simp
    go_enter Try.func6, Try.ntmps6
    go_wp2_with fail
    refine (laws_toIntS A cap xs w h (by omega)).mono ?_
    rintro e w1 ⟨v1, rfl, hown1, hb1⟩
    obtain ⟨A1, c1, rfl, hI1, hc1, hm1⟩ := hown1.form
    clear hown1
    go_wp2_with fail
    refine (spec_VertexFirst A1 c1 xs w1 hI1 hlm hc1 hm1).mono ?_
    rintro e w2 ⟨rfl, hb2⟩
    have b2 := below_from hb1 hb2 hb1.size
    clear hb1 hb2 hI1
    go_wp2_with fail
    refine (laws_toIntS A cap xs w2 (h.below b2) (by omega)).mono ?_
    rintro e w3 ⟨v3, rfl, hown3, hb3⟩
    obtain ⟨A3, c3, rfl, hI3, hc3, hm3⟩ := hown3.form
    clear hown3
    have b3 := below_from b2 hb3 b2.size
    clear b2 hb3
    go_wp2_with fail
    refine (impl_VertexFirst A3 c3 xs w3 hI3 hlm).mono ?_
    rintro e w4 ⟨rfl, hb4⟩
    have hI4 := hI3.below hb4
    have b4 := below_from b3 hb4 b3.size
    clear b3 hb4 hI3
    go_wp2_with fail
    refine (laws_toIntS A cap xs w4 (h.below b4) (by omega)).mono ?_
    rintro e w5 ⟨v5, rfl, hown5, hb5⟩
    obtain ⟨A5, c5, rfl, hI5, hc5, hm5⟩ := hown5.form
    clear hown5
    have hI4' := hI4.below hb5
    have b5 := below_from b4 hb5 b4.size
    clear b4 hb5 hI4
    go_wp2_with fail
    refine (laws_eqIntS A3 A5 c3 c5 xs xs w5 hI4' hI5 hlm hlm).mono ?_
    rintro e w6 ⟨rfl, m, rfl⟩
    rw [decide_eq_true (rfl : xs = xs)]
    go_wp2_with fail
    go_ret
    exact ⟨rfl, below_drewN b5 _⟩

end Go.Proofs.Ytanpdmdcgkcabaa
