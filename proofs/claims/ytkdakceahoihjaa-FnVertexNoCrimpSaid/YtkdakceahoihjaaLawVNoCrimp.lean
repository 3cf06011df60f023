/- The law that what folds can be crimped: the walk of the law itself. No condition but sizes. -/
import Derived.Test.YtkdakceahoihjaaDrawD
import Derived.Test.YtkdakceahoihjaaConfC
namespace Go.Proofs.Ytkdakceahoihjaa
open Go.RowKit

theorem vf_crimps {xs : List Int} {s : ByteArray} (h : vfB xs s = true) : xs.length = 2 ∨ 0 < (vcL xs s).length := by
  have h0 := h
  unfold vfB at h
  simp only [Bool.and_eq_true] at h
  obtain ⟨⟨h1, h2⟩, h3⟩ := h
  have ha := (acB_iff xs).1 h1
  unfold ffB at h3
  rw [foldsN] at h3
  cases hc : firstC xs.length (angleAt xs) (byteAt s) with
  | none =>
    rw [hc] at h3
    simp only [Bool.and_eq_true, decide_eq_true_eq] at h3
    exact Or.inl h3.1
  | some i =>
    right
    obtain ⟨⟨r, hr⟩, _⟩ := crimps_some hc
    unfold vcL
    rw [ha.1, h2]
    simp only [Bool.and_self, if_true]
    rw [hr]; simp

set_option maxHeartbeats 1000000 in
theorem law_FnVertexNoCrimp (A : Option Addr) (cap : Nat) (bs : List UInt8) (w : World) (h : Codes w w.heap.size A bs) (hcap : bs.length ≤ cap) (hcm : cap ≤ maxLen) :
    Calls Try.prog 3 #[.slice A bs.length cap] w fun e w' => e = .returned (.bool true) ∧ Below w.heap.size w w' := by
  have hlm : bs.length ≤ maxLen := Nat.le_trans hcap hcm
  have hlm2 := hlm
  unfold maxLen at hlm2
  by_cases g1 : 1048576 < bs.length
  · have d1 : decide ((1048576 : Int) < (bs.length : Int)) = true := by simp; omega
    go_enter Try.func3, Try.ntmps3
    go_wp2_with fail
    go_ret
    exact ⟨rfl, Below.refl _ _⟩
  · have d1 : decide ((1048576 : Int) < (bs.length : Int)) = false := by simp; omega
    go_enter Try.func3, Try.ntmps3
    go_wp2_with fail
    refine (spec_DrawVertexFolds w A cap bs h (by omega) hcap hcm).mono ?_
    rintro e w1 ⟨B, xs, c, s, rfl, hI, hc, hcmx, hx10, hSm, hs, hb1⟩
    clear hSm
    go_wp2_with fail
    refine (impl_VertexFolds B c xs s w1 hI (by unfold maxLen; omega) (by unfold maxLen; omega)).mono ?_
    rintro e w2 ⟨rfl, hb2⟩
    have b2 := below_from hb1 hb2 hb1.size
    have hI2 := hI.below hb2
    clear hb1 hb2 hI
    go_wp2_with fail
    refine (spec_VertexFolds B c xs s w2 hI2 (by unfold maxLen; omega) (by unfold maxLen; omega) hc hcmx).mono ?_
    rintro e w3 ⟨rfl, hb3⟩
    have b3 := below_from b2 hb3 b2.size
    have hI3 := hI2.below hb3
    clear b2 hb3 hI2
    cases hv : vfB xs s with
    | false =>
      have HV := Lib.hid hv
      clear hv
      go_wp2_with fail
      go_ret
      exact ⟨rfl, b3⟩
    | true =>
      have hor := vf_crimps hv
      have HV := Lib.hid hv
      clear hv
      by_cases h2 : xs.length = 2
      · have d2 : ((xs.length : Int) == 2) = true := by simp [h2]
        have H2 := Lib.hid h2
        clear h2 hor
        go_wp2_with fail
        go_ret
        exact ⟨rfl, b3⟩
      · have d2 : ((xs.length : Int) == 2) = false := by rw [beq_eq_false_iff_ne]; omega
        have hpos : 0 < (vcL xs s).length := by omega
        clear hor h2
        go_wp2_with fail
        refine (impl_VertexCrimps B c xs s w3 hI3 (by unfold maxLen; omega) (by unfold maxLen; omega)).mono ?_
        rintro e w4 ⟨v, rfl, hown, hb4⟩
        obtain ⟨V, cv, rfl, _, _, _⟩ := hown.form
        have b4 := below_from b3 hb4 b3.size
        have d3 : decide ((0 : Int) < ((vcL xs s).length : Int)) = true := by simp; omega
        go_wp2_with fail
        go_ret
        exact ⟨rfl, b4⟩

end Go.Proofs.Ytkdakceahoihjaa
