/- The laws that any crimp of a vertex will do, and that a crimp keeps the balance: the walks of the laws themselves. No condition but sizes. -/
import Derived.Test.YtkdakceahoihjaaDrawD
import Derived.Test.YtkdakceahoihjaaTurnJ
import Derived.Test.YtkdakceahoihjaaCrimpW
import Derived.Test.YtkdakceahoihjaaHelpA
namespace Go.Proofs.Ytkdakceahoihjaa
open Go.RowKit

theorem vc_yes {xs : List Int} {s : ByteArray} {i : Int} (h : vcB xs s i = true) : i ∈ vcL xs s ∧ vcY xs s i = vcrX xs i.toNat ∧ vcS xs s i = vcrF xs s i.toNat := by
  refine ⟨by unfold vcB at h; simpa using h, by unfold vcY; rw [if_pos h], by unfold vcS; rw [if_pos h]⟩
theorem vc_sizes (xs : List Int) (s : ByteArray) (i : Int) : (vcY xs s i).length ≤ xs.length ∧ (vcS xs s i).size ≤ xs.length := by
  constructor
  · unfold vcY; split
    · rw [vcrX_len]; omega
    · simp
  · unfold vcS; split
    · rw [vcrF_size]; omega
    · simp

set_option maxHeartbeats 2000000 in
set_option maxRecDepth 100000 in
theorem law_FnRingCrimpAny (A : Option Addr) (cap : Nat) (bs : List UInt8) (w : World) (h : Codes w w.heap.size A bs) (hcap : bs.length ≤ cap) (hcm : cap ≤ maxLen) :
    Calls Try.prog 10 #[.slice A bs.length cap] w fun e w' => e = .returned (.bool true) ∧ Below w.heap.size w w' := by
  have hlm : bs.length ≤ maxLen := Nat.le_trans hcap hcm
  have hlm2 := hlm
  unfold maxLen at hlm2
  by_cases g1 : 1048576 < bs.length
  · have d1 : decide ((1048576 : Int) < (bs.length : Int)) = true := by simp; omega
    go_enter Try.func10, Try.ntmps10
    go_wp2_with fail
    go_ret
    exact ⟨rfl, Below.refl _ _⟩
  · have d1 : decide ((1048576 : Int) < (bs.length : Int)) = false := by simp; omega
    go_enter Try.func10, Try.ntmps10
    go_wp2_with fail
    refine (spec_DrawVertexCrimp w A cap bs h (by omega) hcap hcm).mono ?_
    rintro e w1 ⟨B, xs, c, s, i, rfl, hI, hc, hcmx, hx10, hSm, hs, hb1⟩
    clear hSm
    obtain ⟨Y, hY⟩ : ∃ Y, Y = vcY xs s i := ⟨_, rfl⟩
    obtain ⟨T, hT⟩ : ∃ T, T = vcS xs s i := ⟨_, rfl⟩
    obtain ⟨K, hK⟩ : ∃ K, K = vcB xs s i := ⟨_, rfl⟩
    have hsz := vc_sizes xs s i
    rw [← hY, ← hT] at hsz
    obtain ⟨hyl, htl⟩ := hsz
    have HY := Lib.hid hY
    have HT := Lib.hid hT
    have HK := Lib.hid hK
    clear hY hT hK
    go_wp2_with fail
    refine (impl_VertexCrimp B c xs s i w1 hI (by unfold maxLen; omega) (by unfold maxLen; omega)).mono ?_
    rintro e w2 ⟨v2, rfl, hown2, hb2⟩
    rw [← HY.out] at hown2
    rw [← HT.out, ← HK.out]
    obtain ⟨D, cd, rfl, hID, hcd, hcdm⟩ := hown2.form
    have b2 := below_from hb1 hb2 hb1.size
    have hI2 := hI.below hb2
    clear hb1 hb2 hI hown2
    go_wp2_with fail
    refine (spec_VertexCrimp B c xs s i w2 hI2 (by unfold maxLen; omega) (by unfold maxLen; omega) hc hcmx).mono ?_
    rintro e w3 ⟨v3, rfl, hown3, hb3⟩
    rw [← HY.out] at hown3
    rw [← HT.out, ← HK.out]
    obtain ⟨E, ce, rfl, hIE, _, _⟩ := hown3.form
    have b3 := below_from b2 hb3 b2.size
    have hI3 := hI2.below hb3
    have hD3 := hID.below hb3
    clear b2 hb3 hI2 hown3 hID
    have q1 : (T.toList == T.toList) = true := by simp
    have hylm : Y.length ≤ maxLen := by unfold maxLen; omega
    cases K with
    | false =>
      go_wp2_with fail
      refine (laws_sameInts D E cd ce Y Y w3 hD3 hIE hylm hylm).mono ?_
      rintro e w4 ⟨rfl, m4, rfl⟩
      rw [decide_eq_true (rfl : Y = Y)]
      go_wp2_with fail
      refine (laws_sameInts D E cd ce Y Y (w3.drewN m4) hD3 hIE hylm hylm).mono ?_
      rintro e w5 ⟨rfl, m5, rfl⟩
      rw [decide_eq_true (rfl : Y = Y)]
      go_wp2_with fail
      go_ret
      exact ⟨rfl, below_drewN b3 _⟩
    | true =>
      obtain ⟨hmem, e1, e2⟩ := vc_yes HK.out.symm
      have hf := crimp_facts hmem
      have hYl : Y.length = xs.length - 2 := by rw [HY.out, e1, vcrX_len]
      have h4 := hf.four
      have hYd : (Y.length : Int) = (xs.length : Int) - 2 := by omega
      have HYD := Lib.hid hYd
      have hYl6 : Y.length + 2 ≤ xs.length := by omega
      have hring : Y.length ≤ 6 → acB xs = true → rfB Y T = vfB xs s := by
        intro h6 ha
        rw [HY.out, HT.out, e1, e2]
        rw [HY.out, e1] at h6
        exact hf.ring h6 ha
      have HR := Lib.hid hring
      clear hmem e1 e2 hf hYl hYd hring
      go_wp2_with fail
      refine (laws_sameInts D E cd ce Y Y w3 hD3 hIE hylm hylm).mono ?_
      rintro e w4 ⟨rfl, m4, rfl⟩
      rw [decide_eq_true (rfl : Y = Y)]
      by_cases h6 : 6 < Y.length
      · have d6 : decide ((6 : Int) < (Y.length : Int)) = true := by simp; omega
        have dy : ((Y.length : Int) == (xs.length : Int) - 2) = true := by rw [beq_iff_eq]; exact HYD.out
        go_wp2_with fail
        go_ret
        exact ⟨rfl, below_drewN b3 _⟩
      · have d6 : decide ((6 : Int) < (Y.length : Int)) = false := by simp; omega
        go_wp2_with fail
        refine (impl_AnglesCloses B c xs (w3.drewN m4) hI3 (by unfold maxLen; omega)).mono ?_
        rintro e w' ⟨rfl, rfl⟩
        cases ha : acB xs with
        | false =>
          have dy : ((Y.length : Int) == (xs.length : Int) - 2) = true := by rw [beq_iff_eq]; exact HYD.out
          clear ha
          go_wp2_with fail
          go_ret
          exact ⟨rfl, below_drewN b3 _⟩
        | true =>
          have hrv := HR.out (by omega) ha
          have HA := Lib.hid ha
          have HRV := Lib.hid hrv
          clear ha hrv
          go_wp2_with fail
          refine (impl_RingFolds D cd Y T (w3.drewN m4) hD3 hylm (by unfold maxLen; omega)).mono ?_
          rintro e w5 ⟨rfl, hb5⟩
          have b5 := below_from (below_drewN b3 m4) hb5 b3.size
          have hI5 := hI3.below (w := w3.drewN m4) hb5
          clear hb5
          go_wp2_with fail
          refine (impl_VertexFolds B c xs s w5 hI5 (by unfold maxLen; omega) (by unfold maxLen; omega)).mono ?_
          rintro e w6 ⟨rfl, hb6⟩
          rw [HRV.out]
          have b6 := below_from b5 hb6 b5.size
          have q2 : (vfB xs s == vfB xs s) = true := by simp
          go_wp2_with fail
          go_ret
          exact ⟨rfl, b6⟩

end Go.Proofs.Ytkdakceahoihjaa
