/- The law on joined patterns that come apart: the walk of the law itself. No condition but sizes. -/
import Derived.Test.YtnccpifdajcejaaFnPatternJoinWithoutP52
import Derived.Test.YtnccpifdajcejaaFnPatternJoinWithoutP42
namespace Go.Proofs.Ytnccpifdajcejaa
open Go.RowKit

set_option maxHeartbeats 4000000 in
theorem law_FnPatternJoinWithout (A : Option Addr) (cap : Nat) (bs : List UInt8) (w : World) (h : Codes w w.heap.size A bs) (hcap : bs.length ≤ cap) (hcm : cap ≤ maxLen) :
    Calls Try.prog 4 #[.slice A bs.length cap] w fun e w' => e = .returned (.bool true) ∧ Below w.heap.size w w' := by
  have hlm : bs.length ≤ maxLen := Nat.le_trans hcap hcm
  have hlm2 := hlm
  unfold maxLen at hlm2
  by_cases g1 : 1048576 < bs.length
  · have d1 : decide ((1048576 : Int) < (bs.length : Int)) = true := by simp; omega
    go_enter Try.func4, Try.ntmps4
    go_wp2_with fail
    go_ret
    exact ⟨rfl, Below.refl _ _⟩
  · have d1 : decide ((1048576 : Int) < (bs.length : Int)) = false := by simp; omega
    go_enter Try.func4, Try.ntmps4
    go_wp2_with fail
    refine (spec_DrawPatternJoin w A cap bs h (by omega) hcap hcm).mono ?_
    rintro e w1 ⟨B1, B2, us, vs, c1, c2, i, j, rfl, hU, hV, hu2, hv2, huc, hvc, hcm1, hcm2, hlu, hlv, hb1⟩
    have hum : us.length ≤ maxLen := by unfold maxLen; omega
    have hvm : vs.length ≤ maxLen := by unfold maxLen; omega
    obtain ⟨rs, hrs⟩ : ∃ rs, rs = jR us vs i j := ⟨_, rfl⟩
    obtain ⟨b, hb⟩ : ∃ b, b = joinB us vs i j := ⟨_, rfl⟩
    have hrl : rs.length ≤ 4 := by
      rw [hrs]; unfold jR
      split
      · rw [joinL_len]; omega
      · simp
    have hbb : (b != b) = false := by cases b <;> rfl
    have hbb2 : (b == b) = true := by cases b <;> rfl
    have HRS := Lib.hid hrs
    have HBb := Lib.hid hb
    have HB1 := Lib.hid hb1
    have HU1 := Lib.hid hU
    have HV1 := Lib.hid hV
    clear hrs hb hlu hlv hb1 hU hV
    go_wp2_with fail
    refine (impl_PatternJoin B1 B2 c1 c2 us vs i j w1 HU1.out HV1.out hum hvm).mono ?_
    rintro e w2 ⟨g2, L2, rfl, hr2, ho2, hb2⟩
    rw [← HRS.out] at hr2 ho2 ⊢
    rw [← HBb.out]
    have b2 := below_from HB1.out hb2 HB1.out.size
    have HU2 := Lib.hid (HU1.out.below hb2)
    have HV2 := Lib.hid (HV1.out.below hb2)
    have HR2 := Lib.hid (hr2.read ho2 rfl)
    have HB2 := Lib.hid b2
    clear hr2 ho2 hb2 b2 HB1 HU1 HV1
    go_wp2_with fail
    refine (spec_PatternJoin B1 B2 c1 c2 us vs i j w2 HU2.out HV2.out hum hvm).mono ?_
    rintro e w3 ⟨A3, c3, rfl, hv3, _, _, hb3⟩
    rw [← HRS.out] at hv3 ⊢
    rw [← HBb.out]
    have HU3 := Lib.hid (HU2.out.below hb3)
    have HV3 := Lib.hid (HV2.out.below hb3)
    have HR3 := Lib.hid (HR2.out.below hb3)
    have HS3 := Lib.hid hv3
    have HB3 := Lib.hid (below_from HB2.out hb3 HB2.out.size)
    clear hb3 hv3 HB2 HU2 HV2 HR2
    go_wp2_with fail
    refine (laws_samePattern _ _ rs.length c3 rs w3 HR3.out HS3.out (by omega)).mono ?_
    rintro e w4 ⟨rfl, hb4⟩
    have HU4 := Lib.hid (HU3.out.below hb4)
    have HV4 := Lib.hid (HV3.out.below hb4)
    have HR4 := Lib.hid (HR3.out.below hb4)
    have HS4 := Lib.hid (HS3.out.below hb4)
    have HB4 := Lib.hid (below_from HB3.out hb4 HB3.out.size)
    clear hb4 HB3 HU3 HV3 HR3 HS3
    cases b with
    | false =>
      go_wp2_with fail
      refine (laws_samePattern _ _ rs.length c3 rs w4 HR4.out HS4.out (by omega)).mono ?_
      rintro e w5 ⟨rfl, hb5⟩
      have b5 := below_from HB4.out hb5 HB4.out.size
      go_wp2_with fail
      go_ret
      exact ⟨rfl, b5⟩
    | true =>
      obtain ⟨na, nb, J, hjr, hpr, hlr, _⟩ := join_facts HBb.out.symm
      rw [← HRS.out] at hpr hlr hjr
      have hrm : rs.length ≤ maxLen := by unfold maxLen; omega
      have hul : 1 ≤ us.length := (patB_parts J.pa).1
      by_cases hv1 : vs.length = 1
      · have e1 : decide ((1 : Int) < (vs.length : Int)) = false := by simp; omega
        obtain ⟨q1, q2⟩ := J.without (by rw [← hjr]; exact hpr) hv1
        rw [← hjr] at q1 q2
        have hc := impl_PatternWithout (some ⟨g2, 0, none⟩) rs.length rs (us.length : Int) w4 HR4.out hrm
        rw [q1, q2] at hc
        have HC := Lib.hid hc
        clear J hjr hpr hlr q1 q2 hc hv1
        go_wp2_with fail
        refine HC.out.mono ?_
        rintro e w5 ⟨g5, L5, rfl, hr5, ho5, hb5⟩
        have HU5 := Lib.hid (HU4.out.below hb5)
        have HR5 := Lib.hid (hr5.read ho5 rfl)
        have HB5 := Lib.hid (below_from HB4.out hb5 HB4.out.size)
        clear hb5 hr5 ho5 HB4 HU4 HV4 HR4 HS4 HC
        go_wp2_with fail
        refine (laws_samePattern _ _ us.length c1 us w5 HR5.out HU5.out (by omega)).mono ?_
        rintro e w6 ⟨rfl, hb6⟩
        have HB6 := Lib.hid (below_from HB5.out hb6 HB5.out.size)
        clear hb6 HB5 HU5 HR5
        go_wp2_with fail
        go_ret
        exact ⟨rfl, HB6.out⟩
      · have hvl : 1 ≤ vs.length := (patB_parts J.pb).1
        have e1 : decide ((1 : Int) < (vs.length : Int)) = true := by simp; omega
        have e2 : decide ((2 : Int) < (rs.length : Int)) = true := by simp; omega
        clear J hjr hpr hlr
        go_wp2_with fail
        go_ret
        exact ⟨rfl, HB4.out⟩
end Go.Proofs.Ytnccpifdajcejaa
