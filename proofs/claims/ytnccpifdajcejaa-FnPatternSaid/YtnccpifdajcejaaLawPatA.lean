/- The law on patterns' creases: the walk of the law itself. No condition but sizes. -/
import Derived.Test.YtnccpifdajcejaaDrawQ
import Derived.Test.YtnccpifdajcejaaPatPlain
namespace Go.Proofs.Ytnccpifdajcejaa
open Go.RowKit

theorem count_drop {cs : List Int} {j : Nat} {z : Int} (h : j < cs.length) : (cs.drop j).count z = (if cs[j] = z then 1 else 0) + (cs.drop (j + 1)).count z := by
  rw [List.drop_eq_getElem_cons h, List.count_cons]
  by_cases e : cs[j] = z
  · simp [e]; omega
  · simp [e]
set_option maxHeartbeats 1000000 in
theorem laws_uses (A : Option Addr) (cap : Nat) (vs : List Vx) (z : Int) (w : World) (h : Verts w A vs) (hl : vs.length ≤ 1000) (hv : ∀ v ∈ vs, v.2.length ≤ 1000) :
    Calls Try.prog 19 #[.slice A vs.length cap, .int .i64 z] w fun e w' => e = .returned (.int .i64 (cntM vs z : Int)) ∧ w = w' := by
  have HV := Lib.hid hv
  clear hv
  go_enter Try.func19, Try.ntmps19
  go_wp2_with fail
  go_loop [5, 6, 7] (fun s5 s6 s7 => ∃ (k n : Nat), s7 = s7 ∧ k ≤ vs.length ∧ s6 = .int .i64 k ∧ s5 = .int .i64 n ∧ n ≤ 1000 * k ∧ Hid (n + cntM (vs.drop k) z = cntM vs z)) (fun _ s6 _ => vs.length - (intOf s6).toNat)
  case atStart => exact ⟨0, 0, rfl, Nat.zero_le _, rfl, rfl, by omega, by show 0 + _ = _; simp⟩
  case round =>
    obtain ⟨k, n, _, hk, rfl, rfl, hn, H⟩ := hrel
    by_cases hlt : k < vs.length
    · obtain ⟨b, off, A1, c1, A2, c2, rfl, hb, r1, r2, _, _, _, i2, l2, m2⟩ := h.at_ hlt
      have hd := List.drop_eq_getElem_cons hlt
      have hvl := HV.out vs[k] (List.getElem_mem hlt)
      obtain ⟨cs, hcs⟩ : ∃ cs, cs = vs[k].2 := ⟨_, rfl⟩
      rw [← hcs] at r2 i2 l2 hvl
      have H2 : Hid (n + cs.count z + cntM (vs.drop (k + 1)) z = cntM vs z) := by show _ = _; rw [← H.out, hd, cntM, hcs]; omega
      have k1 : (k : Int) < (vs.length : Int) := by omega
      have k0 : (0 : Int) ≤ (k : Int) := by omega
      clear hd hcs H
      go_wp2_with fail
      go_loop [5, 7] (fun s5 s7 => ∃ (j q : Nat), j ≤ cs.length ∧ s7 = .int .i64 j ∧ s5 = .int .i64 q ∧ q ≤ n + j ∧ Hid (q + (cs.drop j).count z = n + cs.count z)) (fun _ s7 => cs.length - (intOf s7).toNat)
      case atStart => exact ⟨0, n, Nat.zero_le _, rfl, rfl, by omega, by show _ = _; simp⟩
      case round =>
        obtain ⟨j, q, hj, rfl, rfl, hq, HQ⟩ := hrel
        by_cases hjl : j < cs.length
        · obtain ⟨b2, off2, rfl, hb2, hc2⟩ := i2 (by intro e; subst e; simp at hjl)
          have r3 := hc2 j cs[j] (List.getElem?_eq_getElem hjl)
          have hcd := count_drop (z := z) hjl
          obtain ⟨y, hy⟩ : ∃ y, y = cs[j] := ⟨_, rfl⟩
          rw [← hy] at r3 hcd
          have j1 : (j : Int) < (cs.length : Int) := by omega
          have j0 : (0 : Int) ≤ (j : Int) := by omega
          by_cases hyz : y = z
          · have d : (y == z) = true := by rw [beq_iff_eq]; exact hyz
            have HQ2 : Hid (q + 1 + (cs.drop (j + 1)).count z = n + cs.count z) := by show _ = _; rw [← HQ.out, hcd, if_pos hyz]; omega
            clear hyz hcd hy hc2
            go_wp2_with fail
            go_round
            case rel => exact ⟨j + 1, q + 1, by omega, by go_num, by go_num, by omega, HQ2⟩
            case measure => simp [intOf]; omega
          · have d : (y == z) = false := by rw [beq_eq_false_iff_ne]; exact hyz
            have HQ2 : Hid (q + (cs.drop (j + 1)).count z = n + cs.count z) := by show _ = _; rw [← HQ.out, hcd, if_neg hyz]; omega
            clear hyz hcd hy hc2
            go_wp2_with fail
            go_round
            case rel => exact ⟨j + 1, q, by omega, by go_num, rfl, by omega, HQ2⟩
            case measure => simp [intOf]; omega
        · obtain rfl : j = cs.length := by omega
          have hfin : q = n + cs.count z := by have := HQ.out; rw [List.drop_length] at this; simpa using this
          have H3 : Hid (q + cntM (vs.drop (k + 1)) z = cntM vs z) := by show _ = _; rw [hfin]; exact H2.out
          clear hfin
          go_wp2_with fail
          go_round
          case rel => exact ⟨k + 1, q, trivial, by omega, by go_num, rfl, by omega, H3⟩
          case measure => simp [intOf]; omega
    · obtain rfl : k = vs.length := by omega
      have hfin : n = cntM vs z := by have := H.out; rw [List.drop_length] at this; simpa [cntM] using this
      have HF := Lib.hid hfin
      clear hfin
      go_wp2_with fail
      go_ret
      exact ⟨ret_int (by rw [HF.out]), rfl⟩

set_option maxHeartbeats 2000000 in
theorem law_FnPattern (A : Option Addr) (cap : Nat) (bs : List UInt8) (w : World) (h : Codes w w.heap.size A bs) (hcap : bs.length ≤ cap) (hcm : cap ≤ maxLen) :
    Calls Try.prog 3 #[.slice A bs.length cap] w fun e w' => e = .returned (.bool true) ∧ Below w.heap.size w w' := by
  have hlm : bs.length ≤ maxLen := Nat.le_trans hcap hcm
  have hlm2 := hlm
  unfold maxLen at hlm2
  by_cases g1 : 1048576 < bs.length
  · have d1 : decide ((1048576 : Int) < (bs.length : Int)) = true := by simp; omega
    go_enter Try.func3, Try.ntmps3
    go_wp2_with fail
    go_ret
    exact ⟨rfl, Below.refl _ _⟩
  · have d1 : decide ((1048576 : Int) < (bs.length : Int)) = false := by simp; omega
    go_enter Try.func3, Try.ntmps3
    go_wp2_with fail
    refine (spec_DrawPatternValid w A cap bs h (by omega) hcap hcm).mono ?_
    rintro e w1 ⟨B, vs, c, rfl, hV, hl2, hlc, hcm2, hlen, hb1⟩
    have HLen := Lib.hid hlen
    have hlm : vs.length ≤ maxLen := by unfold maxLen; omega
    obtain ⟨p, hp⟩ : ∃ p, p = patB vs := ⟨_, rfl⟩
    have HP := Lib.hid hp
    clear hlen hp
    go_wp2_with fail
    refine (impl_PatternValid B c vs w1 hV hlm).mono ?_
    rintro e w2 ⟨rfl, hb2⟩
    rw [← HP.out]
    have b2 := below_from hb1 hb2 hb1.size
    have hV2 := hV.below hb2
    clear hb1 hb2 hV
    go_wp2_with fail
    refine (spec_PatternValid B c vs w2 hV2 hlm).mono ?_
    rintro e w3 ⟨rfl, hb3⟩
    rw [← HP.out]
    have b3 := below_from b2 hb3 b2.size
    have hV3 := hV2.below hb3
    clear b2 hb3 hV2
    cases p with
    | false =>
      go_wp2_with fail
      go_ret
      exact ⟨rfl, b3⟩
    | true =>
      obtain ⟨n, hn, hn10, hpc⟩ := pat_num HP.out.symm
      have hsum := pat_sum HP.out.symm hn
      obtain ⟨_, _, hall, huse, _, _⟩ := patB_parts HP.out.symm
      rw [hn, Int.toNat_natCast] at huse
      have hin : innerL vs = innerTo vs n := by unfold innerL; rw [← HP.out, hn]; rfl
      have HPC := Lib.hid hpc
      have HSum := Lib.hid hsum
      have HAll := Lib.hid hall
      have HUse := Lib.hid (usesOk_iff.1 huse)
      have HIn := Lib.hid hin
      clear hn hsum hall huse hin hpc
      go_wp2_with fail
      refine (impl_PatternCreases B c vs w3 hV3 hlm).mono ?_
      rintro e w4 ⟨rfl, hb4⟩
      rw [HPC.out]
      have b4 := below_from b3 hb4 b3.size
      have hV4 := hV3.below hb4
      clear b3 hb4 hV3
      go_wp2_with fail
      refine (impl_PatternInner B c vs w4 hV4 hlm).mono ?_
      rintro e w5 ⟨v5, rfl, ho5, hb5⟩
      rw [HIn.out] at ho5
      have b5 := below_from b4 hb5 b4.size
      have hV5 := hV4.below hb5
      obtain ⟨A5, c5, rfl, hI5, hc5, hm5⟩ := ho5.form
      have hil := innerTo_len vs n
      have HV5 := Lib.hid hV5
      have HB5 := Lib.hid b5
      have HI5 := Lib.hid hI5
      clear b4 hb5 hV4 ho5 hI5 hV5 b5
      go_wp2_with fail
      go_loop [8, 9] (fun s8 s9 => ∃ (k q : Nat), k ≤ vs.length ∧ s9 = .int .i64 k ∧ s8 = .int .i64 q ∧ q ≤ 4 * k ∧ Hid (q = sumA (vs.take k))) (fun _ s9 => vs.length - (intOf s9).toNat)
      case atStart => exact ⟨0, 0, Nat.zero_le _, rfl, rfl, by omega, by show _ = _; simp [sumA]⟩
      case round =>
        obtain ⟨k, q, hk, rfl, rfl, hq, HQ⟩ := hrel
        by_cases hlt : k < vs.length
        · obtain ⟨b, off, A1, c1, A2, c2, rfl, hb, r1, r2, _, l1, m1, _, _, _⟩ := HV5.out.at_ hlt
          have hlv := HLen.out vs[k] (List.getElem_mem hlt)
          have HQ2 : Hid (q + vs[k].1.length = sumA (vs.take (k + 1))) := by show _ = _; rw [List.take_succ_eq_append_getElem hlt, sumA_snoc, HQ.out]
          obtain ⟨m, hm⟩ : ∃ m, m = vs[k].1.length := ⟨_, rfl⟩
          rw [← hm] at r1 HQ2 hlv
          have k1 : (k : Int) < (vs.length : Int) := by omega
          have k0 : (0 : Int) ≤ (k : Int) := by omega
          clear hm l1
          go_wp2_with fail
          go_round
          case rel => exact ⟨k + 1, q + m, by omega, by go_num, by go_num, by omega, HQ2⟩
          case measure => simp [intOf]; omega
        · obtain rfl : k = vs.length := by omega
          have hq2 : q = n + (innerTo vs n).length := by have := HQ.out; rw [List.take_length] at this; rw [this]; exact HSum.out
          have HQ2 := Lib.hid hq2
          clear hq2 HQ
          go_wp2_with fail
          go_loop [10, 11, 12] (fun s10 s11 s12 => ∃ (j a : Nat), s12 = s12 ∧ j ≤ n ∧ s11 = .int .i64 j ∧ s10 = .int .i64 a ∧ Hid (a = (innerTo vs j).length)) (fun _ s11 _ => n - (intOf s11).toNat)
          case atStart => exact ⟨0, 0, rfl, Nat.zero_le _, rfl, rfl, rfl⟩
          case round =>
            obtain ⟨j, a, _, hj, rfl, rfl, HA⟩ := hrel
            have haj := innerTo_len vs j
            rw [← HA.out] at haj
            by_cases hjl : j < n
            · have hu := HUse.out j hjl
              obtain ⟨u, hu'⟩ : ∃ u, u = useN vs (j : Int) := ⟨_, rfl⟩
              rw [← hu'] at hu
              have hcall : Calls Try.prog 19 #[.slice B vs.length c, .int .i64 j] w5 fun e w' => e = .returned (.int .i64 (u : Int)) ∧ w5 = w' := by
                have := laws_uses B c vs (j : Int) w5 HV5.out (by omega) (fun v hv => by have := HLen.out v hv; omega)
                rwa [cntM_use HAll.out, ← hu'] at this
              have HC := Lib.hid hcall
              have HU := Lib.hid hu'
              have j1 : (j : Int) < (n : Int) := by omega
              have u1 : decide ((u : Int) < 1) = false := by simp; omega
              have u2 : decide ((2 : Int) < (u : Int)) = false := by simp; omega
              clear hcall hu'
              go_wp2_with fail
              refine HC.out.mono ?_
              rintro e w' ⟨rfl, rfl⟩
              by_cases hu2 : u = 2
              · have du : ((u : Int) == 2) = true := by rw [beq_iff_eq]; omega
                have hg := innerTo_get hjl (HU.out.symm.trans hu2)
                rw [← HA.out] at hg
                have hal : a < (innerTo vs n).length := (List.getElem?_eq_some_iff.1 hg).1
                obtain ⟨b5, off5, e5, hb5', hc5'⟩ := HI5.out (by intro e; rw [e] at hal; simp at hal)
                subst e5
                have r5 := hc5' a _ hg
                have hst := innerTo_yes (HU.out.symm.trans hu2)
                have HA2 : Hid (a + 1 = (innerTo vs (j + 1)).length) := by show _ = _; rw [hst, List.length_append, HA.out]; rfl
                have a1 : (a : Int) < ((innerTo vs n).length : Int) := by omega
                have a2 : decide (((innerTo vs n).length : Int) ≤ (a : Int)) = false := by simp; omega
                have a0 : (0 : Int) ≤ (a : Int) := by omega
                have djj : ((j : Int) != (j : Int)) = false := by simp
                clear hu2 hg hst hc5'
                go_wp2_with fail
                go_round
                case rel => exact ⟨j + 1, a + 1, trivial, by omega, by go_num, by go_num, HA2⟩
                case measure => simp [intOf]; omega
              · have du : ((u : Int) == 2) = false := by rw [beq_eq_false_iff_ne]; omega
                have hst := innerTo_no (fun e => hu2 (HU.out.trans e))
                have HA2 : Hid (a = (innerTo vs (j + 1)).length) := by show _ = _; rw [hst, HA.out]
                clear hu2 hst
                go_wp2_with fail
                go_round
                case rel => exact ⟨j + 1, a, trivial, by omega, by go_num, rfl, HA2⟩
                case measure => simp [intOf]; omega
            · obtain rfl : j = n := by omega
              obtain ⟨m, hm⟩ : ∃ m, m = (innerTo vs j).length := ⟨_, rfl⟩
              rw [← hm] at hil
              have e1 : a = m := HA.out.trans hm.symm
              have e2 : q = j + m := by rw [HQ2.out, hm]
              rw [← hm]
              have d1' : ((a : Int) == (m : Int)) = true := by rw [beq_iff_eq]; omega
              have d2' : ((q : Int) == (j : Int) + (m : Int)) = true := by rw [beq_iff_eq]; omega
              clear e1 e2 hm HA HQ2
              go_wp2_with fail
              go_ret
              exact ⟨rfl, HB5.out⟩
end Go.Proofs.Ytnccpifdajcejaa
