/- The law that a crimp keeps the balance: the walk of the law itself. No condition but sizes. -/
import Derived.Test.YtkdakceahoihjaaLawRingCrimpAny
namespace Go.Proofs.Ytkdakceahoihjaa
open Go.RowKit

set_option maxHeartbeats 2000000 in
set_option maxRecDepth 100000 in
theorem law_FnCrimpAny (A : Option Addr) (cap : Nat) (bs : List UInt8) (w : World) (h : Codes w w.heap.size A bs) (hcap : bs.length ≤ cap) (hcm : cap ≤ maxLen) :
    Calls Try.prog 8 #[.slice A bs.length cap] w fun e w' => e = .returned (.bool true) ∧ Below w.heap.size w w' := by
  have hlm : bs.length ≤ maxLen := Nat.le_trans hcap hcm
  have hlm2 := hlm
  unfold maxLen at hlm2
  by_cases g1 : 1048576 < bs.length
  · have d1 : decide ((1048576 : Int) < (bs.length : Int)) = true := by simp; omega
    go_enter Try.func8, Try.ntmps8
    go_wp2_with fail
    go_ret
    exact ⟨rfl, Below.refl _ _⟩
  · have d1 : decide ((1048576 : Int) < (bs.length : Int)) = false := by simp; omega
    go_enter Try.func8, Try.ntmps8
    go_wp2_with fail
    refine (spec_DrawVertexCrimp w A cap bs h (by omega) hcap hcm).mono ?_
    rintro e w1 ⟨B, xs, c, s, i, rfl, hI, hc, hcmx, hx10, hSm, hs, hb1⟩
    clear hSm
    obtain ⟨Y, hY⟩ : ∃ Y, Y = vcY xs s i := ⟨_, rfl⟩
    obtain ⟨T, hT⟩ : ∃ T, T = vcS xs s i := ⟨_, rfl⟩
    obtain ⟨K, hK⟩ : ∃ K, K = vcB xs s i := ⟨_, rfl⟩
    have hsz := vc_sizes xs s i
    rw [← hY, ← hT] at hsz
    obtain ⟨hyl, htl⟩ := hsz
    have HY := Lib.hid hY
    have HT := Lib.hid hT
    have HK := Lib.hid hK
    clear hY hT hK
    go_wp2_with fail
    refine (impl_VertexCrimp B c xs s i w1 hI (by unfold maxLen; omega) (by unfold maxLen; omega)).mono ?_
    rintro e w2 ⟨v2, rfl, hown2, hb2⟩
    rw [← HY.out] at hown2
    rw [← HT.out, ← HK.out]
    obtain ⟨D, cd, rfl, hID, hcd, hcdm⟩ := hown2.form
    have b2 := below_from hb1 hb2 hb1.size
    have hI2 := hI.below hb2
    clear hb1 hb2 hI hown2
    go_wp2_with fail
    refine (spec_VertexCrimp B c xs s i w2 hI2 (by unfold maxLen; omega) (by unfold maxLen; omega) hc hcmx).mono ?_
    rintro e w3 ⟨v3, rfl, hown3, hb3⟩
    rw [← HY.out] at hown3
    rw [← HT.out, ← HK.out]
    obtain ⟨E, ce, rfl, hIE, _, _⟩ := hown3.form
    have b3 := below_from b2 hb3 b2.size
    have hI3 := hI2.below hb3
    have hD3 := hID.below hb3
    clear b2 hb3 hI2 hown3 hID
    have q1 : (T.toList == T.toList) = true := by simp
    have hylm : Y.length ≤ maxLen := by unfold maxLen; omega
    cases K with
    | false =>
      go_wp2_with fail
      refine (laws_sameInts D E cd ce Y Y w3 hD3 hIE hylm hylm).mono ?_
      rintro e w4 ⟨rfl, m4, rfl⟩
      rw [decide_eq_true (rfl : Y = Y)]
      go_wp2_with fail
      refine (laws_sameInts D E cd ce Y Y (w3.drewN m4) hD3 hIE hylm hylm).mono ?_
      rintro e w5 ⟨rfl, m5, rfl⟩
      rw [decide_eq_true (rfl : Y = Y)]
      go_wp2_with fail
      go_ret
      exact ⟨rfl, below_drewN b3 _⟩
    | true =>
      obtain ⟨hmem, e1, e2⟩ := vc_yes HK.out.symm
      have hf := crimp_facts hmem
      have h4 := hf.four
      have hidx := hf.idx
      have hone := hf.one
      obtain ⟨j, hj⟩ : ∃ j, j = i.toNat := ⟨_, rfl⟩
      have hi0 : 0 ≤ i := (vcL_mem hmem).2.2.1
      have hij : i = (j : Int) := by omega
      rw [← hj] at e1 e2 hf hidx hone
      obtain ⟨n, hn⟩ : ∃ n, n = xs.length := ⟨_, rfl⟩
      obtain ⟨m, hm⟩ : ∃ m, m = Y.length := ⟨_, rfl⟩
      obtain ⟨L, hL⟩ : ∃ L, L = angleAt xs j := ⟨_, rfl⟩
      have hYl : m + 2 = n := by rw [hm, hn, HY.out, e1, vcrX_len]; omega
      have hTl : T.size + 2 = n := by rw [hn, HT.out, e2, vcrF_size]; omega
      have hYsum : Y.sum = 360 - 2 * L := by rw [HY.out, e1, hf.sum, hL]
      have hlow : ∀ x ∈ Y, L ≤ x ∧ x ≤ 1000 := fun x hx => by
        rw [HY.out, e1] at hx
        exact ⟨by rw [hL]; exact hf.low x hx, hf.high x hx⟩
      have halt : decide (altS Y = 0) = acB xs := by rw [HY.out, e1]; exact hf.alt
      have hbal : balT T.data.toList = balT s.data.toList := by rw [HT.out, e2]; exact hf.bal
      rw [← hn] at hidx h4 hc hx10
      rw [← hL] at hone
      obtain ⟨b, off, rfl, hbw, hcl⟩ := hI3 (by intro e; rw [e] at hn; simp at hn; omega)
      have hcj : w3.cell? ⟨b, off + j, none⟩ = some (.int .i64 L) := by
        rw [hL]; exact angleAt_cell hI3 (by omega)
      rw [hij]
      have HYs := Lib.hid hYsum
      have HLow := Lib.hid hlow
      have HAlt := Lib.hid halt
      have HBal := Lib.hid hbal
      have HM := Lib.hid hm
      have HN := Lib.hid hn
      have HTl := Lib.hid hTl
      have HYl := Lib.hid hYl
      have HI3 := Lib.hid hI3
      rw [← HN.out, ← HM.out]
      have hm8 : m ≤ 8 := by omega
      have hsame : ∀ W : World, Ints W D Y → Ints W E Y → Calls Try.prog 27 #[.slice D m cd, .slice E m ce] W fun e w' => e = .returned (.bool true) ∧ ∃ k, W.drewN k = w' := by
        intro W h1 h2
        have := laws_sameInts D E cd ce Y Y W h1 h2 hylm hylm
        rw [decide_eq_true (rfl : Y = Y), ← HM.out] at this
        exact this
      have hclose : ∀ W : World, Ints W (some ⟨b, off, none⟩) xs → Calls Try.prog 24 #[.slice (some ⟨b, off, none⟩) n c] W fun e w' => e = .returned (.bool (acB xs)) ∧ W = w' := by
        intro W hI
        rw [HN.out]
        exact impl_AnglesCloses _ c xs W hI (by unfold maxLen; have := HN.out; omega)
      have HSAME := Lib.hid hsame
      have HCLOSE := Lib.hid hclose
      clear hmem e1 e2 hf hYl hTl hYsum hlow halt hbal hm hn hL hj hij hcl hI3 hsame hclose
      have j0 : (0 : Int) ≤ (j : Int) := by omega
      have j1 : (j : Int) < (n : Int) := by omega
      go_wp2_with fail
      refine (HSAME.out w3 hD3 hIE).mono ?_
      rintro e w4 ⟨rfl, m4, rfl⟩
      go_wp2_with fail
      go_loop [14, 15, 16] (fun s14 s15 s16 => ∃ (k : Nat) (a d : Int), k ≤ m ∧ s16 = .int .i64 k ∧ s14 = .int .i64 a ∧ s15 = .int .i64 d ∧ 0 ≤ a ∧ a ≤ 1000 * (k : Int) ∧ -(1000 * (k : Int)) ≤ d ∧ d ≤ 1000 * (k : Int) ∧ Hid (a + (Y.drop k).sum = Y.sum) ∧ Hid (balGo k d (Y.drop k) = altS Y)) (fun _ _ s16 => m - (intOf s16).toNat)
      case atStart => exact ⟨0, 0, 0, Nat.zero_le _, rfl, rfl, rfl, by omega, by omega, by omega, by omega, by show _ = _; simp, by show _ = _; rw [balGo_alt]; simp⟩
      case round =>
        obtain ⟨k, a, d, hk, rfl, rfl, rfl, ha0, ha1, hd0, hd1, HA, HD⟩ := hrel
        by_cases hlt : k < m
        · obtain ⟨bb, off2, y, rfl, _, HX, hcy, hmem⟩ := hD3.at_ (k := k) (by rw [← HM.out]; exact hlt)
          obtain ⟨hy1, hy2⟩ := HLow.out y hmem
          have k1 : (k : Int) < (m : Int) := by omega
          have k0 : (0 : Int) ≤ (k : Int) := by omega
          have dy : decide (y < L) = false := by simp; omega
          have HA2 : Hid (a + y + (Y.drop (k + 1)).sum = Y.sum) := by show _ = _; rw [← HA.out, HX.out, List.sum_cons]; omega
          by_cases kp : k % 2 = 0
          · have dk : (((k : Int) % 2) == 0) = true := by simp; omega
            have HD2 : Hid (balGo (k + 1) (d + y) (Y.drop (k + 1)) = altS Y) := by show _ = _; rw [← HD.out, HX.out, balGo, if_pos kp]
            clear hmem
            go_wp2_with fail
            go_round
            case rel => exact ⟨k + 1, a + y, d + y, by omega, by go_num, rfl, rfl, by omega, by omega, by omega, by omega, HA2, HD2⟩
            case measure => simp [intOf]; omega
          · have dk : (((k : Int) % 2) == 0) = false := by rw [beq_eq_false_iff_ne]; omega
            have HD2 : Hid (balGo (k + 1) (d - y) (Y.drop (k + 1)) = altS Y) := by show _ = _; rw [← HD.out, HX.out, balGo, if_neg kp]
            clear hmem
            go_wp2_with fail
            go_round
            case rel => exact ⟨k + 1, a + y, d - y, by omega, by go_num, rfl, rfl, by omega, by omega, by omega, by omega, HA2, HD2⟩
            case measure => simp [intOf]; omega
        · obtain rfl : k = m := by omega
          have hnil : Y.drop k = [] := List.drop_of_length_le (by rw [← HM.out]; exact Nat.le_refl _)
          have hasum : a = 360 - 2 * L := by
            have := HA.out
            rw [hnil] at this
            rw [← HYs.out, ← this]; simp
          have hdalt : d = altS Y := by
            have := HD.out
            rw [hnil] at this
            rw [← this]; rfl
          have dn : ((k : Int) != (n : Int) - 2) = false := by rw [bne_eq_false_iff_eq]; have := HYl.out; omega
          have dt : ((T.size : Int) != (n : Int) - 2) = false := by rw [bne_eq_false_iff_eq]; have := HTl.out; omega
          have ds : (a != 360 - 2 * L) = false := by rw [bne_eq_false_iff_eq]; exact hasum
          have dd : (d == 0) = acB xs := by
            rw [← HAlt.out, hdalt]
            rw [Bool.eq_iff_iff]; simp
          have hd0' := Lib.hid dd
          have HAs := Lib.hid hasum
          clear hnil hasum hdalt dd HA HD
          have hts : T.size ≤ 1000 := by have := HN.out; omega
          have hss : s.size ≤ 1000 := by omega
          cases hac : acB xs with
          | true =>
            have dd := hd0'.out
            rw [hac] at dd
            have HAC := Lib.hid hac
            clear hac
            go_wp2_with fail
            refine (HCLOSE.out (w3.drewN m4) HI3.out).mono ?_
            rintro e w' ⟨rfl, rfl⟩
            rw [HAC.out]
            go_wp2_with fail
            refine (impl_FoldsBalance T _ hts).mono ?_
            rintro e w' ⟨rfl, rfl⟩
            rw [HBal.out]
            go_wp2_with fail
            refine (impl_FoldsBalance s _ hss).mono ?_
            rintro e w' ⟨rfl, rfl⟩
            have q9 : (balT s.data.toList == balT s.data.toList) = true := by simp
            go_wp2_with fail
            go_ret
            exact ⟨rfl, below_drewN b3 _⟩
          | false =>
            have dd := hd0'.out
            rw [hac] at dd
            have HAC := Lib.hid hac
            clear hac
            go_wp2_with fail
            refine (HCLOSE.out (w3.drewN m4) HI3.out).mono ?_
            rintro e w' ⟨rfl, rfl⟩
            rw [HAC.out]
            go_wp2_with fail
            refine (impl_FoldsBalance T _ hts).mono ?_
            rintro e w' ⟨rfl, rfl⟩
            rw [HBal.out]
            go_wp2_with fail
            refine (impl_FoldsBalance s _ hss).mono ?_
            rintro e w' ⟨rfl, rfl⟩
            have q9 : (balT s.data.toList == balT s.data.toList) = true := by simp
            go_wp2_with fail
            go_ret
            exact ⟨rfl, below_drewN b3 _⟩

end Go.Proofs.Ytkdakceahoihjaa
