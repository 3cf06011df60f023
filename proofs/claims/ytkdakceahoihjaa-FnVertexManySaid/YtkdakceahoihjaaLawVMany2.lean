/- The law that ways to fold come in pairs: the walk of the law itself. No condition but sizes. -/
import Derived.Test.YtkdakceahoihjaaDrawD
import Derived.Test.YtkdakceahoihjaaTurnI
import Derived.Test.YtkdakceahoihjaaCnt
namespace Go.Proofs.Ytkdakceahoihjaa
open Go.RowKit

def chs (n : Nat) : Nat → Nat
  | 0 => 1
  | 1 => 1
  | i + 2 => chs n (i + 1) * (n - (i + 1) + 1) / (i + 1)
theorem chs_all : ∀ n, n < 9 → ∀ i, i < 5 → i ≤ n / 2 → chs n i ≤ 56 := by decide
theorem chs_succ (n i : Nat) (h : 1 ≤ i) : chs n (i + 1) = chs n i * (n - i + 1) / i := by
  obtain ⟨j, rfl⟩ : ∃ j, i = j + 1 := ⟨i - 1, by omega⟩
  rfl
theorem vm_chs {xs : List Int} (h : avB xs = true) (h8 : xs.length ≤ 8) : vmI xs ≤ 2 * (chs xs.length (xs.length / 2) : Int) := by
  obtain ⟨e, l2, _⟩ := avB_parts h
  obtain ⟨c2, c4, c6, c8⟩ := cnt_bal2
  have hc : xs.length = 2 ∨ xs.length = 4 ∨ xs.length = 6 ∨ xs.length = 8 := by omega
  rcases hc with q | q | q | q
  · have := vm_le q c2 h; rw [q]; have e3 : chs 2 (2 / 2) = 1 := by decide
    rw [e3]; omega
  · have := vm_le q c4 h; rw [q]; have e3 : chs 4 (4 / 2) = 4 := by decide
    rw [e3]; omega
  · have := vm_le q c6 h; rw [q]; have e3 : chs 6 (6 / 2) = 15 := by decide
    rw [e3]; omega
  · have := vm_le q c8 h; rw [q]; have e3 : chs 8 (8 / 2) = 56 := by decide
    rw [e3]; omega
theorem vm_bd {xs : List Int} (h : avB xs = true) : 0 ≤ vmI xs ∧ vmI xs ≤ 1024 := by
  unfold vmI
  rw [if_pos h]
  have h1 := cntV_le xs (2 ^ xs.length)
  have h2 := pow_le_1024 (avB_parts h).2.2.1
  omega
theorem vm_no {xs : List Int} (h : avB xs = false) : vmI xs = -1 := by
  unfold vmI
  rw [h]; rfl

set_option maxHeartbeats 2000000 in
set_option maxRecDepth 100000 in
theorem law_FnVertexMany (A A2 : Option Addr) (cap cap2 : Nat) (bs bs2 : List UInt8) (w : World) (h : Codes w w.heap.size A bs) (hcap : bs.length ≤ cap) (hcm : cap ≤ maxLen) (hcap2 : bs2.length ≤ cap2) (hcm2 : cap2 ≤ maxLen) :
    Calls Try.prog 4 #[.slice A bs.length cap, .slice A2 bs2.length cap2] w fun e w' => e = .returned (.bool true) ∧ Below w.heap.size w w' := by
  have hlm : bs.length ≤ maxLen := Nat.le_trans hcap hcm
  have hlm2 := hlm
  have hlm3 : bs2.length ≤ maxLen := Nat.le_trans hcap2 hcm2
  unfold maxLen at hlm2 hlm3
  by_cases g1 : 1048576 < bs.length
  · have d1 : decide ((1048576 : Int) < (bs.length : Int)) = true := by simp; omega
    go_enter Try.func4, Try.ntmps4
    go_wp2_with fail
    go_ret
    exact ⟨rfl, Below.refl _ _⟩
  · have d1 : decide ((1048576 : Int) < (bs.length : Int)) = false := by simp; omega
    by_cases g2 : 1048576 < bs2.length
    · have d2 : decide ((1048576 : Int) < (bs2.length : Int)) = true := by simp; omega
      go_enter Try.func4, Try.ntmps4
      go_wp2_with fail
      go_ret
      exact ⟨rfl, Below.refl _ _⟩
    · have d2 : decide ((1048576 : Int) < (bs2.length : Int)) = false := by simp; omega
      go_enter Try.func4, Try.ntmps4
      go_wp2_with fail
      refine (spec_DrawVertexMany w A cap bs h (by omega) hcap hcm).mono ?_
      rintro e w1 ⟨B, xs, c, rfl, hI, hc, hcmx, hx8, hSm, hb1⟩
      clear hSm
      obtain ⟨v, hv⟩ : ∃ v, v = vmI xs := ⟨_, rfl⟩
      have HV := Lib.hid hv
      clear hv
      go_wp2_with fail
      refine (impl_VertexMany B c xs w1 hI (by unfold maxLen; omega)).mono ?_
      rintro e w2 ⟨rfl, hb2⟩
      rw [← HV.out]
      have b2 := below_from hb1 hb2 hb1.size
      have hI2 := hI.below hb2
      clear hb1 hb2 hI
      go_wp2_with fail
      refine (spec_VertexMany B c xs w2 hI2 (by unfold maxLen; omega) hc hcmx).mono ?_
      rintro e w3 ⟨rfl, hb3⟩
      rw [← HV.out]
      have b3 := below_from b2 hb3 b2.size
      have hI3 := hI2.below hb3
      clear b2 hb3 hI2
      have q1 : (v == v) = true := by simp
      have q2 : (v != v) = false := by simp
      cases ha : avB xs with
      | false =>
        have q3 : decide (v < 0) = true := by rw [HV.out, vm_no ha]; rfl
        clear ha
        go_wp2_with fail
        go_ret
        exact ⟨rfl, b3⟩
      | true =>
        obtain ⟨he, l2, _, _, _⟩ := avB_parts ha
        obtain ⟨v0, v1⟩ := vm_bd ha
        rw [← HV.out] at v0 v1
        have q3 : decide (v < 0) = false := by simp; omega
        have HE := Lib.hid (vm_even ha)
        have HP := Lib.hid (vm_pos ha)
        have HL := Lib.hid (vm_chs ha hx8)
        obtain ⟨n, hn⟩ : ∃ n, n = xs.length := ⟨_, rfl⟩
        obtain ⟨k, hk⟩ : ∃ k, k = bs2.length % n := ⟨_, rfl⟩
        rw [← hn] at l2 hc hx8 he
        have hkn : k < n := hk ▸ Nat.mod_lt _ (by omega)
        have t1 : ((bs2.length : Int).tmod (n : Int)) = (k : Int) := by rw [Int.tmod_eq_emod_of_nonneg (by omega), hk]; simp
        have t2 : ((bs2.length : Int) % (n : Int)) = (k : Int) := by rw [hk]; simp
        have t3 : ((n : Int) == 0) = false := by rw [beq_eq_false_iff_ne]; clear t1 t2; omega
        have HK := Lib.hid (And.intro t1 t2)
        clear t1 t2 hk
        have HN := Lib.hid hn
        rw [← HN.out]
        have HA := Lib.hid ha
        obtain ⟨ys, hys⟩ : ∃ ys, ys = xs.drop k ++ xs.take k := ⟨_, rfl⟩
        have hyl : ys.length ≤ 8 := by rw [hys]; simp; omega
        have hturn : ∀ W : World, Ints W B xs → Calls Try.prog 23 #[.slice B n c, .int .i64 k] W fun e w' => ∃ v, e = .returned (.tuple #[v, .bool true]) ∧ Own w' W.heap.size v ys ∧ Below W.heap.size W w' := by
          intro W hI
          rw [HN.out, hys]
          exact impl_AnglesTurn B c xs k W hI HA.out (by rw [← HN.out]; exact hkn) (by rw [← HN.out]; exact hc) hcmx
        have HTURN := Lib.hid hturn
        have hmany : ∀ (W : World) (D : Option Addr) (cd : Nat), Ints W D ys → Calls Try.prog 21 #[.slice D ys.length cd] W fun e w' => e = .returned (.int .i64 v) ∧ Below W.heap.size W w' := by
          intro W D cd hI
          have := impl_VertexMany D cd ys W hI (by unfold maxLen; omega)
          rw [show vmI ys = v from by rw [hys, vm_turn (xs.take k) (xs.drop k), List.take_append_drop, ← HV.out]] at this
          exact this
        have HMANY := Lib.hid hmany
        have hclose : ∀ W : World, Ints W B xs → Calls Try.prog 24 #[.slice B n c] W fun e w' => e = .returned (.bool (acB xs)) ∧ W = w' := by
          intro W hI
          rw [HN.out]
          exact impl_AnglesCloses B c xs W hI (by unfold maxLen; have := HN.out; omega)
        have HCLOSE := Lib.hid hclose
        clear ha hn hturn hmany hclose hys
        obtain ⟨t1, t2⟩ := HK.out
        go_wp2_with fail
        clear t1 t2
        refine (HTURN.out w3 hI3).mono ?_
        rintro e w4 ⟨x, rfl, hown, hb4⟩
        obtain ⟨D, cd, rfl, hID, _, _⟩ := hown.form
        have b4 := below_from b3 hb4 b3.size
        have hI4 := hI3.below hb4
        clear hown hb4 hI3 b3
        go_wp2_with fail
        go_loop [11, 12] (fun s11 s12 => ∃ (i y : Nat), 1 ≤ i ∧ i ≤ n / 2 ∧ s12 = .int .i64 i ∧ s11 = .int .i64 y ∧ y ≤ 56 ∧ Hid (y = chs n i)) (fun _ s12 => n - (intOf s12).toNat)
        case atStart => exact ⟨1, 1, Nat.le_refl _, by omega, rfl, rfl, by omega, rfl⟩
        case round =>
          obtain ⟨i, y, hi1, hi2, rfl, rfl, hy, HY⟩ := hrel
          by_cases hlt : i < n / 2
          · have dl : decide ((i : Int) < (n : Int) / 2) = true := by simp; omega
            obtain ⟨p, hp⟩ : ∃ p, p = y * (n - i + 1) := ⟨_, rfl⟩
            have hp2 : p ≤ 504 := hp ▸ Nat.le_trans (Nat.mul_le_mul hy (show n - i + 1 ≤ 9 by omega)) (by decide)
            have hpi : (y : Int) * ((n : Int) - (i : Int) + 1) = (p : Int) := by
              rw [hp, show (n : Int) - (i : Int) + 1 = ((n - i + 1 : Nat) : Int) from by omega]; simp
            obtain ⟨z, hz⟩ : ∃ z, z = p / i := ⟨_, rfl⟩
            have hzc : z = chs n (i + 1) := by rw [hz, hp, chs_succ n i hi1, ← HY.out]
            have hz2 : z ≤ 56 := hzc ▸ chs_all n (by omega) (i + 1) (by omega) (by omega)
            have t1 : ((p : Int).tdiv (i : Int)) = (z : Int) := by rw [Int.tdiv_eq_ediv_of_nonneg (by omega), hz]; simp
            have t2 : ((p : Int) / (i : Int)) = (z : Int) := by rw [hz]; simp
            have HZ := Lib.hid hzc
            have i0 : ((i : Int) == 0) = false := by rw [beq_eq_false_iff_ne]; clear t1 t2 hpi; omega
            have i1 : (i : Int) ≤ (n : Int) := by clear t1 t2 hpi; omega
            have i2 : ¬ i = 0 := by clear t1 t2 hpi; omega
            clear hz hzc hp
            go_wp2_with fail
            clear t1 t2 hpi
            go_round
            case rel => exact ⟨i + 1, z, by omega, by omega, by go_num, rfl, hz2, HZ⟩
            case measure => simp [intOf]; omega
          · have dl : decide ((i : Int) < (n : Int) / 2) = false := by simp; omega
            have hin : i = n / 2 := by omega
            have r1 : (v % 2 == 0) = true := by rw [beq_iff_eq, HV.out]; exact HE.out
            have r2 : decide (v ≤ 2 * (y : Int)) = true := by
              rw [decide_eq_true_eq]
              have := HL.out
              rw [HV.out, HY.out, hin, HN.out]; exact this
            have hpos := HP.out
            rw [← HV.out] at hpos
            clear hin
            cases hac : acB xs with
            | true =>
              rw [hac] at hpos
              have HAC := Lib.hid hac
              clear hac
              go_wp2_with fail
              refine (HCLOSE.out w4 hI4).mono ?_
              rintro e w' ⟨rfl, rfl⟩
              rw [HAC.out]
              go_wp2_with fail
              refine (HMANY.out w4 D cd hID).mono ?_
              rintro e w5 ⟨rfl, hb5⟩
              go_wp2_with fail
              go_ret
              exact ⟨rfl, below_from b4 hb5 b4.size⟩
            | false =>
              rw [hac] at hpos
              have HAC := Lib.hid hac
              clear hac
              go_wp2_with fail
              refine (HCLOSE.out w4 hI4).mono ?_
              rintro e w' ⟨rfl, rfl⟩
              rw [HAC.out]
              go_wp2_with fail
              refine (HMANY.out w4 D cd hID).mono ?_
              rintro e w5 ⟨rfl, hb5⟩
              go_wp2_with fail
              go_ret
              exact ⟨rfl, below_from b4 hb5 b4.size⟩

end Go.Proofs.Ytkdakceahoihjaa
