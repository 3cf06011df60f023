/- The drawn vertices: 'l91Vertex' and the draws of laws on vertices. No condition but sizes. -/
import Derived.Test.YtngpeehjjcgmmaaDrawB
import Derived.Test.YtngpeehjjcgmmaaVMany
import Derived.Test.YtngpeehjjcgmmaaSpecG
namespace Go.Proofs.Ytngpeehjjcgmmaa
open Go.RowKit

set_option maxHeartbeats 2000000 in
theorem spec_l91Vertex (w : World) (r : Nat) (A : Option Addr) (cap : Nat) (bs : List UInt8) (q most : Nat) (h : Rd w r A cap bs q) (hq : q ≤ 600000) (h2 : 2 ≤ most) (h10 : most ≤ 10) :
    Calls Try.prog 18 #[ptr r, .int .i64 most] w fun e w' => ∃ (B : Option Addr) (xs : List Int) (c : Nat) (s : ByteArray) (q' : Nat), e = .returned (.tuple #[.slice B xs.length c, .string s]) ∧ Away w' r B xs ∧ xs.length ≤ c ∧ c ≤ maxLen ∧ xs.length ≤ most ∧ Small xs ∧ s.size ≤ 20 ∧ q' ≤ q + 100 ∧ Rd w' r A cap bs q' ∧ w.grownBy w' (some r) := by
  go_enter Try.func18, Try.ntmps18
  go_wp2_with fail
  refine (spec_l91Angles w r A cap bs q most h (by omega) h2 h10).mono ?_
  rintro e w1 ⟨B, xs, c, q1, rfl, hA, hc, hcm, hxm, hSm, hq1, R1, G1⟩
  have HSm := Lib.hid hSm
  have HA := Lib.hid hA
  have hcm2 := hcm
  have hl : xs.length ≤ maxLen := by omega
  unfold maxLen at hcm2
  clear hSm hA
  go_wp2_with fail
  refine (spec_AnglesValid B c xs w1 HA.out.ints hl).mono ?_
  rintro e w' ⟨rfl, rfl⟩
  cases hv : avB xs with
  | false =>
    go_wp2_with fail
    refine (spec_pick w1 r A cap bs q1 20 R1 (by omega) (by omega)).mono ?_
    rintro e w8 ⟨v, rfl, hv, R8, g8⟩
    have G8 := G1.trans g8
    have HA8 := Lib.hid (HA.out.grown g8)
    clear hv g8 HA G1
    by_cases v0 : v = 0
    · subst v0
      go_wp2_with fail
      refine (spec_l91Any w8 r A cap bs _ R8 (by omega)).mono ?_
      rintro e w9 ⟨t, q9, rfl, ht, hq9, R9, g9⟩
      go_wp2_with fail
      go_ret2
      exact ⟨B, xs, c, t, q9, rfl, HA8.out.grown g9, hc, hcm, hxm, HSm.out, by omega, by omega, R9, G8.trans g9⟩
    · have e00 : ((v : Int) == 0) = false := by rw [beq_eq_false_iff_ne]; omega
      go_wp2_with fail
      refine (spec_l91Text w8 r A cap bs _ xs.length R8 (by omega) (by omega)).mono ?_
      rintro e w9 ⟨t, rfl, ht, R9, g9⟩
      have HTs := Lib.hid ht
      clear ht
      go_wp2_with fail
      go_ret2
      exact ⟨B, xs, c, t, _, rfl, HA8.out.grown g9, hc, hcm, hxm, HSm.out, by rw [HTs.out]; omega, by omega, R9, G8.trans g9⟩
  | true =>
    obtain ⟨_, _, _, hx, _⟩ := avB_parts hv
    have HX := Lib.hid hx
    clear hx hv
    go_wp2_with fail
    refine (spec_pick w1 r A cap bs q1 2 R1 (by omega) (by omega)).mono ?_
    rintro e w2 ⟨n, rfl, hn, R2, g2⟩
    have G2 := G1.trans g2
    have HA2 := Lib.hid (HA.out.grown g2)
    clear HA g2
    by_cases n0 : n = 0
    · subst n0
      obtain ⟨P, hPe⟩ : ∃ P, P = 2 ^ xs.length := ⟨_, rfl⟩
      have hP : P ≤ 1024 := hPe ▸ pow_le_1024 (by omega)
      have hP1 : 1 ≤ P := hPe ▸ Nat.one_le_two_pow
      have HP := Lib.hid hPe
      clear hPe hn
      go_wp2_with fail
      refine (spec_pick w2 r A cap bs (q1 + 1) 128 R2 (by omega) (by omega)).mono ?_
      rintro e w3 ⟨m, rfl, hm, R3, g3⟩
      have hm128 : m < 128 := by omega
      have G3 := G2.trans g3
      have HA3 := Lib.hid (HA2.out.grown g3)
      clear HA2 g3 hm
      go_wp2_with fail
      refine (spec_l1Power xs.length w3 (by omega)).mono ?_
      rintro e w' ⟨rfl, rfl⟩
      rw [← HP.out]
      have hmP : m * P ≤ 130048 := Nat.le_trans (Nat.mul_le_mul (show m ≤ 127 by omega) hP) (by decide)
      have hmP2 : (m : Int) * (P : Int) = ((m * P : Nat) : Int) := by simp
      obtain ⟨M, hM⟩ : ∃ M, M = m * P := ⟨_, rfl⟩
      rw [← hM] at hmP hmP2
      obtain ⟨F, hF⟩ : ∃ F, F = M / 128 := ⟨_, rfl⟩
      have hfr : (M : Int) / 128 = (F : Int) := by omega
      have hF2 : F ≤ 1016 := by omega
      have hm0 : (0 : Int) ≤ (M : Int) := by omega
      clear hF hM
      go_wp2_with fail
      clear hmP2 hfr
      go_loopg [8, 9] (P + 1) (fun g s8 s9 wr => ∃ (k : Nat), k ≤ P ∧ s8 = .int .i64 k ∧ P - k < g ∧ Below w3.heap.size w3 wr)
      case atStart => exact ⟨0, Nat.zero_le _, rfl, by omega, Below.refl _ _⟩
      case round =>
        obtain ⟨k, hk, rfl, hg, hbel⟩ := hrel
        have HA4 := Lib.hid (HA3.out.below hbel)
        have hsz := hbel.size
        cases gk with
        | zero => omega
        | succ g =>
        by_cases hlt : k < P
        · obtain ⟨m1, hm1⟩ : ∃ m1, m1 = (F + k) % P := ⟨_, rfl⟩
          have l1 : m1 < P := hm1 ▸ Nat.mod_lt _ (by omega)
          have t1 : (((F : Int) + (k : Int)).tmod (P : Int)) = (m1 : Int) := by rw [Int.tmod_eq_emod_of_nonneg (by omega), hm1]; simp
          have t2 : (((F : Int) + (k : Int)) % (P : Int)) = (m1 : Int) := by rw [hm1]; simp
          have hP0 : ((P : Int) == 0) = false := by rw [beq_eq_false_iff_ne]; clear t1 t2; omega
          clear hm1
          have hts := txt_size xs.length m1
          have HTS := Lib.hid hts
          have hP63 : (m1 : Nat) ≤ 1000000000000 := by clear t1 t2; omega
          have HT := Lib.hid (And.intro t1 t2)
          clear hts t1 t2
          have hk2 : k < P := hlt
          go_wp2_with fail
          refine (spec_l1Power xs.length wr (by omega)).mono ?_
          rintro e w' ⟨rfl, rfl⟩
          rw [← HP.out]
          go_wp2_with fail
          refine (spec_l1Power xs.length wr (by omega)).mono ?_
          rintro e w' ⟨rfl, rfl⟩
          rw [← HP.out]
          obtain ⟨t1, t2⟩ := HT.out
          go_wp2_with fail
          clear t1 t2
          refine (spec_l1Text xs.length m1 wr (by omega) hP63).mono ?_
          rintro e w' ⟨rfl, rfl⟩
          go_wp2_with fail
          refine (spec_VertexFolds B c xs (txt xs.length m1) wr HA4.out.ints hl (by rw [HTS.out]; exact hl) hc hcm).mono ?_
          rintro e w4 ⟨rfl, hb4⟩
          have hbel2 := hbel.trans (hb4.mono hsz)
          cases hvf : vfB xs (txt xs.length m1) with
          | true =>
            clear hvf
            have G4 := grown_below G3 (hbel2.mono G3.size)
            go_wp2_with fail
            go_ret2
            exact ⟨B, xs, c, _, q1 + 1 + 1, rfl, HA3.out.below hbel2, hc, hcm, hxm, HSm.out, by rw [HTS.out]; omega, by omega, R3.below hbel2 R3.blk.lt, G4⟩
          | false =>
            clear hvf
            go_wp2_with fail
            go_roundg g
            case measure => omega
            case rel => exact ⟨k + 1, by omega, by go_num, by omega, hbel2⟩
        · obtain rfl : k = P := by omega
          have R4 := R3.below hbel R3.blk.lt
          have G4 := grown_below G3 (hbel.mono G3.size)
          clear HA3 R3 hbel
          go_wp2_with fail
          refine (spec_l1Power xs.length wr (by omega)).mono ?_
          rintro e w' ⟨rfl, rfl⟩
          rw [← HP.out]
          go_wp2_with fail
          refine (spec_pick wr r A cap bs (q1 + 1 + 1) 20 R4 (by omega) (by omega)).mono ?_
          rintro e w8 ⟨v, rfl, hv, R8, g8⟩
          have G8 := G4.trans g8
          have HA8 := Lib.hid (HA4.out.grown g8)
          clear hv g8 HA4 G4
          by_cases v0 : v = 0
          · subst v0
            go_wp2_with fail
            refine (spec_l91Any w8 r A cap bs _ R8 (by omega)).mono ?_
            rintro e w9 ⟨t, q9, rfl, ht, hq9, R9, g9⟩
            go_wp2_with fail
            go_ret2
            exact ⟨B, xs, c, t, q9, rfl, HA8.out.grown g9, hc, hcm, hxm, HSm.out, by omega, by omega, R9, G8.trans g9⟩
          · have e00 : ((v : Int) == 0) = false := by rw [beq_eq_false_iff_ne]; omega
            go_wp2_with fail
            refine (spec_l91Text w8 r A cap bs _ xs.length R8 (by omega) (by omega)).mono ?_
            rintro e w9 ⟨t, rfl, ht, R9, g9⟩
            have HTs := Lib.hid ht
            clear ht
            go_wp2_with fail
            go_ret2
            exact ⟨B, xs, c, t, _, rfl, HA8.out.grown g9, hc, hcm, hxm, HSm.out, by rw [HTs.out]; omega, by omega, R9, G8.trans g9⟩
    · have e0 : ((n : Int) == 0) = false := by rw [beq_eq_false_iff_ne]; omega
      go_wp2_with fail
      refine (spec_pick w2 r A cap bs (q1 + 1) 20 R2 (by omega) (by omega)).mono ?_
      rintro e w8 ⟨v, rfl, hv, R8, g8⟩
      have G8 := G2.trans g8
      have HA8 := Lib.hid (HA2.out.grown g8)
      clear hv g8 HA2 G2
      by_cases v0 : v = 0
      · subst v0
        go_wp2_with fail
        refine (spec_l91Any w8 r A cap bs _ R8 (by omega)).mono ?_
        rintro e w9 ⟨t, q9, rfl, ht, hq9, R9, g9⟩
        go_wp2_with fail
        go_ret2
        exact ⟨B, xs, c, t, q9, rfl, HA8.out.grown g9, hc, hcm, hxm, HSm.out, by omega, by omega, R9, G8.trans g9⟩
      · have e00 : ((v : Int) == 0) = false := by rw [beq_eq_false_iff_ne]; omega
        go_wp2_with fail
        refine (spec_l91Text w8 r A cap bs _ xs.length R8 (by omega) (by omega)).mono ?_
        rintro e w9 ⟨t, rfl, ht, R9, g9⟩
        have HTs := Lib.hid ht
        clear ht
        go_wp2_with fail
        go_ret2
        exact ⟨B, xs, c, t, _, rfl, HA8.out.grown g9, hc, hcm, hxm, HSm.out, by rw [HTs.out]; omega, by omega, R9, G8.trans g9⟩
end Go.Proofs.Ytngpeehjjcgmmaa
