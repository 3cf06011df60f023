/- The law that a vertex is a ring of its angles: the walk of the law itself. No condition but sizes. -/
import Derived.Test.YtngpeehjjcgmmaaDrawD
import Derived.Test.YtngpeehjjcgmmaaTurnJ
import Derived.Test.YtngpeehjjcgmmaaHelpA
import Derived.Test.YtngpeehjjcgmmaaFnVertexRingP52
namespace Go.Proofs.Ytngpeehjjcgmmaa
open Go.RowKit

theorem fvB_txtR (n k : Nat) : fvB (txt n k).data.toList (n : Int) = true := by
  have h : ∀ (n k : Nat), (txtL n k).all mvB = true := by
    intro n k
    induction n with
    | zero => rfl
    | succ n ih =>
      show (mvB (bitL k n) && (txtL n k).all mvB) = true
      rw [ih, Bool.and_true]
      unfold bitL
      split <;> decide
  unfold fvB
  have e : (txt n k).data.toList = txtL n k := rfl
  rw [e, txtL_len]
  simp
  intro c hc
  exact List.all_eq_true.1 (h n k) c hc
/-- a vertex that folds is a ring -/
theorem vf_ring {xs : List Int} {s : ByteArray} (ha : acB xs = true) (h6 : xs.length ≤ 6) (hf : fvB s.data.toList xs.length = true) : rvB xs s.data.toList = true := by
  obtain ⟨h1, h2⟩ := (acB_iff xs).1 ha
  obtain ⟨p1, p2, p3, p4, _⟩ := avB_parts h1
  unfold rvB lvB
  simp only [Bool.and_eq_true, decide_eq_true_eq, List.all_eq_true]
  exact ⟨⟨⟨⟨⟨by omega, by omega⟩, fun x hx => ⟨(p4 x hx).1, by have := (p4 x hx).2; omega⟩⟩, p1⟩, hf⟩, by rw [balB_alt, h2]; decide⟩
theorem vf_rf {xs : List Int} {s : ByteArray} (ha : acB xs = true) (h6 : xs.length ≤ 6) (hf : fvB s.data.toList xs.length = true) : rfB xs s = vfB xs s := by
  unfold rfB vfB
  rw [vf_ring ha h6 hf, ha, hf]; rfl
theorem first_vf {xs : List Int} {s : ByteArray} (ha : acB xs = true) (h6 : xs.length ≤ 6) (hf : fvB s.data.toList xs.length = true) : (rfirst xs s).isSome = vfB xs s := by
  have h1 := rfirst_some xs s
  rw [ring_layers (vf_ring ha h6 hf), vf_rf ha h6 hf] at h1
  exact boolx h1
set_option maxHeartbeats 4000000 in
set_option maxRecDepth 100000 in
theorem law_FnVertexRing (A A2 : Option Addr) (cap cap2 : Nat) (bs bs2 : List UInt8) (w : World) (h : Codes w w.heap.size A bs) (hcap : bs.length ≤ cap) (hcm : cap ≤ maxLen) (hcap2 : bs2.length ≤ cap2) (hcm2 : cap2 ≤ maxLen) :
    Calls Try.prog 3 #[.slice A bs.length cap, .slice A2 bs2.length cap2] w fun e w' => e = .returned (.bool true) ∧ Below w.heap.size w w' := by
  have hlm : bs.length ≤ maxLen := Nat.le_trans hcap hcm
  have hlm2 := hlm
  have hlm3 : bs2.length ≤ maxLen := Nat.le_trans hcap2 hcm2
  unfold maxLen at hlm2 hlm3
  by_cases g1 : 1048576 < bs.length
  · have d1 : decide ((1048576 : Int) < (bs.length : Int)) = true := by simp; omega
    go_enter Try.func3, Try.ntmps3
    go_wp2_with fail
    go_ret
    exact ⟨rfl, Below.refl _ _⟩
  · have d1 : decide ((1048576 : Int) < (bs.length : Int)) = false := by simp; omega
    by_cases g2 : 1048576 < bs2.length
    · have d2 : decide ((1048576 : Int) < (bs2.length : Int)) = true := by simp; omega
      go_enter Try.func3, Try.ntmps3
      go_wp2_with fail
      go_ret
      exact ⟨rfl, Below.refl _ _⟩
    · have d2 : decide ((1048576 : Int) < (bs2.length : Int)) = false := by simp; omega
      go_enter Try.func3, Try.ntmps3
      go_wp2_with fail
      refine (spec_DrawVertexFolds w A cap bs h (by omega) hcap hcm).mono ?_
      rintro e w1 ⟨B, xs, c, s, rfl, hI, hc, hcmx, hx10, hSm, hs, hb1⟩
      have HB1 := Lib.hid hb1
      have HI1 := Lib.hid hI
      clear hSm hb1 hI
      have HVI := Lib.hid (fun (W : World) (hb : Below w1.heap.size w1 W) (t : ByteArray) (ht : t.size ≤ 20) => impl_VertexFolds B c xs t W (HI1.out.below hb) (by unfold maxLen; omega) (by unfold maxLen; omega))
      have HVS := Lib.hid (fun (W : World) (hb : Below w1.heap.size w1 W) => spec_VertexFolds B c xs s W (HI1.out.below hb) (by unfold maxLen; omega) (by unfold maxLen; omega) hc hcmx)
      have HV1 := Lib.hid (HVI.out w1 (Below.refl _ _) s hs)
      cases hv : vfB xs s with
      | false =>
        rw [hv] at HV1 HVS
        clear hv HVI
        go_wp2_with fail
        refine HV1.out.mono ?_
        rintro e w2 ⟨rfl, hb2⟩
        have HB2 := Lib.hid hb2
        clear hb2 HV1
        go_wp2_with fail
        refine (HVS.out w2 HB2.out).mono ?_
        rintro e w3 ⟨rfl, hb3⟩
        have HB3 := Lib.hid (HB2.out.trans (hb3.mono HB2.out.size))
        clear hb3 HB2 HVS
        go_wp2_with fail
        go_ret
        exact ⟨rfl, below_from HB1.out HB3.out HB1.out.size⟩
      | true =>
        rw [hv] at HV1 HVS
        have hpar : acB xs = true ∧ fvB s.data.toList xs.length = true := by
          have := hv
          unfold vfB at this
          simp only [Bool.and_eq_true] at this
          exact this.1
        obtain ⟨hac, hfv⟩ := hpar
        obtain ⟨p1, p2, p3, _, _⟩ := avB_parts ((acB_iff xs).1 hac).1
        have HAC := Lib.hid (fun (W : World) (hb : Below w1.heap.size w1 W) => impl_AnglesCloses B c xs W (HI1.out.below hb) (by unfold maxLen; omega))
        rw [hac] at HAC
        by_cases h6 : 6 < xs.length
        · have d6 : decide ((6 : Int) < (xs.length : Int)) = true := by simp; omega
          clear hv HVI hac hfv
          go_wp2_with fail
          refine HV1.out.mono ?_
          rintro e w2 ⟨rfl, hb2⟩
          have HB2 := Lib.hid hb2
          clear hb2 HV1
          go_wp2_with fail
          refine (HVS.out w2 HB2.out).mono ?_
          rintro e w3 ⟨rfl, hb3⟩
          have HB3 := Lib.hid (HB2.out.trans (hb3.mono HB2.out.size))
          clear hb3 HB2 HVS
          go_wp2_with fail
          refine (HAC.out w3 HB3.out).mono ?_
          rintro e _ ⟨rfl, rfl⟩
          go_wp2_with fail
          go_ret
          exact ⟨rfl, below_from HB1.out HB3.out HB1.out.size⟩
        · have d6 : decide ((6 : Int) < (xs.length : Int)) = false := by simp; omega
          have h6' : xs.length ≤ 6 := by omega
          have hr1 := vf_ring hac h6' hfv
          have hfs := first_vf hac h6' hfv
          have hrf := vf_rf hac h6' hfv
          rw [hv] at hfs hrf
          obtain ⟨L, hL⟩ := Option.isSome_iff_exists.1 hfs
          have hrl := rfirst_right hL
          have hll := right_len hrl
          have HF1 := Lib.hid (fun (W : World) (hb : Below w1.heap.size w1 W) => impl_RingFirst B c xs s W (HI1.out.below hb) hr1)
          rw [hL] at HF1
          have HRF := Lib.hid (fun (W : World) (hb : Below w1.heap.size w1 W) => impl_RingFolds B c xs s W (HI1.out.below hb) (by unfold maxLen; omega) (by unfold maxLen; omega))
          rw [hrf] at HRF
          have HRL := Lib.hid (fun (W : World) (A' : Option Addr) (c' : Nat) (hb : Below w1.heap.size w1 W) (hIL : Ints W A' L) => impl_RingLayers B A' c c' xs L s W (HI1.out.below hb) hIL (by omega) hr1)
          rw [hrl] at HRL
          obtain ⟨n, hn⟩ : ∃ n, n = xs.length := ⟨_, rfl⟩
          obtain ⟨P, hP⟩ : ∃ P, P = 2 ^ n := ⟨_, rfl⟩
          have hPp : 0 < P := by rw [hP]; exact Nat.two_pow_pos _
          have hP64 : P ≤ 64 := by rw [hP]; exact Nat.le_trans (Nat.pow_le_pow_right (by decide : 1 ≤ 2) (show n ≤ 6 by omega)) (by decide)
          obtain ⟨m, hm⟩ : ∃ m, m = bs2.length % P := ⟨_, rfl⟩
          have hmP : m < P := by rw [hm]; exact Nat.mod_lt _ hPp
          have t1 : ((bs2.length : Int).tmod (P : Int)) = (m : Int) := by rw [Int.tmod_eq_emod_of_nonneg (by omega), hm]; simp
          have t2 : ((bs2.length : Int) % (P : Int)) = (m : Int) := by rw [hm]; simp
          have hPz : ((P : Int) == 0) = false := by rw [beq_eq_false_iff_ne]; omega
          have HPW : Hid (∀ W : World, Calls Try.prog 11 #[.int .i64 n] W fun e w' => e = .returned (.int .i64 (P : Int)) ∧ W = w') := by
            show ∀ W : World, _
            intro W
            have := laws_power n W (by omega)
            rw [← hP] at this; exact this
          have HFO : Hid (∀ W : World, Calls Try.prog 10 #[.int .i64 n, .int .i64 m] W fun e w' => e = .returned (.string (txt n m)) ∧ W = w') := fun W => laws_foldsOf n m W (by omega) (by omega)
          have hfT : fvB (txt n m).data.toList xs.length = true := by rw [← hn]; exact fvB_txtR n m
          have hTs : (txt n m).size = n := txt_size n m
          obtain ⟨T, hT⟩ : ∃ T, T = txt n m := ⟨_, rfl⟩
          rw [← hT] at HFO hfT hTs
          have hrT := vf_ring hac h6' hfT
          have hfsT := first_vf hac h6' hfT
          have HBT := Lib.hid (fun W : World => impl_FoldsBalance T W (by omega))
          have HF2 := Lib.hid (fun (W : World) (hb : Below w1.heap.size w1 W) => impl_RingFirst B c xs T W (HI1.out.below hb) hrT)
          have HVT := Lib.hid (fun (W : World) (hb : Below w1.heap.size w1 W) => HVI.out W hb T (by omega))
          rw [hfsT] at HF2
          have hbal : vfB xs T = true → balT T.data.toList = 2 ∨ balT T.data.toList = -2 := fun hq => vf_bal (xs := xs) (cs := T.data.toList) (by rw [bts_of]; exact hq)
          obtain ⟨z, hz⟩ : ∃ z, z = balT T.data.toList := ⟨_, rfl⟩
          rw [← hz] at HBT hbal
          obtain ⟨q, hq⟩ : ∃ q, q = vfB xs T := ⟨_, rfl⟩
          rw [← hq] at HF2 HVT hbal
          have HN := Lib.hid hn
          have HLL := Lib.hid hll
          have HTM := Lib.hid (And.intro t1 t2)
          rw [← hn] at HF1 HRF HRL HF2 HVT HV1 HVS d6 ⊢
          clear hv HVI HAC hac hfv hr1 hfs hrf hL hrl hn hP hm hfT hT hrT hfsT hz hq hll p1 p2 p3 hx10 h6 h6' hTs
          go_wp2_with fail
          refine HV1.out.mono ?_
          rintro e w2 ⟨rfl, hb2⟩
          have HB2 := Lib.hid hb2
          clear hb2 HV1
          go_wp2_with fail
          refine (HVS.out w2 HB2.out).mono ?_
          rintro e w3 ⟨rfl, hb3⟩
          have HB3 := Lib.hid (HB2.out.trans (hb3.mono HB2.out.size))
          clear hb3 HB2 HVS
          go_wp2_with fail
          refine (HF1.out w3 HB3.out).mono ?_
          rintro e w4 ⟨v4, rfl, ho4, hb4⟩
          obtain ⟨A4, c4, rfl, hi4, _, _⟩ := Own.form ho4
          have HB4 := Lib.hid (HB3.out.trans (hb4.mono HB3.out.size))
          have HI4 := Lib.hid hi4
          clear hb4 HB3 HF1 ho4 hi4
          go_wp2_with fail
          refine (HPW.out w4).mono ?_
          rintro e _ ⟨rfl, rfl⟩
          go_wp2_with fail
          refine (HFO.out w4).mono ?_
          rintro e _ ⟨rfl, rfl⟩
          go_wp2_with fail
          refine (HBT.out w4).mono ?_
          rintro e _ ⟨rfl, rfl⟩
          go_wp2_with fail
          refine (HF2.out w4 HB4.out).mono ?_
          rintro e w5 ⟨v5, rfl, _, hb5⟩
          have HB5 := Lib.hid (HB4.out.trans (hb5.mono HB4.out.size))
          have HI5 := Lib.hid (HI4.out.below hb5)
          clear hb5 HB4 HF2 HI4
          go_wp2_with fail
          refine (HRF.out w5 HB5.out).mono ?_
          rintro e w6 ⟨rfl, hb6⟩
          have HB6 := Lib.hid (HB5.out.trans (hb6.mono HB5.out.size))
          have HI6 := Lib.hid (HI5.out.below hb6)
          clear hb6 HB5 HRF HI5
          go_wp2_with fail
          refine (HRL.out w6 A4 c4 HB6.out HI6.out).mono ?_
          rintro e w7 ⟨rfl, hb7⟩
          have HB7 := Lib.hid (HB6.out.trans (hb7.mono HB6.out.size))
          clear hb7 HB6 HRL HI6
          cases q with
          | true =>
            rcases hbal rfl with rfl | rfl
            · clear hbal
              go_wp2_with fail
              refine (HVT.out w7 HB7.out).mono ?_
              rintro e w8 ⟨rfl, hb8⟩
              have HB8 := Lib.hid (HB7.out.trans (hb8.mono HB7.out.size))
              clear hb8 HB7 HVT
              go_wp2_with fail
              go_ret
              exact ⟨rfl, below_from HB1.out HB8.out HB1.out.size⟩
            · clear hbal
              go_wp2_with fail
              refine (HVT.out w7 HB7.out).mono ?_
              rintro e w8 ⟨rfl, hb8⟩
              have HB8 := Lib.hid (HB7.out.trans (hb8.mono HB7.out.size))
              clear hb8 HB7 HVT
              go_wp2_with fail
              go_ret
              exact ⟨rfl, below_from HB1.out HB8.out HB1.out.size⟩
          | false =>
            clear hbal
            by_cases z1 : z = 2
            · subst z1
              go_wp2_with fail
              refine (HVT.out w7 HB7.out).mono ?_
              rintro e w8 ⟨rfl, hb8⟩
              have HB8 := Lib.hid (HB7.out.trans (hb8.mono HB7.out.size))
              clear hb8 HB7 HVT
              go_wp2_with fail
              go_ret
              exact ⟨rfl, below_from HB1.out HB8.out HB1.out.size⟩
            · by_cases z2 : z = -2
              · subst z2
                go_wp2_with fail
                refine (HVT.out w7 HB7.out).mono ?_
                rintro e w8 ⟨rfl, hb8⟩
                have HB8 := Lib.hid (HB7.out.trans (hb8.mono HB7.out.size))
                clear hb8 HB7 HVT
                go_wp2_with fail
                go_ret
                exact ⟨rfl, below_from HB1.out HB8.out HB1.out.size⟩
              · have y1 : (z == 2) = false := by rw [beq_eq_false_iff_ne]; exact z1
                have y2 : (z == -2) = false := by rw [beq_eq_false_iff_ne]; exact z2
                clear z1 z2
                go_wp2_with fail
                refine (HVT.out w7 HB7.out).mono ?_
                rintro e w8 ⟨rfl, hb8⟩
                have HB8 := Lib.hid (HB7.out.trans (hb8.mono HB7.out.size))
                clear hb8 HB7 HVT
                go_wp2_with fail
                go_ret
                exact ⟨rfl, below_from HB1.out HB8.out HB1.out.size⟩
end Go.Proofs.Ytngpeehjjcgmmaa
