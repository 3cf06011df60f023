/- A crimp is told: the walk of the law. No condition but what the row says of memory, and sizes. The table of powers of ten, out of what a row lists. No condition. -/
import Derived.Test.YtmohfibgefcefaaGreatDoorDrawD
import Derived.Test.YtmohfibgefcefaaGreatDoorCrimpW
import Derived.Test.YtmohfibgefcefaaGreatDoorHelpA
import Derived.Test.YtmohfibgefcefaaGreatDoorFnExecuteCrimpP52
import Derived.Test.YtmohfibgefcefaaGreatDoorCard
import Derived.Test.YtmohfibgefcefaaGreatDoorFnExecuteCrimpP49
namespace Go.Proofs.YtmohfibgefcefaaGreatDoor
open Go.RowKit

theorem vcB_no {xs : List Int} {s : ByteArray} {i : Int} (h : vcB xs s i = false) : vcY xs s i = [] ∧ vcS xs s i = ByteArray.empty := by
  unfold vcY vcS
  rw [h]; exact ⟨rfl, rfl⟩
theorem vcB_facts {xs : List Int} {s : ByteArray} {i : Int} (h : vcB xs s i = true) : avB xs = true ∧ fvB s.data.toList xs.length = true ∧ 0 ≤ i ∧ i < xs.length ∧ 4 ≤ xs.length ∧ xs.length ≤ 10 ∧ (vcY xs s i).length = xs.length - 2 ∧ (vcS xs s i).size = xs.length - 2 := by
  have hm : i ∈ vcL xs s := by unfold vcB at h; exact of_decide_eq_true h
  obtain ⟨h1, h2, h3, h4, h5, _⟩ := vcL_mem hm
  refine ⟨h1, h2, h3, by omega, h5, (avB_parts h1).2.2.1, ?_, ?_⟩
  · unfold vcY; rw [if_pos h]; exact vcrX_len _ _
  · unfold vcS; rw [if_pos h]; exact vcrF_size _ _ _
/-- the lines of a crimp's script -/
def lsC (xs : List Int) (F : List UInt8) (i : Nat) : List (List UInt8) := [joinC 32 (angWs xs), joinC 32 [[102, 111, 108, 100, 115], F], joinC 32 [[99, 114, 105, 109, 112], Lib.decDigits i]]
def stC (xs : List Int) (F : List UInt8) (k : Nat) : List Int × List UInt8 := if k = 0 then ([], []) else if k = 1 then (xs, []) else (xs, F)
def outC (T : List UInt8) (k : Nat) : List UInt8 := ([[111, 107], [111, 107], T][k]?).getD []
set_option maxHeartbeats 1000000 in
set_option maxRecDepth 100000 in
theorem exec_crimp (m : Int) (xs : List Int) (F T : List UInt8) (i : Nat) (hv : vcB xs (btj F) i = true) (hT : vcS xs (btj F) i = btj T) (w : World) (hm : w.cell? ⟨0, 0, none⟩ = some (.int .i64 m)) (h0 : 0 < w.heap.size) (hp : Pow w) :
    Calls Tryz.prog 13 #[.string (btj (scr (lsC xs F i)))] w fun e w' => e = .returned (.string (btj ([111, 107, 10, 111, 107, 10] ++ T ++ [10, 97, 110, 103, 108, 101, 115, 32] ++ Lib.decDigits xs.length ++ [10]))) ∧ Below w.heap.size w w' := by
  obtain ⟨hav, hFv, hi0, hi1, h4, h10, _, hTs⟩ := vcB_facts hv
  obtain ⟨_, p2, p3, p4, _⟩ := avB_parts hav
  have hFv' : fvB F xs.length = true := hFv
  have hFl : F.length = xs.length := by have := ((fvB_iff _ _).1 hFv').1; omega
  have hTl : T.length = xs.length - 2 := by rw [hT, btj_size] at hTs; exact hTs
  have hmv := ((fvB_iff _ _).1 hFv').2
  have hno : ∀ c : UInt8, mvB c = false → c ∉ F := fun c hc h => by rw [hmv c h] at hc; cases hc
  have hx : ∀ x ∈ xs, 0 ≤ x ∧ x < 10000 := fun x h => by have := p4 x h; omega
  have hal := angWs_len hx
  have hdl := decDigits_four (n := i) (by omega)
  have hsl : (scr (lsC xs F i)).length ≤ 300 := by
    have e : scr (lsC xs F i) = joinC 32 (angWs xs) ++ [10, 102, 111, 108, 100, 115, 32] ++ F ++ [10, 99, 114, 105, 109, 112, 32] ++ Lib.decDigits i ++ [10] := by simp [scr, lsC, joinC]
    rw [e]
    simp; omega
  have key := impl_Execute m (lsC xs F i) hsl (by
    intro x hx
    simp only [lsC, List.mem_cons, List.not_mem_nil, or_false] at hx
    rcases hx with rfl | rfl | rfl
    · exact joinC_no (by decide) _ (angWs_no10 xs)
    · refine joinC_no (by decide) _ ?_
      intro y hy
      simp only [List.mem_cons, List.not_mem_nil, or_false] at hy
      rcases hy with rfl | rfl
      · decide
      · exact hno 10 (by decide)
    · refine joinC_no (by decide) _ ?_
      intro y hy
      simp only [List.mem_cons, List.not_mem_nil, or_false] at hy
      rcases hy with rfl | rfl
      · decide
      · exact dec_no10 _) (by simp [lsC]) (stC xs F) (outC T) rfl (by show xs.length < 100; omega) (by
    intro k
    unfold outC
    match k with
    | 0 => simp
    | 1 => simp
    | 2 => simp; omega
    | (k + 3) => simp) w hm h0 (by
    intro k x hk td W htd hbW hD
    have hmW : W.cell? ⟨0, 0, none⟩ = some (.int .i64 m) := (hbW.cell (p := ⟨0, 0, none⟩) h0).trans hm
    have h0W : 0 < W.heap.size := Nat.lt_of_lt_of_le h0 hbW.size
    have hpW := hp.below hbW
    match k, hk with
    | 0, hk =>
      obtain rfl : joinC 32 (angWs xs) = x := Option.some.inj hk
      exact line_angles td m xs [] [] hav W hmW h0W hpW hD
    | 1, hk =>
      obtain rfl : joinC 32 [[102, 111, 108, 100, 115], F] = x := Option.some.inj hk
      exact line_folds td m xs F [] (by omega) hFv' (hno 32 (by decide)) (by omega) W hmW h0W hpW hD
    | 2, hk =>
      obtain rfl : joinC 32 [[99, 114, 105, 109, 112], Lib.decDigits i] = x := Option.some.inj hk
      refine impl_line td [99, 114, 105, 109, 112] [Lib.decDigits i] 5 (by decide) m T _ true rfl xs xs F F W hmW h0W hpW hD (by
        intro y hy
        simp only [List.mem_cons, List.not_mem_nil, or_false] at hy
        rcases hy with rfl | rfl
        · decide
        · exact dec_no32 _) (by simp [joinC]; omega) rfl fun b o V hpV hDV ho hB => ?_
      obtain rfl : o = 1 := ho (by simp)
      have hc := (hB.cell 1).trans (wordsV_get (ws := [[99, 114, 105, 109, 112], Lib.decDigits i]) (k := 1) rfl)
      have := impl_crimp td b 0 1 (Lib.decDigits i) xs F V hDV (by omega) hB.lt hc
      rw [numV_dec (by omega), hv, hT] at this
      refine this.mono ?_
      rintro e w' ⟨rfl, hb⟩
      exact ⟨rfl, grown_belowK hb, hDV.below hb⟩)
  refine key.mono ?_
  rintro e w' ⟨rfl, hb⟩
  refine ⟨?_, hb⟩
  have e5 : outTo (outC T) 3 = [111, 107, 10, 111, 107, 10] ++ T ++ [10] := by
    simp [outTo, outC, List.range_succ]
  show Ending.returned (.string (btj (outTo _ 3 ++ ([97, 110, 103, 108, 101, 115, 32] ++ Lib.decDigits xs.length ++ [10])))) = _
  rw [e5]
  simp
set_option maxHeartbeats 4000000 in
set_option maxRecDepth 100000 in
theorem law_FnExecuteCrimp (A : Option Addr) (cap : Nat) (bs : List UInt8) (w : World) (hx : ∃ m, w.cell? ⟨0, 0, none⟩ = some (.int .i64 m)) (h0 : 0 < w.heap.size) (hp : Pow w) (h : Codes w w.heap.size A bs) (hcap : bs.length ≤ cap) (hcm : cap ≤ maxLen) :
    Calls Tryz.prog 6 #[.slice A bs.length cap] w fun e w' => e = .returned (.bool true) ∧ Below w.heap.size w w' := by
  have hlm : bs.length ≤ maxLen := Nat.le_trans hcap hcm
  have hlm2 := hlm
  unfold maxLen at hlm2
  obtain ⟨m, hm⟩ := hx
  by_cases g1 : 1048576 < bs.length
  · have d1 : decide ((1048576 : Int) < (bs.length : Int)) = true := by simp; omega
    go_enter Tryz.func6, Tryz.ntmps6
    go_wp2_with fail
    go_ret
    exact ⟨rfl, Below.refl _ _⟩
  · have d1 : decide ((1048576 : Int) < (bs.length : Int)) = false := by simp; omega
    have HM := Lib.hid hm
    have HP := Lib.hid hp
    clear hm hp
    go_enter Tryz.func6, Tryz.ntmps6
    go_wp2_with fail
    refine (spec_DrawVertexCrimp w A cap bs h (by omega) hcap hcm).mono ?_
    rintro e w1 ⟨B, xs, c, s, i, rfl, hI, hc, hcm2, hlen, _, hs20, hb1⟩
    have HB1 := Lib.hid hb1
    obtain ⟨T, hT⟩ : ∃ T, T = (vcS xs s i).data.toList := ⟨_, rfl⟩
    have hTT : vcS xs s i = btj T := by rw [hT]
    have HI := Lib.hid (fun (W : World) (hb : Below w1.heap.size w1 W) => impl_VertexCrimp B c xs s i W (hI.below hb) (by unfold maxLen; omega) (by unfold maxLen; omega))
    have HS := Lib.hid (fun (W : World) (hb : Below w1.heap.size w1 W) => spec_VertexCrimp B c xs s i W (hI.below hb) (by unfold maxLen; omega) (by unfold maxLen; omega) hc hcm2)
    rw [hTT] at HI HS
    obtain ⟨ys, hys⟩ : ∃ ys, ys = vcY xs s i := ⟨_, rfl⟩
    rw [← hys] at HI HS
    have te : ((btj T).toList == (btj T).toList) = true := by simp
    have te2 : (T == T) = true := by simp
    cases hv : vcB xs s i with
    | false =>
      have hyl : ys.length ≤ maxLen := by rw [hys, (vcB_no hv).1]; unfold maxLen; simp
      rw [hv] at HI HS
      have HYL := Lib.hid hyl
      clear hv hT hTT hb1 hI hc hcm2 hys hyl
      go_wp2_with fail
      refine (HI.out w1 (Below.refl _ _)).mono ?_
      rintro e w2 ⟨v, rfl, ho2, hb2⟩
      obtain ⟨A2, c2, rfl, hi2, _, _⟩ := Own.form ho2
      have HBx := Lib.hid hb2
      have HB2 := Lib.hid (below_from HB1.out hb2 HB1.out.size)
      clear hb2 HB1 HI ho2
      go_wp2_with fail
      refine (HS.out w2 HBx.out).mono ?_
      rintro e w3 ⟨v, rfl, ho3, hb3⟩
      obtain ⟨A3, c3, rfl, hi3, _, _⟩ := Own.form ho3
      have HB3 := Lib.hid (below_from HB2.out hb3 HB2.out.size)
      have HSI := Lib.hid (fun (W : World) (hb : Below w3.heap.size w3 W) => laws_sameInts A2 A3 c2 c3 ys ys W ((hi2.below hb3).below hb) (hi3.below hb) HYL.out HYL.out)
      rw [show decide (ys = ys) = true from by simp] at HSI
      clear hb3 HB2 HS HBx ho3 hi2 hi3
      go_wp2_with fail
      refine (HSI.out w3 (Below.refl _ _)).mono ?_
      rintro e _ ⟨rfl, n1, rfl⟩
      go_wp2_with fail
      refine (HSI.out _ (below_drewN (Below.refl _ _) n1)).mono ?_
      rintro e _ ⟨rfl, n2, rfl⟩
      go_wp2_with fail
      go_ret
      exact ⟨rfl, below_drewN HB3.out _⟩
    | true =>
      obtain ⟨hav, hFv, hi0, hi1, h4, h10, hyl, hTs⟩ := vcB_facts hv
      obtain ⟨_, p2, p3, p4, _⟩ := avB_parts hav
      have hxx : ∀ x ∈ xs, 0 ≤ x ∧ x < 10000 := fun x h => by have := p4 x h; omega
      obtain ⟨j, hj⟩ : ∃ j : Nat, i = (j : Int) := ⟨i.toNat, by omega⟩
      obtain ⟨F, hF⟩ : ∃ F, F = s.data.toList := ⟨_, rfl⟩
      have hsF : s = btj F := by rw [hF]
      have hTl : T.length = xs.length - 2 := by rw [hTT, btj_size] at hTs; exact hTs
      have hFl : F.length ≤ 10 := by
        rw [← hF] at hFv
        have := ((fvB_iff _ _).1 hFv).1; omega
      have HX0 := Lib.hid (fun (W : World) => exec_crimp m xs F T j (by rw [← hsF, ← hj]; exact hv) (by rw [← hsF, ← hj]; exact hTT) W)
      have hyl2 : ys.length = xs.length - 2 := by rw [hys]; exact hyl
      have HYL : Hid (ys.length ≤ maxLen) := by show _ ≤ _; rw [hyl2]; unfold maxLen; omega
      rw [hv] at HI HS
      rw [hsF, hj] at HI HS
      have HAL := Lib.hid (fun (W : World) (hb : Below w1.heap.size w1 W) => laws_anglesLine B c xs W (hI.below hb) (by omega) hxx)
      have hal : (angT xs).length ≤ 60 := by
        have := numsT_len hxx
        unfold angT
        simp; omega
      have HDz := Lib.hid (fun W : World => laws_digits (j + 1) j (by omega) (by omega) W)
      have HDn := Lib.hid (fun W : World => laws_digits (xs.length + 1) xs.length (by omega) (by omega) W)
      have hdz := decDigits_four (n := j) (by omega)
      have hdn := decDigits_four (n := xs.length) (by omega)
      obtain ⟨Dz, hDz⟩ : ∃ D, D = Lib.decDigits j := ⟨_, rfl⟩
      obtain ⟨Dn, hDn⟩ : ∃ D, D = Lib.decDigits xs.length := ⟨_, rfl⟩
      obtain ⟨AL, hAL⟩ : ∃ a, a = angT xs := ⟨_, rfl⟩
      rw [← hDz] at HDz hdz
      rw [← hDn] at HDn hdn HX0
      rw [← hAL] at HAL hal
      obtain ⟨S3, hS3⟩ : ∃ S, S = scr (lsC xs F j) := ⟨_, rfl⟩
      rw [← hS3] at HX0
      obtain ⟨R, hR⟩ : ∃ R, R = [111, 107, 10, 111, 107, 10] ++ T ++ [10, 97, 110, 103, 108, 101, 115, 32] ++ Dn ++ [10] := ⟨_, rfl⟩
      rw [← hR] at HX0
      have b0 : ∀ W, (Op.stringOp .add (btj AL) (btj [102, 111, 108, 100, 115, 32])).run Tryz.prog W = .ok (.string (btj (AL ++ [102, 111, 108, 100, 115, 32]))) W := fun W => run_addT _ _ _ rfl (by (try simp); omega) W
      obtain ⟨B0T, hB0T⟩ : ∃ S, S = AL ++ [102, 111, 108, 100, 115, 32] := ⟨_, rfl⟩
      have lB0T : B0T.length ≤ 66 := by rw [hB0T]; simp; omega
      have b1 : ∀ W, (Op.stringOp .add (btj B0T) (btj F)).run Tryz.prog W = .ok (.string (btj (B0T ++ F))) W := fun W => run_addT _ _ _ rfl (by (try simp); omega) W
      obtain ⟨B1T, hB1T⟩ : ∃ S, S = B0T ++ F := ⟨_, rfl⟩
      have lB1T : B1T.length ≤ 76 := by rw [hB1T]; simp; omega
      have b2 : ∀ W, (Op.stringOp .add (btj B1T) (btj [10, 99, 114, 105, 109, 112, 32])).run Tryz.prog W = .ok (.string (btj (B1T ++ [10, 99, 114, 105, 109, 112, 32]))) W := fun W => run_addT _ _ _ rfl (by (try simp); omega) W
      obtain ⟨B2T, hB2T⟩ : ∃ S, S = B1T ++ [10, 99, 114, 105, 109, 112, 32] := ⟨_, rfl⟩
      have lB2T : B2T.length ≤ 83 := by rw [hB2T]; simp; omega
      have b3 : ∀ W, (Op.stringOp .add (btj B2T) (btj Dz)).run Tryz.prog W = .ok (.string (btj (B2T ++ Dz))) W := fun W => run_addT _ _ _ rfl (by (try simp); omega) W
      obtain ⟨B3T, hB3T⟩ : ∃ S, S = B2T ++ Dz := ⟨_, rfl⟩
      have lB3T : B3T.length ≤ 87 := by rw [hB3T]; simp; omega
      have b4 : ∀ W, (Op.stringOp .add (btj B3T) (btj [10])).run Tryz.prog W = .ok (.string (btj S3)) W := fun W => run_addT _ _ _ (by rw [hS3, hB3T, hB2T, hB1T, hB0T, hAL, ← ang_line, hDz]; simp [scr, lsC, joinC]) (by simp; omega) W
      rw [← hB0T] at b0
      rw [← hB1T] at b1
      rw [← hB2T] at b2
      rw [← hB3T] at b3
      have c0 : ∀ W, (Op.stringOp .add (btj [111, 107, 10, 111, 107, 10]) (btj T)).run Tryz.prog W = .ok (.string (btj ([111, 107, 10, 111, 107, 10] ++ T))) W := fun W => run_addT _ _ _ rfl (by (try simp); omega) W
      obtain ⟨C0T, hC0T⟩ : ∃ S, S = [111, 107, 10, 111, 107, 10] ++ T := ⟨_, rfl⟩
      have lC0T : C0T.length ≤ 16 := by rw [hC0T]; simp; omega
      have c1 : ∀ W, (Op.stringOp .add (btj C0T) (btj [10, 97, 110, 103, 108, 101, 115, 32])).run Tryz.prog W = .ok (.string (btj (C0T ++ [10, 97, 110, 103, 108, 101, 115, 32]))) W := fun W => run_addT _ _ _ rfl (by (try simp); omega) W
      obtain ⟨C1T, hC1T⟩ : ∃ S, S = C0T ++ [10, 97, 110, 103, 108, 101, 115, 32] := ⟨_, rfl⟩
      have lC1T : C1T.length ≤ 24 := by rw [hC1T]; simp; omega
      have c2 : ∀ W, (Op.stringOp .add (btj C1T) (btj Dn)).run Tryz.prog W = .ok (.string (btj (C1T ++ Dn))) W := fun W => run_addT _ _ _ rfl (by (try simp); omega) W
      obtain ⟨C2T, hC2T⟩ : ∃ S, S = C1T ++ Dn := ⟨_, rfl⟩
      have lC2T : C2T.length ≤ 28 := by rw [hC2T]; simp; omega
      have c3 : ∀ W, (Op.stringOp .add (btj C2T) (btj [10])).run Tryz.prog W = .ok (.string (btj R)) W := fun W => run_addT _ _ _ (by rw [hR, hC2T, hC1T, hC0T]) (by simp; omega) W
      rw [← hC0T] at c0
      rw [← hC1T] at c1
      rw [← hC2T] at c2
      have te3 : ((btj R).toList == (btj R).toList) = true := by simp
      have te4 : (R == R) = true := by simp
      have wn : IntKind.i64.wrap ((xs.length : Int) - 2) = (xs.length : Int) - 2 := IntWalk.i64_in _ (by omega)
      have wl : ((ys.length : Int) == (xs.length : Int) - 2) = true := by rw [beq_iff_eq]; omega
      obtain ⟨yn, hyn⟩ : ∃ yn, yn = ys.length := ⟨_, rfl⟩
      have hi2 : i = (j : Int) := hj
      rw [hsF, hi2]
      clear hv hT hTT hb1 hI hc hcm2 hB0T lB0T hB1T lB1T hB2T lB2T hB3T lB3T hC0T lC0T hC1T lC1T hC2T lC2T hS3 hR hAL hDz hDn hav hFv hi0 hi1 h4 h10 hyl hTs p2 p3 p4 hxx hTl hFl hal hdz hdn hys hj hi2 hsF hF hyl2 hyn hs20
      go_wp2_with fail
      refine (HI.out w1 (Below.refl _ _)).mono ?_
      rintro e w2 ⟨v, rfl, ho2, hb2⟩
      obtain ⟨A2, c2, rfl, hi2, _, _⟩ := Own.form ho2
      have HBx := Lib.hid hb2
      clear hb2 HI ho2
      go_wp2_with fail
      refine (HS.out w2 HBx.out).mono ?_
      rintro e w3 ⟨v, rfl, ho3, hb3⟩
      obtain ⟨A3, c3, rfl, hi3, _, _⟩ := Own.form ho3
      have HB3 := Lib.hid (HBx.out.trans (hb3.mono HBx.out.size))
      have HSI := Lib.hid (laws_sameInts A2 A3 c2 c3 ys ys w3 (hi2.below hb3) hi3 HYL.out HYL.out)
      rw [show decide (ys = ys) = true from by simp] at HSI
      clear hb3 HS HBx ho3 hi2 hi3
      go_wp2_with fail
      refine HSI.out.mono ?_
      rintro e _ ⟨rfl, n1, rfl⟩
      have HB3' := Lib.hid (below_drewN HB3.out n1)
      obtain ⟨w3', hw3⟩ : ∃ x, x = w3.drewN n1 := ⟨_, rfl⟩
      rw [← hw3] at HB3' ⊢
      clear hw3 HB3 HSI
      go_wp2_with fail
      refine (HAL.out w3' HB3'.out).mono ?_
      rintro e w4 ⟨rfl, hb4⟩
      have HB4 := Lib.hid (HB3'.out.trans (hb4.mono HB3'.out.size))
      clear hb4 HB3' HAL
      go_wp2_with fail
      refine (HDz.out w4).mono ?_
      rintro e w5 ⟨rfl, hb5⟩
      have HB5 := Lib.hid (HB4.out.trans (hb5.mono HB4.out.size))
      have HW5 := Lib.hid (below_from HB1.out HB5.out HB1.out.size)
      have HXX := Lib.hid (HX0.out w5 ((HW5.out.cell (p := ⟨0, 0, none⟩) h0).trans HM.out) (Nat.lt_of_lt_of_le h0 HW5.out.size) (HP.out.below HW5.out))
      clear hb5 HB4 HX0 HDz
      go_wp2_with fail
      refine HXX.out.mono ?_
      rintro e w6 ⟨rfl, hb6⟩
      have HB6 := Lib.hid (HB5.out.trans (hb6.mono HB5.out.size))
      clear hb6 HB5 HXX
      go_wp2_with fail
      refine (HDn.out w6).mono ?_
      rintro e w7 ⟨rfl, hb7⟩
      have HB7 := Lib.hid (HB6.out.trans (hb7.mono HB6.out.size))
      clear hb7 HB6 HDn
      go_wp2_with fail
      go_ret
      exact ⟨rfl, below_from HB1.out HB7.out HB1.out.size⟩
end Go.Proofs.YtmohfibgefcefaaGreatDoor
namespace Go.Proofs.YtmohfibgefcefaaGreatDoor
open Go

theorem laidMet_tail {P : Program} {x : String × DataW Unit} {rest : List (String × DataW Unit)} {w : World} (h : laidMet P (x :: rest) w) : laidMet P rest w := by
  obtain ⟨ps, hv, hn, hc⟩ := h
  obtain ⟨n, d⟩ := x
  obtain ⟨g, t, cs, fuel, p, q, _, _, _, _, hq, rfl⟩ := hv
  exact ⟨q, hq, (List.nodup_append.1 hn).2.1, fun b off h => hc b off (List.mem_append_right _ h)⟩
theorem pow_of_laid {w : World} {a b : String × DataW Unit} {rest : List (String × DataW Unit)} {d : DataW Unit} (hd : d = Lib.tabData .u64 Lib.pow10Tab) (hp : ((a :: b :: ("internal/strconv.uint64pow10", d) :: rest).all fun x => x.2.handleName?.isNone) = true)
    (h : laidMetH Tryz.prog (a :: b :: ("internal/strconv.uint64pow10", d) :: rest) w) : Pow w := by
  rw [MakeChecks.laidMetH_plain _ _ _ hp] at h
  have h2 := laidMet_tail (laidMet_tail h)
  subst hd
  exact Lib.tabIs_of_head (P := Tryz.prog) (g := 1) (t := 174) (e := 162) (n := 20) (by kernel_rfl) (by kernel_rfl) (by kernel_rfl) (by kernel_rfl) (by kernel_rfl) (by kernel_rfl) h2
end Go.Proofs.YtmohfibgefcefaaGreatDoor
