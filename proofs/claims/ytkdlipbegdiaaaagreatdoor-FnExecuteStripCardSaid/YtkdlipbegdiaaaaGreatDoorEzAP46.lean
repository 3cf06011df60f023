/- FnExecuteStrip: a strip's ways are told. No condition but what the row says of memory and what the table of powers of ten holds. -/
import Derived.Test.YtkdlipbegdiaaaaGreatDoorEzAP32
import Derived.Test.YtkdlipbegdiaaaaGreatDoorEzAP45
import Derived.Test.YtkdlipbegdiaaaaGreatDoorEzAP39
namespace Go.Proofs.YtkdlipbegdiaaaaGreatDoor
open Go.RowKit
/-- the text that stands for a strip's folds -/
def stF (f : List UInt8) : List UInt8 := if f = [] then [45] else f
theorem stF_strip {xs : List Int} {f : List UInt8} (hv : svB xs f = true) : stripF (stF f) = f := by
  unfold stripF stF
  by_cases h : f = []
  · rw [if_pos h, if_pos rfl, h]
  · rw [if_neg h, if_neg]
    intro e
    unfold svB at hv
    rw [Bool.and_eq_true] at hv
    have := ((fvB_iff _ _).1 hv.2).2 45 (by rw [e]; simp)
    exact absurd this (by decide)
theorem stF_parts {xs : List Int} {f : List UInt8} (hv : svB xs f = true) : (stF f).length ≤ 6 ∧ (32 : UInt8) ∉ stF f ∧ (10 : UInt8) ∉ stF f := by
  unfold svB at hv
  rw [Bool.and_eq_true] at hv
  obtain ⟨h1, h6, _⟩ := lvB_parts hv.1
  obtain ⟨hl, hm⟩ := (fvB_iff _ _).1 hv.2
  unfold stF
  by_cases h : f = []
  · rw [if_pos h]; simp
  · rw [if_neg h]
    refine ⟨by omega, fun e => absurd (hm 32 e) (by decide), fun e => absurd (hm 10 e) (by decide)⟩
/-- a strip's script -/
def strT (xs : List Int) (F : List UInt8) (n : Nat) : List UInt8 := ([115, 116, 114, 105, 112, 32] ++ F ++ numsT xs) ++ [10, 115, 116, 97, 109, 112, 115, 32] ++ Lib.decDigits n ++ [10]
theorem cut_two {a b : List UInt8} (ha : (10 : UInt8) ∉ a) (hb : (10 : UInt8) ∉ b) : (cutL 10 (a ++ 10 :: (b ++ 10 :: []))).dropLast = [a, b] := by
  rw [cutL_app ha, cutL_app hb]; rfl
theorem exeT_strip {xs : List Int} {f : List UInt8} {n : Nat} (hv : svB xs f = true) (h1 : 1 ≤ n) (h5 : n ≤ 5) :
    exeT (strT xs (stF f) n) = Lib.decDigits (smany xs (btj f)) ++ [10] ++ Lib.decDigits (stkN n) ++ [10, 97, 110, 103, 108, 101, 115, 32, 48, 10] := by
  obtain ⟨hFl, hF32, hF10⟩ := stF_parts hv
  have hFs := stF_strip hv
  have hv2 := hv
  unfold svB at hv2
  rw [Bool.and_eq_true] at hv2
  obtain ⟨p1, p6, px⟩ := lvB_parts hv2.1
  obtain ⟨F, hF⟩ : ∃ F, F = stF f := ⟨_, rfl⟩
  rw [← hF] at hFl hF32 hF10 hFs ⊢
  have hx : ∀ x ∈ xs, 0 ≤ x ∧ x < 10000 := fun x h => by have := px x h; omega
  have hnv := numsV_dec hx
  have hnl := numsT_len hx
  have hml : (xs.map fun x => Lib.decDigits x.toNat).length = xs.length := by simp
  have hd32 : ∀ y ∈ (xs.map fun x => Lib.decDigits x.toNat), (32 : UInt8) ∉ y := by
    intro y hy
    obtain ⟨x, _, rfl⟩ := List.mem_map.1 hy
    exact dec_no32 _
  have hd10 : ∀ y ∈ (xs.map fun x => Lib.decDigits x.toNat), (10 : UInt8) ∉ y := by
    intro y hy
    obtain ⟨x, _, rfl⟩ := List.mem_map.1 hy
    exact dec_no10 _
  have hj := numsT_join F xs
  obtain ⟨ds, hds⟩ : ∃ ds, ds = xs.map fun x => Lib.decDigits x.toNat := ⟨_, rfl⟩
  rw [← hds] at hnv hml hd32 hd10 hj
  have hjs : joinC 32 ([115, 116, 114, 105, 112] :: F :: ds) = [115, 116, 114, 105, 112, 32] ++ F ++ numsT xs := by
    show [115, 116, 114, 105, 112] ++ 32 :: joinC 32 (F :: ds) = _
    rw [hj]; simp
  have hw1 : ∀ y ∈ ([115, 116, 114, 105, 112] : List UInt8) :: F :: ds, (32 : UInt8) ∉ y := by
    intro y hy
    rcases List.mem_cons.1 hy with rfl | hy
    · decide
    · rcases List.mem_cons.1 hy with rfl | hy
      · exact hF32
      · exact hd32 y hy
  have hw2 : ∀ y ∈ ([115, 116, 114, 105, 112] : List UInt8) :: F :: ds, (10 : UInt8) ∉ y := by
    intro y hy
    rcases List.mem_cons.1 hy with rfl | hy
    · decide
    · rcases List.mem_cons.1 hy with rfl | hy
      · exact hF10
      · exact hd10 y hy
  have hs1 : ∀ y ∈ ([[115, 116, 97, 109, 112, 115], Lib.decDigits n] : List (List UInt8)), (32 : UInt8) ∉ y := by
    intro y hy
    rcases List.mem_cons.1 hy with rfl | hy
    · decide
    · rw [List.mem_singleton] at hy; subst hy; exact dec_no32 _
  have hs2 : ∀ y ∈ ([[115, 116, 97, 109, 112, 115], Lib.decDigits n] : List (List UInt8)), (10 : UInt8) ∉ y := by
    intro y hy
    rcases List.mem_cons.1 hy with rfl | hy
    · decide
    · rw [List.mem_singleton] at hy; subst hy; exact dec_no10 _
  have hdn := dec_len_le (n := n) (by omega)
  have et : strT xs F n = joinC 32 ([115, 116, 114, 105, 112] :: F :: ds) ++ 10 :: (joinC 32 [[115, 116, 97, 109, 112, 115], Lib.decDigits n] ++ 10 :: []) := by
    rw [hjs]; unfold strT; simp [joinC]
  have hlen : (strT xs F n).length ≤ 300 := by
    unfold strT
    simp only [List.length_append, List.length_cons, List.length_nil]
    omega
  unfold exeT
  rw [if_neg (by omega), et, cut_two (joinC_no (by decide) _ hw2) (joinC_no (by decide) _ hs2)]
  obtain ⟨L1, hL1⟩ : ∃ L, L = joinC 32 ([115, 116, 114, 105, 112] :: F :: ds) := ⟨_, rfl⟩
  obtain ⟨L2, hL2⟩ : ∃ L, L = joinC 32 [[115, 116, 97, 109, 112, 115], Lib.decDigits n] := ⟨_, rfl⟩
  have c1 : cutL 32 L1 = [115, 116, 114, 105, 112] :: F :: ds := by rw [hL1]; exact cut_joinC _ (by simp) hw1
  have c2 : cutL 32 L2 = [[115, 116, 97, 109, 112, 115], Lib.decDigits n] := by rw [hL2]; exact cut_joinC _ (by simp) hs1
  rw [← hL1, ← hL2]
  have k6 : cmdIs 6 [115, 116, 114, 105, 112] (F :: ds).length = true := by
    unfold cmdIs
    simp only [Bool.and_eq_true, decide_eq_true_eq, List.length_cons]
    exact ⟨⟨by decide, by show 2 ≤ _; omega⟩, by show _ ≤ 301; omega⟩
  have k9 : cmdIs 9 [115, 116, 97, 109, 112, 115] [Lib.decDigits n].length = true := by
    show cmdIs 9 [115, 116, 97, 109, 112, 115] 1 = true
    decide
  have a6 : lineL ([], []) L1 = (([], []), Lib.decDigits (smany xs (btj f))) := by
    unfold lineL
    rw [c1]
    show lineW ([], []) [115, 116, 114, 105, 112] (F :: ds) = _
    rw [lineW_ask (cmdIs_other (i := 0) (by decide) (by decide) k6 (by decide)) (cmdIs_other (i := 1) (by decide) (by decide) k6 (by decide))]
    rw [(askT_c (s := ([], [])) (by decide) k6).2.2.2.2.1 rfl]
    show (_, cntTx (stripI F ds)) = _
    unfold stripI
    rw [hFs, hnv, ifT hv]
    unfold cntTx
    rw [if_neg (by omega)]; rfl
  have a9 : lineL ([], []) L2 = (([], []), Lib.decDigits (stkN n)) := by
    unfold lineL
    rw [c2]
    show lineW ([], []) [115, 116, 97, 109, 112, 115] [Lib.decDigits n] = _
    rw [lineW_ask (cmdIs_other (i := 0) (by decide) (by decide) k9 (by decide)) (cmdIs_other (i := 1) (by decide) (by decide) k9 (by decide))]
    rw [(askT_c (s := ([], [])) (by decide) k9).2.2.2.2.2.2.2 rfl]
    show (_, cntTx (stampI (numV (Lib.decDigits n)))) = _
    rw [numV_dec (by omega)]
    unfold stampI
    rw [if_pos ⟨h1, by omega⟩]
    unfold cntTx
    rw [if_neg (by omega)]; rfl
  have s1 : stA [L1, L2] 1 = ([], []) := by
    show (lineL ([], []) L1).1 = _
    rw [a6]
  have s2 : stA [L1, L2] 2 = ([], []) := by
    show (lineL (lineL ([], []) L1).1 L2).1 = _
    rw [a6]; show (lineL ([], []) L2).1 = _; rw [a9]
  have o0 : outA [L1, L2] 0 = Lib.decDigits (smany xs (btj f)) := by
    show (lineL ([], []) L1).2 = _
    rw [a6]
  have o1 : outA [L1, L2] 1 = Lib.decDigits (stkN n) := by
    show (lineL (stA [L1, L2] 1) L2).2 = _
    rw [s1, a9]
  unfold scrT
  show outTo (outA [L1, L2]) 2 ++ endT (stA [L1, L2] 2).1.length = _
  rw [s2]
  have : outTo (outA [L1, L2]) 2 = Lib.decDigits (smany xs (btj f)) ++ [10] ++ Lib.decDigits (stkN n) ++ [10] := by
    simp [outTo, List.range_succ, o0, o1]
  rw [this]
  have e0 : Lib.decDigits 0 = [48] := by rw [Lib.decDigits_one (by omega)]; rfl
  show _ ++ ([97, 110, 103, 108, 101, 115, 32] ++ Lib.decDigits 0 ++ [10]) = _
  rw [e0]
  simp
set_option maxHeartbeats 4000000 in
set_option maxRecDepth 100000 in
theorem law_FnExecuteStrip (A A2 : Option Addr) (cap cap2 M : Nat) (bs : List UInt8) (w : World) (hx : ∃ m, w.cell? ⟨0, 0, none⟩ = some (.int .i64 m)) (h0 : 0 < w.heap.size) (hp : Pow w) (h : Codes w w.heap.size A bs) (hcap : bs.length ≤ cap) (hcm : cap ≤ maxLen) (hM : M ≤ maxLen) :
    Calls Tryz.prog 3 #[.slice A bs.length cap, .slice A2 M cap2] w fun e w' => e = .returned (.bool true) ∧ Below w.heap.size w w' := by
  have hlm : bs.length ≤ maxLen := Nat.le_trans hcap hcm
  unfold maxLen at hlm hM
  obtain ⟨m, hm⟩ := hx
  by_cases g1 : 1048576 < bs.length
  · have d1 : decide ((1048576 : Int) < (bs.length : Int)) = true := by simp; omega
    go_enter Tryz.func3, Tryz.ntmps3
    go_wp2_with fail
    go_ret
    exact ⟨rfl, Below.refl _ _⟩
  · have d1 : decide ((1048576 : Int) < (bs.length : Int)) = false := by simp; omega
    by_cases g2 : 1048576 < M
    · have d2 : decide ((1048576 : Int) < (M : Int)) = true := by simp; omega
      go_enter Tryz.func3, Tryz.ntmps3
      go_wp2_with fail
      go_ret
      exact ⟨rfl, Below.refl _ _⟩
    · have d2 : decide ((1048576 : Int) < (M : Int)) = false := by simp; omega
      have HM := Lib.hid hm
      have HP := Lib.hid hp
      clear hm hp
      go_enter Tryz.func3, Tryz.ntmps3
      go_wp2_with fail
      refine (spec_DrawStripMany w A cap bs h (by omega) hcap hcm).mono ?_
      rintro e w1 ⟨B, xs, c, s, rfl, hI, hc, hcm2, hlen, hsl, hb1⟩
      have HB1 := Lib.hid hb1
      have HI1 := Lib.hid hI
      have HC := Lib.hid (And.intro hc hcm2)
      obtain ⟨f, hf⟩ : ∃ f, f = s.data.toList := ⟨_, rfl⟩
      obtain rfl : s = btj f := by rw [hf]
      have hfl : f.length ≤ 5 := by rw [← btj_size]; exact hsl
      have HI := Lib.hid (fun (W : World) (hb : Below w1.heap.size w1 W) => impl_StripManyI B c xs f W (hI.below hb) (by omega) (by omega))
      have HS := Lib.hid (fun (W : World) (hb : Below w1.heap.size w1 W) => spec_StripManyI B c xs f W (hI.below hb) (by omega) (by omega))
      have HVS := Lib.hid hf
      clear hf hsl
      cases hv : svB xs f with
      | false =>
        rw [hv] at HI HS
        have HI2 : Hid (∀ W : World, Below w1.heap.size w1 W → Calls Tryz.prog 9 #[.slice B xs.length c, .string (btj f)] W fun e w' => e = .returned (.int .i64 (-1)) ∧ Below W.heap.size W w') := HI.out
        have HS2 : Hid (∀ W : World, Below w1.heap.size w1 W → Calls Tryz.prog 10 #[.slice B xs.length c, .string (btj f)] W fun e w' => e = .returned (.int .i64 (-1)) ∧ Below W.heap.size W w') := HS.out
        clear hv hb1 hI hc hcm2 HI HS
        go_wp2_with fail
        refine (HI2.out w1 (Below.refl _ _)).mono ?_
        rintro e w2 ⟨rfl, hb2⟩
        have HBx := Lib.hid hb2
        have HB2 := Lib.hid (below_from HB1.out hb2 HB1.out.size)
        clear hb2 HB1 HI2
        go_wp2_with fail
        refine (HS2.out w2 HBx.out).mono ?_
        rintro e w3 ⟨rfl, hb3⟩
        have HB3 := Lib.hid (below_from HB2.out hb3 HB2.out.size)
        clear hb3 HB2 HS2 HBx
        go_wp2_with fail
        go_ret
        exact ⟨rfl, HB3.out⟩
      | true =>
        rw [hv] at HI HS
        have HI2 : Hid (∀ W : World, Below w1.heap.size w1 W → Calls Tryz.prog 9 #[.slice B xs.length c, .string (btj f)] W fun e w' => e = .returned (.int .i64 (smany xs (btj f) : Nat)) ∧ Below W.heap.size W w') := HI.out
        have HS2 : Hid (∀ W : World, Below w1.heap.size w1 W → Calls Tryz.prog 10 #[.slice B xs.length c, .string (btj f)] W fun e w' => e = .returned (.int .i64 (smany xs (btj f) : Nat)) ∧ Below W.heap.size W w') := HS.out
        have hz := smany_le (xs := xs) (by omega) (btj f)
        obtain ⟨n, hn⟩ : ∃ n, n = 1 + M % 5 := ⟨_, rfl⟩
        have hn1 : 1 ≤ n := by omega
        have hn5 : n ≤ 5 := by omega
        have hX := exeT_strip hv hn1 hn5
        obtain ⟨F, hF⟩ : ∃ F, F = stF f := ⟨_, rfl⟩
        have hFl := (stF_parts hv).1
        rw [← hF] at hX hFl
        obtain ⟨z, hzz⟩ : ∃ z, z = smany xs (btj f) := ⟨_, rfl⟩
        rw [← hzz] at hX hz HI2 HS2
        have hv2 := hv
        unfold svB at hv2
        rw [Bool.and_eq_true] at hv2
        obtain ⟨p1, p6, px⟩ := lvB_parts hv2.1
        have hxx : ∀ x ∈ xs, 0 ≤ x ∧ x < 10000 := fun x h => by have := px x h; omega
        have z0 : ¬ ((z : Int) < 0) := by omega
        clear hv hb1 hI hc hcm2 HI HS hv2 px hzz HVS
        go_wp2_with fail
        refine (HI2.out w1 (Below.refl _ _)).mono ?_
        rintro e w2 ⟨rfl, hb2⟩
        have HB2 := Lib.hid hb2
        clear hb2 HI2
        go_wp2_with fail
        refine (HS2.out w2 HB2.out).mono ?_
        rintro e w3 ⟨rfl, hb3⟩
        have HB3 := Lib.hid (HB2.out.trans (hb3.mono HB2.out.size))
        clear hb3 HB2 HS2
        have HXX := Lib.hid hxx
        have HFF := Lib.hid hF
        obtain ⟨r, hr0⟩ : ∃ r, r = M % 5 := ⟨_, rfl⟩
        have hr : (M : Int).tmod 5 = (r : Int) := by rw [Int.tmod_eq_emod_of_nonneg (by omega), hr0]; rfl
        have hr5 : r < 5 := by omega
        have hen : ((n : Nat) : Int) = (1 : Int) + (r : Int) := by omega
        have iwr : IntKind.i64.wrap ((1 : Int) + (r : Int)) = (1 : Int) + (r : Int) := IntWalk.i64_in _ (by omega)
        have HDn := Lib.hid (fun W : World => laws_digits (n + 1) n (by omega) (by omega) W)
        have HSM := Lib.hid (fun W : World => impl_StampMany n hn1 (by omega) W)
        rw [hen] at HDn HSM
        have HDz := Lib.hid (fun W : World => laws_digits (z + 1) z (by omega) (by omega) W)
        have hk9 : stkN n ≤ 100000 := by have := stkN_le n; omega
        have HDk := Lib.hid (fun W : World => laws_digits (stkN n + 1) (stkN n) (by omega) (by omega) W)
        have ldn := dec_len_le (n := n) (by omega)
        have ldz := dec_len_le (n := z) (by omega)
        have ldk := dec_len_le hk9
        obtain ⟨kk, hkk⟩ : ∃ kk, kk = stkN n := ⟨_, rfl⟩
        rw [← hkk] at hX HSM HDk ldk
        have HNT := Lib.hid (numsT_len hxx)
        obtain ⟨S3, hS3⟩ : ∃ S, S = strT xs F n := ⟨_, rfl⟩
        rw [← hS3] at hX
        have HXE := Lib.hid (fun (W : World) (hb : Below w.heap.size w W) => impl_ExecuteG m S3 W ((hb.cell (p := ⟨0, 0, none⟩) h0).trans HM.out) (Nat.lt_of_lt_of_le h0 hb.size) (HP.out.below hb))
        rw [hX] at HXE
        obtain ⟨Dn, hDn⟩ : ∃ D, D = Lib.decDigits n := ⟨_, rfl⟩
        obtain ⟨Dz, hDz⟩ : ∃ D, D = Lib.decDigits z := ⟨_, rfl⟩
        obtain ⟨Dk, hDk⟩ : ∃ D, D = Lib.decDigits kk := ⟨_, rfl⟩
        unfold strT at hS3
        rw [← hDn] at hS3 HDn ldn
        rw [← hDz] at HDz ldz HXE
        rw [← hDk] at HDk ldk HXE
        obtain ⟨R, hR⟩ : ∃ R, R = Dz ++ [10] ++ Dk ++ [10, 97, 110, 103, 108, 101, 115, 32, 48, 10] := ⟨_, rfl⟩
        rw [← hR] at HXE
        obtain ⟨C0, hC0⟩ : ∃ C, C = [115, 116, 114, 105, 112, 32] ++ F := ⟨_, rfl⟩
        rw [← hC0] at hS3
        have hC0l : C0.length ≤ 12 := by rw [hC0]; simp; omega
        have b0 : ∀ W, (Op.stringOp .add (btj [115, 116, 114, 105, 112, 32]) (btj F)).run Tryz.prog W = .ok (.string (btj C0)) W := fun W => run_addT _ _ _ (by rw [hC0]) (by simp; omega) W
        obtain ⟨S0, hS0⟩ : ∃ S, S = C0 ++ numsT xs := ⟨_, rfl⟩
        rw [← hS0] at hS3
        have l0 : S0.length ≤ 50 := by rw [hS0, List.length_append]; have := HNT.out; omega
        have b1 : ∀ W, (Op.stringOp .add (btj S0) (btj [10, 115, 116, 97, 109, 112, 115, 32])).run Tryz.prog W = .ok (.string (btj (S0 ++ [10, 115, 116, 97, 109, 112, 115, 32]))) W := fun W => run_addT _ _ _ rfl (by simp; omega) W
        obtain ⟨S1, hS1⟩ : ∃ S, S = S0 ++ [10, 115, 116, 97, 109, 112, 115, 32] := ⟨_, rfl⟩
        have l1 : S1.length ≤ 60 := by rw [hS1]; simp; omega
        have b2 : ∀ W, (Op.stringOp .add (btj S1) (btj Dn)).run Tryz.prog W = .ok (.string (btj (S1 ++ Dn))) W := fun W => run_addT _ _ _ rfl (by omega) W
        obtain ⟨S2, hS2⟩ : ∃ S, S = S1 ++ Dn := ⟨_, rfl⟩
        have l2 : S2.length ≤ 70 := by rw [hS2]; simp; omega
        have b3 : ∀ W, (Op.stringOp .add (btj S2) (btj [10])).run Tryz.prog W = .ok (.string (btj S3)) W := fun W => run_addT _ _ _ (by rw [hS3, hS2, hS1]) (by simp; omega) W
        have e1 : ∀ W, (Op.stringOp .add (btj Dz) (btj [10])).run Tryz.prog W = .ok (.string (btj (Dz ++ [10]))) W := fun W => run_addT _ _ _ rfl (by simp; omega) W
        obtain ⟨E1, hE1⟩ : ∃ S, S = Dz ++ [10] := ⟨_, rfl⟩
        have m1 : E1.length ≤ 10 := by rw [hE1]; simp; omega
        have e2 : ∀ W, (Op.stringOp .add (btj E1) (btj Dk)).run Tryz.prog W = .ok (.string (btj (E1 ++ Dk))) W := fun W => run_addT _ _ _ rfl (by omega) W
        obtain ⟨E2, hE2⟩ : ∃ S, S = E1 ++ Dk := ⟨_, rfl⟩
        have m2 : E2.length ≤ 20 := by rw [hE2]; simp; omega
        have e3 : ∀ W, (Op.stringOp .add (btj E2) (btj [10, 97, 110, 103, 108, 101, 115, 32, 48, 10])).run Tryz.prog W = .ok (.string (btj R)) W := fun W => run_addT _ _ _ (by rw [hR, hE2, hE1]) (by simp; omega) W
        rw [← hS1] at b1
        rw [← hS2] at b2
        rw [← hE1] at e1
        rw [← hE2] at e2
        have te : ((btj R).toList == (btj R).toList) = true := by simp
        have te2 : (R == R) = true := by simp
        have HS0 : Hid (C0 ++ numsT xs = S0) := hS0.symm
        have hC0l2 : C0.length ≤ 100 := by omega
        clear hX hxx hF hr0 hn hn1 hn5 hen hz hk9 ldn ldz ldk hkk hS3 hDn hDz hDk hR hC0 hC0l hS0 l0 l1 l2 hS1 hS2 hE1 hE2 m1 m2 hFl
        go_upto_region 8 with (fail)
        by_cases hf0 : f = []
        · subst hf0
          obtain rfl : F = [45] := HFF.out
          go_upto_region 12 with (fail)
          go_wp2_with fail
          go_loopg [10, 11] (xs.length + 1) (fun gg s10 s11 wr => ∃ (k : Nat), k ≤ xs.length ∧ s10 = .string (btj (C0 ++ numsT (xs.take k))) ∧ s11 = .int .i64 k ∧ xs.length - k < gg ∧ Hid (Below w1.heap.size w1 wr))
          case atStart => exact ⟨0, Nat.zero_le _, by simp [numsT], rfl, by omega, HB3⟩
          case round =>
            obtain ⟨k, hk, rfl, rfl, hg, HB⟩ := hrel
            cases gk with
            | zero => omega
            | succ gl =>
            by_cases hlt : k < xs.length
            · have k1 : (k : Int) < (xs.length : Int) := by omega
              have k0 : (0 : Int) ≤ (k : Int) := by omega
              obtain ⟨b, off, x, rfl, hbb, hdr, hc, hxm⟩ := (HI1.out.below HB.out).at_ hlt
              have hxe : xs[k] = x := by
                have := hdr.out
                rw [List.drop_eq_getElem_cons hlt] at this
                exact (List.cons.inj this).1
              have hxb := HXX.out x hxm
              have hsucc := numsT_take hlt
              rw [hxe] at hsucc
              have hnl := numsT_len (xs := xs.take k) fun y hy => HXX.out y (List.mem_of_mem_take hy)
              have hnl2 : (xs.take k).length ≤ 5 := by rw [List.length_take]; omega
              have hdl := decDigits_four (n := x.toNat) (by omega)
              have HD := Lib.hid (fun W : World => laws_digits (x.toNat + 1) x.toNat (by omega) (by omega) W)
              have exn : ((x.toNat : Nat) : Int) = x := by omega
              rw [exn] at HD
              obtain ⟨D, hD⟩ : ∃ D, D = Lib.decDigits x.toNat := ⟨_, rfl⟩
              obtain ⟨C, hC⟩ : ∃ C, C = C0 ++ numsT (xs.take k) := ⟨_, rfl⟩
              obtain ⟨C', hC'⟩ : ∃ C', C' = C0 ++ numsT (xs.take (k + 1)) := ⟨_, rfl⟩
              have hCl : C.length ≤ 200 := by rw [hC]; simp; omega
              rw [← hD] at HD hdl hsucc
              rw [← hC]
              have a1 : ∀ W, (Op.stringOp .add (btj C) (btj [32])).run Tryz.prog W = .ok (.string (btj (C ++ [32]))) W := fun W => run_addT _ _ _ rfl (by simp; omega) W
              have a2 : ∀ W, (Op.stringOp .add (btj (C ++ [32])) (btj D)).run Tryz.prog W = .ok (.string (btj C')) W := fun W => run_addT _ _ _ (by rw [hC', hsucc, hC]; simp) (by simp; omega) W
              have HC' := Lib.hid hC'
              clear hsucc hnl hnl2 hC hC' hD hdr hxe hxm exn hxb hCl hdl
              go_wp2_with fail
              refine (HD.out wr).mono ?_
              rintro e w6 ⟨rfl, hb6⟩
              have HB6 := Lib.hid (HB.out.trans (hb6.mono HB.out.size))
              clear hb6 HB HD
              go_wp2_with fail
              go_roundg gl
              case measure => omega
              case rel => exact ⟨k + 1, by omega, by rw [HC'.out], by go_num, by omega, HB6⟩
            · obtain rfl : k = xs.length := by omega
              rw [List.take_of_length_le (Nat.le_refl _), HS0.out]
              clear HB3
              go_wp2_with fail
              refine (HDn.out wr).mono ?_
              rintro e w4 ⟨rfl, hb4⟩
              have HB4 := Lib.hid (HB.out.trans (hb4.mono HB.out.size))
              clear hb4 HB HDn
              go_wp2_with fail
              refine (HXE.out w4 (below_from HB1.out HB4.out HB1.out.size)).mono ?_
              rintro e w5 ⟨rfl, hb5⟩
              have HB5 := Lib.hid (HB4.out.trans (hb5.mono HB4.out.size))
              clear hb5 HB4 HXE
              go_wp2_with fail
              refine (HDz.out w5).mono ?_
              rintro e w6 ⟨rfl, hb6⟩
              have HB6 := Lib.hid (HB5.out.trans (hb6.mono HB5.out.size))
              clear hb6 HB5 HDz
              go_wp2_with fail
              refine (HSM.out w6).mono ?_
              rintro e w7 ⟨rfl, hb7⟩
              have HB7 := Lib.hid (HB6.out.trans (hb7.mono HB6.out.size))
              clear hb7 HB6 HSM
              go_wp2_with fail
              refine (HDk.out w7).mono ?_
              rintro e w8 ⟨rfl, hb8⟩
              have HB8 := Lib.hid (HB7.out.trans (hb8.mono HB7.out.size))
              clear hb8 HB7 HDk
              go_wp2_with fail
              go_ret
              exact ⟨rfl, below_from HB1.out HB8.out HB1.out.size⟩
        · obtain rfl : F = f := by rw [HFF.out]; unfold stF; rw [if_neg hf0]
          have hfe : F.isEmpty = false := by cases F with | nil => exact absurd rfl hf0 | cons _ _ => rfl
          go_upto_region 12 with (fail)
          go_wp2_with fail
          go_loopg [10, 11] (xs.length + 1) (fun gg s10 s11 wr => ∃ (k : Nat), k ≤ xs.length ∧ s10 = .string (btj (C0 ++ numsT (xs.take k))) ∧ s11 = .int .i64 k ∧ xs.length - k < gg ∧ Hid (Below w1.heap.size w1 wr))
          case atStart => exact ⟨0, Nat.zero_le _, by simp [numsT], rfl, by omega, HB3⟩
          case round =>
            obtain ⟨k, hk, rfl, rfl, hg, HB⟩ := hrel
            cases gk with
            | zero => omega
            | succ gl =>
            by_cases hlt : k < xs.length
            · have k1 : (k : Int) < (xs.length : Int) := by omega
              have k0 : (0 : Int) ≤ (k : Int) := by omega
              obtain ⟨b, off, x, rfl, hbb, hdr, hc, hxm⟩ := (HI1.out.below HB.out).at_ hlt
              have hxe : xs[k] = x := by
                have := hdr.out
                rw [List.drop_eq_getElem_cons hlt] at this
                exact (List.cons.inj this).1
              have hxb := HXX.out x hxm
              have hsucc := numsT_take hlt
              rw [hxe] at hsucc
              have hnl := numsT_len (xs := xs.take k) fun y hy => HXX.out y (List.mem_of_mem_take hy)
              have hnl2 : (xs.take k).length ≤ 5 := by rw [List.length_take]; omega
              have hdl := decDigits_four (n := x.toNat) (by omega)
              have HD := Lib.hid (fun W : World => laws_digits (x.toNat + 1) x.toNat (by omega) (by omega) W)
              have exn : ((x.toNat : Nat) : Int) = x := by omega
              rw [exn] at HD
              obtain ⟨D, hD⟩ : ∃ D, D = Lib.decDigits x.toNat := ⟨_, rfl⟩
              obtain ⟨C, hC⟩ : ∃ C, C = C0 ++ numsT (xs.take k) := ⟨_, rfl⟩
              obtain ⟨C', hC'⟩ : ∃ C', C' = C0 ++ numsT (xs.take (k + 1)) := ⟨_, rfl⟩
              have hCl : C.length ≤ 200 := by rw [hC]; simp; omega
              rw [← hD] at HD hdl hsucc
              rw [← hC]
              have a1 : ∀ W, (Op.stringOp .add (btj C) (btj [32])).run Tryz.prog W = .ok (.string (btj (C ++ [32]))) W := fun W => run_addT _ _ _ rfl (by simp; omega) W
              have a2 : ∀ W, (Op.stringOp .add (btj (C ++ [32])) (btj D)).run Tryz.prog W = .ok (.string (btj C')) W := fun W => run_addT _ _ _ (by rw [hC', hsucc, hC]; simp) (by simp; omega) W
              have HC' := Lib.hid hC'
              clear hsucc hnl hnl2 hC hC' hD hdr hxe hxm exn hxb hCl hdl
              go_wp2_with fail
              refine (HD.out wr).mono ?_
              rintro e w6 ⟨rfl, hb6⟩
              have HB6 := Lib.hid (HB.out.trans (hb6.mono HB.out.size))
              clear hb6 HB HD
              go_wp2_with fail
              go_roundg gl
              case measure => omega
              case rel => exact ⟨k + 1, by omega, by rw [HC'.out], by go_num, by omega, HB6⟩
            · obtain rfl : k = xs.length := by omega
              rw [List.take_of_length_le (Nat.le_refl _), HS0.out]
              clear HB3
              go_wp2_with fail
              refine (HDn.out wr).mono ?_
              rintro e w4 ⟨rfl, hb4⟩
              have HB4 := Lib.hid (HB.out.trans (hb4.mono HB.out.size))
              clear hb4 HB HDn
              go_wp2_with fail
              refine (HXE.out w4 (below_from HB1.out HB4.out HB1.out.size)).mono ?_
              rintro e w5 ⟨rfl, hb5⟩
              have HB5 := Lib.hid (HB4.out.trans (hb5.mono HB4.out.size))
              clear hb5 HB4 HXE
              go_wp2_with fail
              refine (HDz.out w5).mono ?_
              rintro e w6 ⟨rfl, hb6⟩
              have HB6 := Lib.hid (HB5.out.trans (hb6.mono HB5.out.size))
              clear hb6 HB5 HDz
              go_wp2_with fail
              refine (HSM.out w6).mono ?_
              rintro e w7 ⟨rfl, hb7⟩
              have HB7 := Lib.hid (HB6.out.trans (hb7.mono HB6.out.size))
              clear hb7 HB6 HSM
              go_wp2_with fail
              refine (HDk.out w7).mono ?_
              rintro e w8 ⟨rfl, hb8⟩
              have HB8 := Lib.hid (HB7.out.trans (hb8.mono HB7.out.size))
              clear hb8 HB7 HDk
              go_wp2_with fail
              go_ret
              exact ⟨rfl, below_from HB1.out HB8.out HB1.out.size⟩
end Go.Proofs.YtkdlipbegdiaaaaGreatDoor
