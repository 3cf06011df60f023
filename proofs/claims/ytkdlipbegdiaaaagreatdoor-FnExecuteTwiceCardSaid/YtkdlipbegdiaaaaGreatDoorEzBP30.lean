/- Right layers of a strip, the reference's way (written by mkflI.py out of XSflF). No condition but sizes. -/
import Derived.Test.YtkdlipbegdiaaaaGreatDoorEzBP29
namespace Go.Proofs.YtkdlipbegdiaaaaGreatDoor
open Go.RowKit
set_option maxHeartbeats 4000000 in
set_option maxRecDepth 100000 in
theorem spec_l2AllFolds_strip (A : Option Addr) (cap : Nat) (xs : List Int) (t : ByteArray) (w : World) (h : Ints w A xs) (hl : xs.length ≤ 100) (hx : ∀ x ∈ xs, 0 ≤ x ∧ x ≤ 1000) (h1 : 1 ≤ xs.length) (hs : t.size + 1 = xs.length) :
    Calls Tryz.prog 70 #[.slice A xs.length cap, .string t, .bool false] w fun e w' => ∃ v, e = .returned v ∧ OwnL w' w.heap.size v t.size (fqL (fqTo xs t.data.toList t.size)) ∧ Below w.heap.size w w' := by
  have HPL := Lib.hid (spec_l2Places A cap xs w h hl hx)
  have HX := Lib.hid hx
  obtain ⟨n1, hn1⟩ : ∃ n1, n1 = t.size := ⟨_, rfl⟩
  rw [← hn1] at hs ⊢
  have HN2 : Hid (xs.length = n1 + 1) := hs.symm
  have HTS : Hid (t.size = n1) := hn1.symm
  have hnl : n1 ≤ 100 := by omega
  clear h hx hs hn1
  go_enter Tryz.func70, Tryz.ntmps70
  go_wp2_with fail
  refine HPL.out.mono ?_
  rintro e w1 ⟨vp, rfl, hop, hb1⟩
  obtain ⟨Ap, cp, rfl, hip, _, _⟩ := Own.form hop
  have HIP := Lib.hid hip
  have HB1 := Lib.hid hb1
  clear hop hip hb1 HPL
  go_wp2_with fail
  obtain ⟨pre, hpre⟩ : ∃ pre : List Value, pre = [] := ⟨_, rfl⟩
  have HPRE := Lib.hid hpre
  have HO3 : Hid (OwnL (w1.alloc (.cells #[] 90)) w1.heap.size (.slice (some ⟨w1.heap.size, 0, none⟩) 0 0) (0 + 0) (pre ++ fqL (fqTo xs t.data.toList 0))) := by
    show OwnL _ _ _ _ _
    rw [hpre]
    exact World.ownsRow_lit w1 #[] 0 (Nat.le_refl _) (by unfold maxLen; omega) rfl
  have HB3 : Hid (Below w1.heap.size w1 (w1.alloc (.cells #[] 90))) := (Below.refl _ _).alloc (Nat.le_refl _) _
  clear hpre
  go_loopg [8, 10] (n1 + 1) (fun gg s8 s10 wr => ∃ (k : Nat), k ≤ n1 ∧ s10 = .int .i64 k ∧ n1 - k < gg ∧ Hid (OwnL wr w1.heap.size s8 (0 + k) (pre ++ fqL (fqTo xs t.data.toList k))) ∧ Hid (Below w1.heap.size w1 wr))
  case atStart => exact ⟨0, Nat.zero_le _, rfl, by omega, HO3, HB3⟩
  case round =>
    clear HO3 HB3
    obtain ⟨k, hk, rfl, hg, HO, HB⟩ := hrel
    cases gk with
    | zero => omega
    | succ gl =>
    have kw2 : IntKind.i64.wrap ((k : Int) + 1) = (k : Int) + 1 := IntWalk.i64_in _ (by omega)
    by_cases hlt : k < n1
    · have htsz := HTS.out
      have hxl := HN2.out
      have k1 : (k : Int) + 1 < (xs.length : Int) := by omega
      have k1n : k + 1 < xs.length := by omega
      have k0 : (0 : Int) ≤ (k : Int) := by omega
      have k00 : (0 : Int) ≤ (k : Int) + 1 := by omega
      have k2 : (k : Int) < (t.size : Int) := by omega
      have k2n : k < t.size := by omega
      have hpl : (plcL xs).length = xs.length + 1 := plcL_len xs
      have k3 : (k : Int) + 1 < ((plcL xs).length : Int) := by rw [hpl]; omega
      obtain ⟨b, off, rfl, hbb, hc⟩ := (HIP.out.below HB.out) (by intro e; have := congrArg List.length e; rw [hpl] at this; simp at this)
      have r1 := hc (k + 1) (plcAt xs (k + 1)) (plcTo_get (by omega))
      obtain ⟨p, hp⟩ : ∃ p, p = plcAt xs (k + 1) := ⟨_, rfl⟩
      obtain ⟨z, hz⟩ : ∃ z, z = t[k] := ⟨_, rfl⟩
      have hzg : t.data.toList.getD k 0 = z := by
        rw [hz, List.getD_eq_getElem?_getD, List.getElem?_eq_getElem (show k < t.data.toList.length by rw [Array.length_toList]; exact k2n)]; rfl
      have hT := fqTo_succ xs t.data.toList k
      rw [← hp] at r1 hT
      rw [hzg] at hT
      have u0 : ((t[k]).toNat : Int) = (z.toNat : Int) := by rw [hz]
      have HU : Hid (#[Value.int .i64 (k : Int), .int .i64 ((k : Int) + 1), .int .i64 p, .int .u8 ((t[k]).toNat : Int)] = (fqV (k, k + 1, p, z)).toArray) := by show _ = _; rw [u0]; rfl
      have HT2 : Hid (pre ++ fqL (fqTo xs t.data.toList (k + 1)) = (pre ++ fqL (fqTo xs t.data.toList k)) ++ fqV (k, k + 1, p, z)) := by show _ = _; rw [hT, fqL_snoc, List.append_assoc]
      have HNN := Lib.hid (fun W : World => RowV.lit W (fqV (k, k + 1, p, z)) 90)
      have hsz := HB.out.size
      clear hc hp hzg hz hT u0 hxl htsz hpl
      go_wp2_with fail
      go_region_law (rw [HU.out]; refine step_appL (by rfl) _ _ (by rfl) w1.heap.size _ (0 + k) (pre ++ fqL (fqTo xs t.data.toList k)) _ 1 _ (fqV (k, k + 1, p, z)) (by rfl) (by rfl) (own_below2' HO.out ((below_drewN (Below.refl _ _) 1).alloc (Nat.le_refl _) _)) rfl (fun e => by cases e) (HNN.out _).news (fq_one _) (Nat.le_trans hsz (by simp)) (by omega) ?_; intro v4 w4 ho4 hg4 hb4 _ _)
      all_goals
        have HO4 : Hid (OwnL w4 w1.heap.size v4 (0 + (k + 1)) (pre ++ fqL (fqTo xs t.data.toList (k + 1)))) := by
          show OwnL _ _ _ _ _
          rw [HT2.out]; exact ho4
        have HB4 : Hid (Below w1.heap.size w1 w4) := HB.out.trans ((((below_drewN (Below.refl wr.heap.size wr) 1).alloc (Nat.le_refl _) _).mono hsz).trans hb4)
        clear ho4 hg4 hb4
        go_wp2_with fail
        go_roundg gl
        case measure => omega
        case rel => exact ⟨k + 1, by omega, by go_num, by omega, HO4, HB4⟩
    · obtain rfl : k = n1 := by omega
      have hkn := HN2.out
      have d1 : decide ((k : Int) + 1 < (xs.length : Int)) = false := by simp; omega
      have HOF : Hid (OwnL wr w.heap.size u8 k (fqL (fqTo xs t.data.toList k))) := by
        show OwnL _ _ _ _ _
        have h1 := own_lowQ HO.out HB1.out.size
        rw [HPRE.out, Nat.zero_add, List.nil_append] at h1
        exact h1
      clear hkn
      go_wp2_with fail
      go_ret
      exact ⟨_, rfl, HOF.out, HB1.out.trans (HB.out.mono HB1.out.size)⟩
set_option maxHeartbeats 8000000 in
set_option maxRecDepth 100000 in
theorem spec_l2Right_g (A A' : Option Addr) (cap cap' : Nat) (xs L : List Int) (s : ByteArray) (w : World) (h : Ints w A xs) (hL : Ints w A' L) (hl : xs.length ≤ 100) (hx : ∀ x ∈ xs, 0 ≤ x ∧ x ≤ 1000) (h1 : 1 ≤ xs.length) (hLl : L.length = xs.length) (hok : ∀ j, j < xs.length → 0 ≤ lvAt L L.length (j : Int))
    (fs : List Fq) (rg : Bool) (nf : Nat) (hfl : fs.length = nf) (hnf : nf ≤ 100) (haf : ∀ W, Below w.heap.size w W → Calls Tryz.prog 70 #[.slice A xs.length cap, .string s, .bool rg] W fun e w' => ∃ v, e = .returned v ∧ OwnL w' W.heap.size v nf (fqL fs) ∧ Below W.heap.size W w') (lv : List Int) (hlv : lv = lvTo L xs.length L.length) (hfa : ∀ f ∈ fs, f.1 < xs.length ∧ f.2.1 < xs.length ∧ lv.getD f.1 0 ≠ lv.getD f.2.1 0) :
    Calls Tryz.prog 47 #[.slice A xs.length cap, .string s, .bool rg, .slice A' L.length cap'] w fun e w' => e = .returned (.bool (rightQ lv (plcL xs) xs.length fs)) ∧ Below w.heap.size w w' := by
  have HLV := Lib.hid (spec_l2Levels A' cap' xs.length L w hL (by omega) hl hok)
  have HPL := Lib.hid (fun (W : World) (hb : Below w.heap.size w W) => spec_l2Places A cap xs W (h.below hb) hl hx)
  have HAF := Lib.hid haf
  rw [← hlv] at HLV
  have hlvl : lv.length = xs.length := by rw [hlv, lvTo_len]
  have hpl : (plcL xs).length = xs.length + 1 := plcL_len xs
  obtain ⟨ps, hps⟩ : ∃ ps, ps = plcL xs := ⟨_, rfl⟩
  rw [← hps] at hpl
  have HPL2 : Hid (∀ (W : World) (hb : Below w.heap.size w W), Calls Tryz.prog 69 #[.slice A xs.length cap] W fun e w' => ∃ v, e = .returned v ∧ Own w' W.heap.size v ps ∧ Below W.heap.size W w') := by rw [hps]; exact HPL.out
  rw [← hps]
  obtain ⟨n, hn⟩ : ∃ n, n = xs.length := ⟨_, rfl⟩
  rw [hLl] at HLV ⊢
  rw [← hn] at HLV HPL2 HAF hlvl hpl hfa hl h1 ⊢
  have HFA := Lib.hid hfa
  have HFL := Lib.hid hfl
  have HLL := Lib.hid hlvl
  have HPP := Lib.hid hpl
  have d0 : ((n : Int) != (n : Int)) = false := by simp
  have d1 : ((n : Int) == 0) = false := by rw [beq_eq_false_iff_ne]; omega
  clear HPL haf hlv hfa hfl hlvl hpl hps hx hLl hok h hL hn
  go_enter Tryz.func47, Tryz.ntmps47
  go_wp2_with fail
  refine HLV.out.mono ?_
  rintro e w1 ⟨v1, rfl, ho1, hb1⟩
  obtain ⟨Al, cl, rfl, hil, _, _⟩ := Own.form ho1
  have HIL := Lib.hid hil
  have HB1 := Lib.hid hb1
  have hll0 := HLL.out
  rw [hll0]
  clear ho1 hil hb1 HLV hll0
  go_wp2_with fail
  refine (HPL2.out w1 HB1.out).mono ?_
  rintro e w2 ⟨v2, rfl, ho2, hb2⟩
  obtain ⟨Ap, cp, rfl, hip, _, _⟩ := Own.form ho2
  have HIL2 := Lib.hid (HIL.out.below hb2)
  have HIP := Lib.hid hip
  have HB2 := Lib.hid (HB1.out.trans (hb2.mono HB1.out.size))
  clear ho2 hip hb2 HPL2 HB1 HIL
  go_wp2_with fail
  refine (HAF.out w2 HB2.out).mono ?_
  rintro e w3 ⟨v3, rfl, ho3, hb3⟩
  obtain ⟨Af, cf, rfl, hif, _, _⟩ := own_formX ho3
  have HIL3 := Lib.hid (HIL2.out.below hb3)
  have HIP3 := Lib.hid (HIP.out.below hb3)
  have HIF := Lib.hid hif
  have HB3 := Lib.hid (HB2.out.trans (hb3.mono HB2.out.size))
  clear ho3 hif hb3 HAF HB2 HIL2 HIP
  go_wp2_with fail
  go_loopg [12, 13, 14, 15, 16] (nf + 1) (fun gg s12 s13 s14 s15 s16 wr => ∃ (k : Nat), s13 = s13 ∧ s14 = s14 ∧ s15 = s15 ∧ s16 = s16 ∧ k ≤ nf ∧ s12 = .int .i64 k ∧ nf - k < gg ∧ Hid (∀ j, j < k → foldQ lv ps n fs j = true) ∧ Hid (Below w3.heap.size w3 wr))
  case atStart => exact ⟨0, rfl, rfl, rfl, rfl, Nat.zero_le _, rfl, by omega, fun j hj => by omega, Below.refl _ _⟩
  case round =>
    obtain ⟨k, _, _, _, _, hk, rfl, hg, HQ, HB⟩ := hrel
    cases gk with
    | zero => omega
    | succ gl =>
    by_cases hlt : k < nf
    · have k1 : (k : Int) < (nf : Int) := by omega
      have k0 : (0 : Int) ≤ (k : Int) := by omega
      have hkf : k < fs.length := by rw [HFL.out]; exact hlt
      obtain ⟨bf, of, rfl, hbf, e0, e1, e2, e3⟩ := rowv_fq (HIF.out.below HB.out) hkf
      obtain ⟨f1, f2, f3⟩ := HFA.out fs[k] (List.getElem_mem hkf)
      have HBAD := Lib.hid (fun (hq : foldQ lv ps n fs k = false) => (all_bad (n := fs.length) (q := foldQ lv ps n fs) hkf hq : rightQ lv ps n fs = false))
      have HDIR := Lib.hid (foldQ_dir (lv := lv) (ps := ps) (n := n) hkf)
      have HPRT := Lib.hid (fun i (hi : i < n) => foldQ_part (lv := lv) (ps := ps) (n := n) hkf (i := i) hi)
      have HPAI := Lib.hid (fun m (hm : m < k) => foldQ_pair (lv := lv) (ps := ps) (n := n) hkf hm)
      have HOKK := Lib.hid (foldQ_ok (lv := lv) (ps := ps) (n := n) hkf)
      obtain ⟨⟨a, b, p, z⟩, hf⟩ : ∃ f, f = fs[k] := ⟨_, rfl⟩
      rw [← hf] at e0 e1 e2 e3 f1 f2 f3
      have HFK := Lib.hid hf
      simp only [] at e0 e1 e2 e3 f1 f2 f3
      have a1 : (a : Int) < (lv.length : Int) := by have := HLL.out; omega
      have a1n : (a : Int) < (n : Int) := by omega
      have b1n : (b : Int) < (n : Int) := by omega
      have a0 : (0 : Int) ≤ (a : Int) := by omega
      have b0 : (0 : Int) ≤ (b : Int) := by omega
      obtain ⟨bl, ol, rfl, hbl, c1⟩ := ints_get (HIL3.out.below HB.out) (show a < lv.length by have := HLL.out; omega)
      obtain ⟨_, _, el, _, c2⟩ := ints_get (HIL3.out.below HB.out) (show b < lv.length by have := HLL.out; omega)
      cases el
      obtain ⟨la, hla⟩ : ∃ x, x = lv.getD a 0 := ⟨_, rfl⟩
      obtain ⟨lb, hlb⟩ : ∃ x, x = lv.getD b 0 := ⟨_, rfl⟩
      rw [← hla] at c1 f3
      rw [← hlb] at c2 f3
      have HLA := Lib.hid (And.intro hla hlb)
      obtain ⟨m1, m2⟩ := mod2z a
      obtain ⟨ar, har⟩ : ∃ ar, ar = a % 2 := ⟨_, rfl⟩
      rw [← har] at m1 m2
      have HAR := Lib.hid har
      clear hf hla hlb har a1
      go_wp2_with fail
      go_quiet (fail)
      obtain ⟨dq, hdq⟩ : ∃ dq, dq = (decide (la < lb) == (((z.toNat : Int) == 86) == ((ar : Int) == 0))) := ⟨_, rfl⟩
      have HDQ : Hid (dirQ lv (a, b, p, z) = dq) := by
        show _ = _
        unfold dirQ
        simp only []
        rw [← HLA.out.1, ← HLA.out.2, hdq, ← HAR.out]
        congr 2
        apply boolD
        rw [beq_iff_eq, beq_iff_eq]; omega
      rw [← hdq]
      obtain ⟨ul, hul⟩ : ∃ ul, ul = decide (la < lb) := ⟨_, rfl⟩
      rw [← hul]
      clear hdq hul
      cases dq with
      | false =>
        have HRB : Hid (rightQ lv ps n fs = false) := HBAD.out (HDIR.out (by rw [← HFK.out]; exact HDQ.out))
        have HBF : Hid (Below w.heap.size w ((wr.alloc (.cells #[.int .i64 a, .int .i64 b, .int .i64 p, .int .u8 (z.toNat : Int)] 90)).drewN nq)) := by
          have := HB3.out.trans (HB.out.mono HB3.out.size)
          exact below_drewN (this.alloc this.size _) _
        clear HBAD HDIR HPRT HPAI HOKK
        go_wp2_with fail
        go_ret
        exact ⟨ret_bool (by rw [HRB.out]), HBF.out⟩
      | true =>
        obtain ⟨w5, hw5⟩ : ∃ y, y = (wr.alloc (.cells #[.int .i64 a, .int .i64 b, .int .i64 p, .int .u8 (z.toNat : Int)] 90)).drewN nq := ⟨_, rfl⟩
        have HB5 : Hid (Below w3.heap.size w3 w5) := by show Below _ _ _; rw [hw5]; exact below_drewN (HB.out.alloc HB.out.size _) _
        have HX5 : Hid (Blk w5 wr.heap.size 90 #[.int .i64 a, .int .i64 b, .int .i64 p, .int .u8 (z.toNat : Int)]) := by show Blk _ _ _ _; rw [hw5]; exact (Blk.new wr _ _).drewN _
        obtain ⟨q, hq⟩ : ∃ q, q = wr.heap.size := ⟨_, rfl⟩
        rw [← hq] at HX5 ⊢
        rw [← hw5]
        have HI5 := Lib.hid (HIL3.out.below HB5.out)
        clear hw5 hq c1 c2 e0 e1 e2 e3 hbl hbf HB
        go_wp2_with fail
        go_loopg [14, 15] (n + 1) (fun gg s14 s15 wr => ∃ (j : Nat), s15 = s15 ∧ j ≤ n ∧ s14 = .int .i64 j ∧ n - j < gg ∧ Hid (∀ i, i < j → partQ lv ps (a, b, p, z) i = true) ∧ Hid (Below w5.heap.size w5 wr))
        case atStart => exact ⟨0, rfl, Nat.zero_le _, rfl, by omega, fun i hi => by omega, Below.refl _ _⟩
        case round =>
          obtain ⟨j, _, hj, rfl, hg2, HJ, HB2⟩ := hrel
          obtain ⟨wr2, hwr2⟩ : ∃ y, y = wr := ⟨_, rfl⟩
          rw [← hwr2] at HB2 ⊢
          clear hwr2
          cases gk with
          | zero => omega
          | succ g2 =>
          by_cases hltj : j < n
          · have j1 : (j : Int) < (n : Int) := by omega
            have j0 : (0 : Int) ≤ (j : Int) := by omega
            obtain ⟨_, _, el, hbl, c0⟩ := ints_get (HI5.out.below HB2.out) (show j < lv.length by have := HLL.out; omega)
            cases el
            obtain ⟨_, _, el, _, c1⟩ := ints_get (HI5.out.below HB2.out) (show a < lv.length by have := HLL.out; omega)
            cases el
            obtain ⟨_, _, el, _, c2⟩ := ints_get (HI5.out.below HB2.out) (show b < lv.length by have := HLL.out; omega)
            cases el
            rw [← HLA.out.1] at c1
            rw [← HLA.out.2] at c2
            obtain ⟨lj, hlj⟩ : ∃ x, x = lv.getD j 0 := ⟨_, rfl⟩
            rw [← hlj] at c0
            have hx6 := HX5.out.below HB2.out HX5.out.lt
            have x0 := hx6.cell 0
            have x1 := hx6.cell 1
            have x2 := hx6.cell 2
            simp at x0 x1 x2
            have hql := hx6.lt
            clear hx6
            have hstep : (Hid (∀ i, i < j → partQ lv ps (a, b, p, z) i = true)) → Hid (partQ lv ps (a, b, p, z) j = true) → Hid (∀ i, i < j + 1 → partQ lv ps (a, b, p, z) i = true) := fun h1 h2 i hi => by
              by_cases e : i = j
              · rw [e]; exact h2.out
              · exact h1.out i (by omega)
            have HBW : Hid (Below w.heap.size w wr2) := HB3.out.trans ((HB5.out.trans (HB2.out.mono HB5.out.size)).mono HB3.out.size)
            rcases Int.lt_or_gt_of_ne f3 with hq | hq
            · have hq2 : ¬ lb < la := by omega
              by_cases g1 : la < lj
              · have d1 : decide (la < lj) = true := by simp; omega
                by_cases g2 : lj < lb
                · have d2 : decide (lj < lb) = true := by simp; omega
                  obtain ⟨ib, hib⟩ : ∃ ib, ib = insB ps p j := ⟨_, rfl⟩
                  have HCV := Lib.hid (fun m => spec_l2Covers Ap cp j ps p (wr2.drewN m) ((HIP3.out.below (HB5.out.trans (HB2.out.mono HB5.out.size))).below (below_drewN (Below.refl _ _) m)) (by have := HPP.out; omega) (by have := HPP.out; omega))
                  rw [← hib] at HCV
                  have HP : Hid (partQ lv ps (a, b, p, z) j = !ib) := by
                    show _ = _
                    unfold partQ betB
                    simp only []
                    rw [← HLA.out.1, ← HLA.out.2, ← hlj, ← hib]
                    have e1 : decide (min la lb < lj) = true := by simp; omega
                    have e2 : decide (lj < max la lb) = true := by simp; omega
                    rw [e1, e2]; rfl
                  clear hlj hib g1 g2
                  cases ib with
                  | true =>
                    have HRB : Hid (rightQ lv ps n fs = false) := HBAD.out (HPRT.out j hltj (by rw [← HFK.out]; exact HP.out))
                    clear HBAD HDIR HPRT HPAI HOKK
                    go_wp2_with fail
                    go_quiet (fail)
                    go_wp2_with fail
                    refine (HCV.out _).mono ?_
                    rintro e _ ⟨rfl, m9, rfl⟩
                    go_wp2_with fail
                    go_ret
                    exact ⟨ret_bool (by rw [HRB.out]), below_drewN HBW.out _⟩
                  | false =>
                    go_wp2_with fail
                    go_quiet (fail)
                    go_wp2_with fail
                    refine (HCV.out _).mono ?_
                    rintro e _ ⟨rfl, m9, rfl⟩
                    go_wp2_with fail
                    go_roundg g2
                    case measure => omega
                    case rel => exact ⟨j + 1, trivial, by omega, by go_num, by omega, hstep HJ HP, below_drewN HB2.out _⟩
                · have d2 : decide (lj < lb) = false := by simp; omega
                  have HP : Hid (partQ lv ps (a, b, p, z) j = true) := by
                    show _ = _
                    unfold partQ betB
                    simp only []
                    rw [← HLA.out.1, ← HLA.out.2, ← hlj]
                    have e2 : decide (lj < max la lb) = false := by simp; omega
                    rw [e2, Bool.and_false, Bool.false_and]; rfl
                  clear hlj g1 g2
                  go_wp2_with fail
                  go_quiet (fail)
                  go_wp2_with fail
                  go_roundg g2
                  case measure => omega
                  case rel => exact ⟨j + 1, trivial, by omega, by go_num, by omega, hstep HJ HP, below_drewN HB2.out _⟩
              · have d1 : decide (la < lj) = false := by simp; omega
                have HP : Hid (partQ lv ps (a, b, p, z) j = true) := by
                  show _ = _
                  unfold partQ betB
                  simp only []
                  rw [← HLA.out.1, ← HLA.out.2, ← hlj]
                  have e1 : decide (min la lb < lj) = false := by simp; omega
                  rw [e1, Bool.false_and, Bool.false_and]; rfl
                clear hlj g1
                go_wp2_with fail
                go_quiet (fail)
                go_wp2_with fail
                go_roundg g2
                case measure => omega
                case rel => exact ⟨j + 1, trivial, by omega, by go_num, by omega, hstep HJ HP, below_drewN HB2.out _⟩
            · have hq2 : ¬ la < lb := by omega
              by_cases g1 : lb < lj
              · have d1 : decide (lb < lj) = true := by simp; omega
                by_cases g2 : lj < la
                · have d2 : decide (lj < la) = true := by simp; omega
                  obtain ⟨ib, hib⟩ : ∃ ib, ib = insB ps p j := ⟨_, rfl⟩
                  have HCV := Lib.hid (fun m => spec_l2Covers Ap cp j ps p (wr2.drewN m) ((HIP3.out.below (HB5.out.trans (HB2.out.mono HB5.out.size))).below (below_drewN (Below.refl _ _) m)) (by have := HPP.out; omega) (by have := HPP.out; omega))
                  rw [← hib] at HCV
                  have HP : Hid (partQ lv ps (a, b, p, z) j = !ib) := by
                    show _ = _
                    unfold partQ betB
                    simp only []
                    rw [← HLA.out.1, ← HLA.out.2, ← hlj, ← hib]
                    have e1 : decide (min la lb < lj) = true := by simp; omega
                    have e2 : decide (lj < max la lb) = true := by simp; omega
                    rw [e1, e2]; rfl
                  clear hlj hib g1 g2
                  cases ib with
                  | true =>
                    have HRB : Hid (rightQ lv ps n fs = false) := HBAD.out (HPRT.out j hltj (by rw [← HFK.out]; exact HP.out))
                    clear HBAD HDIR HPRT HPAI HOKK
                    go_wp2_with fail
                    go_quiet (fail)
                    go_wp2_with fail
                    refine (HCV.out _).mono ?_
                    rintro e _ ⟨rfl, m9, rfl⟩
                    go_wp2_with fail
                    go_ret
                    exact ⟨ret_bool (by rw [HRB.out]), below_drewN HBW.out _⟩
                  | false =>
                    go_wp2_with fail
                    go_quiet (fail)
                    go_wp2_with fail
                    refine (HCV.out _).mono ?_
                    rintro e _ ⟨rfl, m9, rfl⟩
                    go_wp2_with fail
                    go_roundg g2
                    case measure => omega
                    case rel => exact ⟨j + 1, trivial, by omega, by go_num, by omega, hstep HJ HP, below_drewN HB2.out _⟩
                · have d2 : decide (lj < la) = false := by simp; omega
                  have HP : Hid (partQ lv ps (a, b, p, z) j = true) := by
                    show _ = _
                    unfold partQ betB
                    simp only []
                    rw [← HLA.out.1, ← HLA.out.2, ← hlj]
                    have e2 : decide (lj < max la lb) = false := by simp; omega
                    rw [e2, Bool.and_false, Bool.false_and]; rfl
                  clear hlj g1 g2
                  go_wp2_with fail
                  go_quiet (fail)
                  go_wp2_with fail
                  go_roundg g2
                  case measure => omega
                  case rel => exact ⟨j + 1, trivial, by omega, by go_num, by omega, hstep HJ HP, below_drewN HB2.out _⟩
              · have d1 : decide (lb < lj) = false := by simp; omega
                have HP : Hid (partQ lv ps (a, b, p, z) j = true) := by
                  show _ = _
                  unfold partQ betB
                  simp only []
                  rw [← HLA.out.1, ← HLA.out.2, ← hlj]
                  have e1 : decide (min la lb < lj) = false := by simp; omega
                  rw [e1, Bool.false_and, Bool.false_and]; rfl
                clear hlj g1
                go_wp2_with fail
                go_quiet (fail)
                go_wp2_with fail
                go_roundg g2
                case measure => omega
                case rel => exact ⟨j + 1, trivial, by omega, by go_num, by omega, hstep HJ HP, below_drewN HB2.out _⟩
          · obtain rfl : j = n := by omega
            have HW2 : Hid (Below w3.heap.size w3 wr2) := HB5.out.trans (HB2.out.mono HB5.out.size)
            have HX6 := Lib.hid (HX5.out.below HB2.out HX5.out.lt)
            go_wp2_with fail
            go_loopg [16] (k + 1) (fun gg s16 wr => ∃ (m : Nat), m ≤ k ∧ s16 = .int .i64 m ∧ k - m < gg ∧ Hid (∀ i, i < m → pqI lv fs (a, b, p, z) i = true) ∧ Hid (Below wr2.heap.size wr2 wr))
            case atStart => exact ⟨0, Nat.zero_le _, rfl, by omega, fun i hi => by omega, Below.refl _ _⟩
            case round =>
              obtain ⟨m, hm, rfl, hg3, HM, HB6⟩ := hrel
              obtain ⟨wm, hwm⟩ : ∃ y, y = wr := ⟨_, rfl⟩
              rw [← hwm] at HB6 ⊢
              clear hwm
              cases gk with
              | zero => omega
              | succ g3 =>
              have HB7 : Hid (Below w3.heap.size w3 wm) := HW2.out.trans (HB6.out.mono HW2.out.size)
              by_cases hltm : m < k
              · have j1 : (m : Int) < (k : Int) := by omega
                have j0 : (0 : Int) ≤ (m : Int) := by omega
                have j2 : (m : Int) < (nf : Int) := by omega
                have hmf : m < fs.length := by omega
                obtain ⟨_, _, ef, hbf, e0, e1, e2, e3⟩ := rowv_fq (HIF.out.below HB7.out) hmf
                cases ef
                have hfm := HFA.out fs[m] (List.getElem_mem hmf)
                have hpq : pqI lv fs (a, b, p, z) m = pairQ lv (a, b, p, z) fs[m] := by unfold pqI; rw [List.getElem?_eq_getElem hmf]
                have hbad : pqI lv fs (a, b, p, z) m = false → rightQ lv ps j fs = false := fun h => HBAD.out (HPAI.out m hltm (by rw [← HFK.out, ← hpq]; exact h))
                obtain ⟨⟨a', b', p', z'⟩, hf'⟩ : ∃ f, f = fs[m] := ⟨_, rfl⟩
                rw [← hf'] at e0 e1 e2 e3 hfm hpq
                obtain ⟨g1, g2', g3'⟩ := hfm
                simp only [] at e0 e1 e2 e3 g1 g2' g3'
                have hx7 := HX6.out.below HB6.out HX6.out.lt
                have x0 := hx7.cell 0
                have x1 := hx7.cell 1
                have x2 := hx7.cell 2
                have x3 := hx7.cell 3
                simp at x0 x1 x2 x3
                have hql := hx7.lt
                obtain ⟨m1', m2'⟩ := mod2z a'
                obtain ⟨ar', har'⟩ : ∃ ar, ar = a' % 2 := ⟨_, rfl⟩
                rw [← har'] at m1' m2'
                have HAR' := Lib.hid har'
                have HBAD2 := Lib.hid hbad
                have HPQ := Lib.hid hpq
                have HIA := Lib.hid (HIL3.out.below HB7.out)
                have hstep : (Hid (∀ i, i < m → pqI lv fs (a, b, p, z) i = true)) → Hid (pqI lv fs (a, b, p, z) m = true) → Hid (∀ i, i < m + 1 → pqI lv fs (a, b, p, z) i = true) := fun h1 h2 i hi => by
                  by_cases e : i = m
                  · rw [e]; exact h2.out
                  · exact h1.out i (by omega)
                clear hx7 hf' har' hbad hpq g3'
                by_cases hpp : p' = p
                · have y1 : (p' == p) = true := by rw [beq_iff_eq]; exact hpp
                  by_cases har2 : ar' = ar
                  · have y2 : ((ar' : Int) == (ar : Int)) = true := by rw [beq_iff_eq]; omega
                    obtain ⟨ap, hap⟩ : ∃ ap, ap = apartB lv (a, b, p, z) (a', b', p', z') := ⟨_, rfl⟩
                    have HAP := Lib.hid (fun (W : World) (hb : Below wm.heap.size wm W) => spec_l2Apart (some ⟨bl, ol, none⟩) cl a b a' b' p p' z z' lv W (HIA.out.below hb) (by have := HLL.out; omega) (by have := HLL.out; omega) (by have := HLL.out; omega) (by have := HLL.out; omega) (by have := HLL.out; omega))
                    rw [← hap, HLL.out] at HAP
                    have HAP2 : Hid (∀ (W : World) (hb : Below wm.heap.size wm W), Calls Tryz.prog 72 #[.slice (some ⟨bl, ol, none⟩) j cl, .agg #[.int .i64 a, .int .i64 b, .int .i64 p, .int .u8 (z.toNat : Int)], .agg #[.int .i64 a', .int .i64 b', .int .i64 p', .int .u8 (z'.toNat : Int)]] W fun e w' => e = .returned (.bool ap) ∧ Below W.heap.size W w') := HAP.out
                    have HP : Hid (pqI lv fs (a, b, p, z) m = ap) := by
                      show _ = _
                      rw [HPQ.out]
                      unfold pairQ
                      simp only []
                      rw [y1, ← hap, ← HAR'.out, ← HAR.out, har2]
                      simp
                    clear hap hpp har2 HAP
                    cases ap with
                    | false =>
                      have HRB : Hid (rightQ lv ps j fs = false) := HBAD2.out HP.out
                      clear HBAD HDIR HPRT HPAI HOKK hstep
                      go_wp2_with fail
                      go_region_held3 (fun W => W.cell? ⟨q, 0, none⟩ = some (.int .i64 a) ∧ W.cell? ⟨q, 1, none⟩ = some (.int .i64 b) ∧ W.cell? ⟨q, 2, none⟩ = some (.int .i64 p) ∧ W.cell? ⟨q, 3, none⟩ = some (.int .u8 (z.toNat : Int)) ∧ W.cell? ⟨bf, of + m * 4, none⟩ = some (.int .i64 a') ∧ W.cell? ⟨bf, of + m * 4 + 1, none⟩ = some (.int .i64 b') ∧ W.cell? ⟨bf, of + m * 4 + 2, none⟩ = some (.int .i64 p') ∧ W.cell? ⟨bf, of + m * 4 + 3, none⟩ = some (.int .u8 (z'.toNat : Int)))
                        (first | exact ⟨x0, x1, x2, x3, e0, e1, e2, e3⟩ | exact ⟨(hbx.cell (p := ⟨q, 0, none⟩) hql).trans x0, (hbx.cell (p := ⟨q, 1, none⟩) hql).trans x1, (hbx.cell (p := ⟨q, 2, none⟩) hql).trans x2, (hbx.cell (p := ⟨q, 3, none⟩) hql).trans x3, (hbx.cell (p := ⟨bf, of + m * 4, none⟩) hbf).trans e0, (hbx.cell (p := ⟨bf, of + m * 4 + 1, none⟩) hbf).trans e1, (hbx.cell (p := ⟨bf, of + m * 4 + 2, none⟩) hbf).trans e2, (hbx.cell (p := ⟨bf, of + m * 4 + 3, none⟩) hbf).trans e3⟩)
                        ((go_simp; go_at_call 72; refine (HAP2.out _ (below_drewN (Below.refl _ _) _)).mono ?_; rintro e w6 ⟨rfl, hbx⟩))
                      all_goals
                        have HBF : Hid (Below w.heap.size w w6) := HB3.out.trans ((HB7.out.trans (((below_drewN (Below.refl wm.heap.size wm) 1).trans hbx).mono HB7.out.size)).mono HB3.out.size)
                        clear hbx
                        go_wp2_with fail
                        go_ret
                        exact ⟨ret_bool (by rw [HRB.out]), HBF.out⟩
                    | true =>
                      go_wp2_with fail
                      go_region_held3 (fun W => W.cell? ⟨q, 0, none⟩ = some (.int .i64 a) ∧ W.cell? ⟨q, 1, none⟩ = some (.int .i64 b) ∧ W.cell? ⟨q, 2, none⟩ = some (.int .i64 p) ∧ W.cell? ⟨q, 3, none⟩ = some (.int .u8 (z.toNat : Int)) ∧ W.cell? ⟨bf, of + m * 4, none⟩ = some (.int .i64 a') ∧ W.cell? ⟨bf, of + m * 4 + 1, none⟩ = some (.int .i64 b') ∧ W.cell? ⟨bf, of + m * 4 + 2, none⟩ = some (.int .i64 p') ∧ W.cell? ⟨bf, of + m * 4 + 3, none⟩ = some (.int .u8 (z'.toNat : Int)))
                        (first | exact ⟨x0, x1, x2, x3, e0, e1, e2, e3⟩ | exact ⟨(hbx.cell (p := ⟨q, 0, none⟩) hql).trans x0, (hbx.cell (p := ⟨q, 1, none⟩) hql).trans x1, (hbx.cell (p := ⟨q, 2, none⟩) hql).trans x2, (hbx.cell (p := ⟨q, 3, none⟩) hql).trans x3, (hbx.cell (p := ⟨bf, of + m * 4, none⟩) hbf).trans e0, (hbx.cell (p := ⟨bf, of + m * 4 + 1, none⟩) hbf).trans e1, (hbx.cell (p := ⟨bf, of + m * 4 + 2, none⟩) hbf).trans e2, (hbx.cell (p := ⟨bf, of + m * 4 + 3, none⟩) hbf).trans e3⟩)
                        ((go_simp; go_at_call 72; refine (HAP2.out _ (below_drewN (Below.refl _ _) _)).mono ?_; rintro e w6 ⟨rfl, hbx⟩))
                      all_goals
                        have HBN : Hid (Below wr2.heap.size wr2 w6) := HB6.out.trans (((below_drewN (Below.refl wm.heap.size wm) 1).trans hbx).mono HB6.out.size)
                        clear hbx
                        go_wp2_with fail
                        go_roundg g3
                        case measure => omega
                        case rel => exact ⟨m + 1, by omega, by go_num, by omega, hstep HM HP, HBN.out⟩
                  · have y2 : ((ar' : Int) == (ar : Int)) = false := by rw [beq_eq_false_iff_ne]; omega
                    have HP : Hid (pqI lv fs (a, b, p, z) m = true) := by
                      show _ = _
                      rw [HPQ.out]
                      unfold pairQ
                      simp only []
                      have e : (a' % 2 == a % 2) = false := by rw [beq_eq_false_iff_ne, ← HAR'.out, ← HAR.out]; exact har2
                      rw [e]; simp
                    clear hpp har2
                    go_wp2_with fail
                    go_quiet (fail)
                    go_wp2_with fail
                    go_roundg g3
                    case measure => omega
                    case rel => exact ⟨m + 1, by omega, by go_num, by omega, hstep HM HP, below_drewN HB6.out _⟩
                · have y1 : (p' == p) = false := by rw [beq_eq_false_iff_ne]; exact hpp
                  have HP : Hid (pqI lv fs (a, b, p, z) m = true) := by
                    show _ = _
                    rw [HPQ.out]
                    unfold pairQ
                    simp only []
                    rw [y1]; simp
                  clear hpp
                  go_wp2_with fail
                  go_quiet (fail)
                  go_wp2_with fail
                  go_roundg g3
                  case measure => omega
                  case rel => exact ⟨m + 1, by omega, by go_num, by omega, hstep HM HP, below_drewN HB6.out _⟩
              · obtain rfl : m = k := by omega
                have HOK : Hid (foldQ lv ps j fs m = true) := HOKK.out (by rw [← HFK.out]; exact HDQ.out) (fun i hi => by rw [← HFK.out]; exact HJ.out i hi) (fun i hi => by
                  have := HM.out i hi
                  unfold pqI at this
                  rw [List.getElem?_eq_getElem (show i < fs.length by omega)] at this
                  rw [← HFK.out]; exact this)
                go_wp2_with fail
                go_roundg gl
                case measure => omega
                case rel => exact ⟨m + 1, trivial, trivial, trivial, trivial, by omega, by go_num, by omega, fun i hi => (by
                  by_cases e : i = m
                  · rw [e]; exact HOK.out
                  · exact HQ.out i (by omega)), HB7.out⟩
    · obtain rfl : k = nf := by omega
      have HR : Hid (rightQ lv ps n fs = true) := by
        show _ = _
        unfold rightQ
        rw [HFL.out]
        exact List.all_eq_true.2 fun j hj => HQ.out j (List.mem_range.1 hj)
      go_wp2_with fail
      go_ret
      exact ⟨ret_bool (by rw [HR.out]), HB3.out.trans (HB.out.mono HB3.out.size)⟩
end Go.Proofs.YtkdlipbegdiaaaaGreatDoor
