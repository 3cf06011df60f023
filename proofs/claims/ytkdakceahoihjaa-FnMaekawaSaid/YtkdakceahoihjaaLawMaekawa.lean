/- The law that mountains and valleys differ by two: the walk of the law itself. No condition but sizes. -/
import Derived.Test.YtkdakceahoihjaaDrawD
import Derived.Test.YtkdakceahoihjaaTurnJ
import Derived.Test.YtkdakceahoihjaaHelpA
namespace Go.Proofs.Ytkdakceahoihjaa
open Go.RowKit

/-- w0 grew to W, nothing of it changed -/
def Kp (w0 W : World) : Prop := Below w0.heap.size w0 W
theorem Kp.drew {w0 W : World} (h : Kp w0 W) : Kp w0 W.drew := ⟨h.os, h.tape, h.output, h.size, h.block⟩
theorem Kp.drewN {w0 W : World} (h : Kp w0 W) (n : Nat) : Kp w0 (W.drewN n) := ⟨h.os, h.tape, h.output, h.size, h.block⟩
theorem Kp.trans {w0 w1 W : World} (h : Kp w0 w1) (h' : Kp w1 W) : Kp w0 W := Below.trans h (Below.mono h' h.size)
theorem Kp.more {w0 W W' : World} (h : Kp w0 W) (hb : Below W.heap.size W W') : Kp w0 W' := Below.trans h (hb.mono h.size)

theorem turned_bts (s : ByteArray) (k : Nat) : s.extract k s.size ++ s.extract 0 k = bts (s.data.toList.drop k ++ s.data.toList.take k) := by
  apply ByteArray.ext
  apply Array.ext'
  show _ = s.data.toList.drop k ++ s.data.toList.take k
  rw [ByteArray.data_append, Array.toList_append, ByteArray.data_extract, ByteArray.data_extract]
  have h : s.data.toList.length = s.size := size_list s
  simp only [Array.toList_extract, List.extract_eq_take_drop, List.drop_zero, Nat.sub_zero]
  rw [List.take_of_length_le (by rw [List.length_drop, h]; exact Nat.le_refl _)]
theorem mirr_bts {cs : List UInt8} {n : Nat} (hn : cs.length = n) (h1 : 1 ≤ n) : (bts cs.reverse).extract (n - 1) (bts cs.reverse).size ++ (bts cs.reverse).extract 0 (n - 1) = bts (mirr cs) := by
  rw [turned_bts, bts_list]
  cases cs with
  | nil => simp at hn; omega
  | cons c r =>
    have hl : r.reverse.length = n - 1 := by simp at hn ⊢; omega
    rw [List.reverse_cons, mirr, List.drop_append_of_le_length (by omega), List.take_append_of_le_length (by omega), List.drop_of_length_le (by omega), List.take_of_length_le (by omega)]
    rfl

set_option maxHeartbeats 4000000 in
set_option maxRecDepth 100000 in
theorem law_FnMaekawa (A A2 : Option Addr) (cap cap2 : Nat) (bs bs2 : List UInt8) (w : World) (h : Codes w w.heap.size A bs) (hcap : bs.length ≤ cap) (hcm : cap ≤ maxLen) (hcap2 : bs2.length ≤ cap2) (hcm2 : cap2 ≤ maxLen) :
    Calls Try.prog 9 #[.slice A bs.length cap, .slice A2 bs2.length cap2] w fun e w' => e = .returned (.bool true) ∧ Below w.heap.size w w' := by
  have hlm : bs.length ≤ maxLen := Nat.le_trans hcap hcm
  have hlm2 := hlm
  have hlm3 : bs2.length ≤ maxLen := Nat.le_trans hcap2 hcm2
  unfold maxLen at hlm2 hlm3
  by_cases g1 : 1048576 < bs.length
  · have d1 : decide ((1048576 : Int) < (bs.length : Int)) = true := by simp; omega
    go_enter Try.func9, Try.ntmps9
    go_wp2_with fail
    go_ret
    exact ⟨rfl, Below.refl _ _⟩
  · have d1 : decide ((1048576 : Int) < (bs.length : Int)) = false := by simp; omega
    by_cases g2 : 1048576 < bs2.length
    · have d2 : decide ((1048576 : Int) < (bs2.length : Int)) = true := by simp; omega
      go_enter Try.func9, Try.ntmps9
      go_wp2_with fail
      go_ret
      exact ⟨rfl, Below.refl _ _⟩
    · have d2 : decide ((1048576 : Int) < (bs2.length : Int)) = false := by simp; omega
      go_enter Try.func9, Try.ntmps9
      go_wp2_with fail
      refine (spec_DrawVertexFolds w A cap bs h (by omega) hcap hcm).mono ?_
      rintro e w1 ⟨B, xs, c, s, rfl, hI, hc, hcmx, hx10, hSm, hs, hb1⟩
      clear hSm
      go_wp2_with fail
      refine (impl_VertexFolds B c xs s w1 hI (by unfold maxLen; omega) (by unfold maxLen; omega)).mono ?_
      rintro e w2 ⟨rfl, hb2⟩
      have b2 := below_from hb1 hb2 hb1.size
      have hI2 := hI.below hb2
      clear hb1 hb2 hI
      go_wp2_with fail
      refine (spec_VertexFolds B c xs s w2 hI2 (by unfold maxLen; omega) (by unfold maxLen; omega) hc hcmx).mono ?_
      rintro e w3 ⟨rfl, hb3⟩
      have b3 := below_from b2 hb3 b2.size
      have hI3 := hI2.below hb3
      clear b2 hb3 hI2
      cases hv : vfB xs s with
      | false =>
        have HV := Lib.hid hv
        clear hv
        go_wp2_with fail
        go_ret
        exact ⟨rfl, b3⟩
      | true =>
        have hd := vfB_down.1 hv
        have hsz : s.size = xs.length := fvB_size hd.2.1
        have hav := ((acB_iff xs).1 hd.1).1
        obtain ⟨_, h2l, _, _, _⟩ := avB_parts hav
        have hsb : bts s.data.toList = s := bts_of s
        have hvs : vfB xs (bts s.data.toList) = true := by rw [hsb]; exact hv
        have hbal := vf_bal hvs
        have hll : s.data.toList.length = xs.length := by rw [size_list, hsz]
        obtain ⟨n, hn⟩ : ∃ n, n = xs.length := ⟨_, rfl⟩
        obtain ⟨k, hk⟩ : ∃ k, k = bs2.length % n := ⟨_, rfl⟩
        rw [← hn] at h2l hc hx10
        have hkn : k < n := hk ▸ Nat.mod_lt _ (by omega)
        have t1 : ((bs2.length : Int).tmod (n : Int)) = (k : Int) := by rw [Int.tmod_eq_emod_of_nonneg (by omega), hk]; simp
        have t2 : ((bs2.length : Int) % (n : Int)) = (k : Int) := by rw [hk]; simp
        have t3 : ((n : Int) == 0) = false := by rw [beq_eq_false_iff_ne]; clear t1 t2; omega
        have HK := Lib.hid (And.intro t1 t2)
        clear t1 t2 hk
        obtain ⟨ys, hys⟩ : ∃ ys, ys = xs.drop k ++ xs.take k := ⟨_, rfl⟩
        obtain ⟨zs, hzs⟩ : ∃ zs, zs = xs.reverse := ⟨_, rfl⟩
        obtain ⟨T1, hT1⟩ : ∃ T1, T1 = s.extract k s.size ++ s.extract 0 k := ⟨_, rfl⟩
        obtain ⟨SW, hSW⟩ : ∃ SW, SW = swT s := ⟨_, rfl⟩
        obtain ⟨BK, hBK⟩ : ∃ BK, BK = bts s.data.toList.reverse := ⟨_, rfl⟩
        obtain ⟨T2, hT2⟩ : ∃ T2, T2 = bts (mirr s.data.toList) := ⟨_, rfl⟩
        obtain ⟨b, hb⟩ : ∃ b, b = balT s.data.toList := ⟨_, rfl⟩
        have hBKs : BK.size = n := by rw [hBK]; show (List.toArray _).size = _; rw [List.size_toArray, List.length_reverse, hll, hn]
        have v1 : vfB xs SW = true := by
          rw [hSW]; exact (vf_swap xs s.data.toList).trans hvs
        have v2 : vfB ys T1 = true := by
          rw [hys, hT1, turned_bts, vf_turn (u := xs.take k) (v := xs.drop k) (u' := s.data.toList.take k) (v' := s.data.toList.drop k) (by rw [List.length_take, List.length_take, hll]) (by rw [List.length_drop, List.length_drop, hll]), List.take_append_drop, List.take_append_drop]
          exact hvs
        have v3 : vfB zs T2 = true := by
          rw [hzs, hT2]; exact vf_rev hvs
        have hT2' : BK.extract (n - 1) BK.size ++ BK.extract 0 (n - 1) = T2 := by
          rw [hBK, hT2]; exact mirr_bts (by rw [hll, hn]) (by omega)
        have s1 : SW.size ≤ 20 := by rw [hSW, swT_size]; exact hs
        have s2 : T1.size ≤ 40 := by rw [hT1]; rw [ByteArray.size_append]; simp only [ByteArray.size_extract]; omega
        have s3 : T2.size ≤ 40 := by rw [← hT2']; rw [ByteArray.size_append]; simp only [ByteArray.size_extract]; omega
        have y1 : ys.length ≤ 10 := by rw [hys]; simp; omega
        have z1 : zs.length ≤ 10 := by rw [hzs]; simp; omega
        have hs' : s.size ≤ 1000 := by omega
        have hks : k ≤ s.size := by omega
        -- the calls, each once
        have hturn : ∀ W : World, Kp w3 W → Calls Try.prog 23 #[.slice B n c, .int .i64 k] W fun e w' => ∃ v, e = .returned (.tuple #[v, .bool true]) ∧ Own w' W.heap.size v ys ∧ Below W.heap.size W w' := by
          intro W hK
          rw [hn, hys]
          exact impl_AnglesTurn B c xs k W (hI3.below hK) hav (by omega) (by omega) hcmx
        have hback : ∀ W : World, Kp w3 W → Calls Try.prog 38 #[.slice B n c] W fun e w' => ∃ v, e = .returned (.tuple #[v, .bool true]) ∧ Own w' W.heap.size v zs ∧ Below W.heap.size W w' := by
          intro W hK
          rw [hn, hzs]
          exact impl_AnglesBack B c xs W (hI3.below hK) hav
        have hbalc : ∀ W : World, Calls Try.prog 35 #[.string s] W fun e w' => e = .returned (.int .i64 b) ∧ W = w' := by
          intro W
          rw [hb]
          exact impl_FoldsBalance s W hs'
        have hbackt : ∀ W : World, Calls Try.prog 39 #[.string s] W fun e w' => e = .returned (.string BK) ∧ W = w' := by
          intro W
          rw [hBK]
          exact laws_backText s W hs'
        have hclose : ∀ W : World, Kp w3 W → Calls Try.prog 24 #[.slice B n c] W fun e w' => e = .returned (.bool true) ∧ W = w' := by
          intro W hK
          rw [hn, ← hd.1]
          exact impl_AnglesCloses B c xs W (hI3.below hK) (by unfold maxLen; omega)
        have hswap : ∀ W : World, Calls Try.prog 29 #[.string s] W fun e w' => e = .returned (.string SW) ∧ Below W.heap.size W w' := by
          intro W
          rw [hSW]
          exact impl_FoldsSwap s W hs'
        have hvf1 : ∀ W : World, Kp w3 W → Calls Try.prog 17 #[.slice B n c, .string SW] W fun e w' => e = .returned (.bool true) ∧ Below W.heap.size W w' := by
          intro W hK
          rw [hn, ← v1]
          exact impl_VertexFolds B c xs SW W (hI3.below hK) (by unfold maxLen; omega) (by unfold maxLen; omega)
        have htt : ∀ W : World, Calls Try.prog 40 #[.string s, .int .i64 k] W fun e w' => e = .returned (.string T1) ∧ ∃ m, W.drewN m = w' := by
          intro W
          rw [hT1]
          exact laws_turnedText s k W hks hs'
        have hvf2 : ∀ (W : World) (D : Option Addr) (cd : Nat), Ints W D ys → Calls Try.prog 17 #[.slice D ys.length cd, .string T1] W fun e w' => e = .returned (.bool true) ∧ Below W.heap.size W w' := by
          intro W D cd hI
          rw [← v2]
          exact impl_VertexFolds D cd ys T1 W hI (by unfold maxLen; omega) (by unfold maxLen; omega)
        have hvf3 : ∀ (W : World) (D : Option Addr) (cd : Nat), Ints W D zs → Calls Try.prog 17 #[.slice D zs.length cd, .string T2] W fun e w' => e = .returned (.bool true) ∧ Below W.heap.size W w' := by
          intro W D cd hI
          rw [← v3]
          exact impl_VertexFolds D cd zs T2 W hI (by unfold maxLen; omega) (by unfold maxLen; omega)
        have hbb : b = 2 ∨ b = -2 := by rw [hb]; exact hbal
        have b12 : ∀ W, (Op.stringOp .add (BK.extract (n - 1) BK.size) (BK.extract 0 (n - 1))).run Try.prog W = .ok (.string T2) W := by
          intro W
          rw [← hT2']
          exact run_string_add_sum W _ _ (by simp only [ByteArray.size_extract]; omega)
        have u1 : n ≤ BK.size := by omega
        have u2 : BK.size ≤ n := by omega
        have HTURN := Lib.hid hturn
        have HBACK := Lib.hid hback
        have HBALC := Lib.hid hbalc
        have HBACKT := Lib.hid hbackt
        have HCLOSE := Lib.hid hclose
        have HSWAP := Lib.hid hswap
        have HVF1 := Lib.hid hvf1
        have HTT := Lib.hid htt
        have HVF2 := Lib.hid hvf2
        have HVF3 := Lib.hid hvf3
        have HBB := Lib.hid hbb
        have HN := Lib.hid hn
        rw [← hn]
        clear hv hd hsz hav hsb hvs hbal hll hn hys hzs hT1 hSW hBK hT2 hb hBKs v1 v2 v3 hT2' hturn hback hbalc hbackt hclose hswap hvf1 htt hvf2 hvf3 hbb
        obtain ⟨t1, t2⟩ := HK.out
        go_wp2_with fail
        clear t1 t2
        refine (HTURN.out w3 (Below.refl _ _)).mono ?_
        rintro e w4 ⟨x, rfl, hown4, hb4⟩
        obtain ⟨D, cd, rfl, hID, _, _⟩ := hown4.form
        have K4 : Kp w3 w4 := hb4
        clear hown4 hb4
        go_wp2_with fail
        refine (HBACK.out w4 K4).mono ?_
        rintro e w5 ⟨y, rfl, hown5, hb5⟩
        obtain ⟨E, ce, rfl, hIE, _, _⟩ := hown5.form
        have K5 := K4.more hb5
        have hID5 := hID.below hb5
        clear hown5 hb5 hID K4
        go_wp2_with fail
        refine (HBALC.out w5).mono ?_
        rintro e w' ⟨rfl, rfl⟩
        go_wp2_with fail
        refine (HBACKT.out w5).mono ?_
        rintro e w' ⟨rfl, rfl⟩
        have i1 : (1 : Int) ≤ (n : Int) := by omega
        have i2 : (n : Int) - 1 ≤ (BK.size : Int) := by omega
        have i3 : (0 : Int) ≤ (n : Int) - 1 := by omega
        have i4 : ((n : Int) - 1).toNat = n - 1 := by omega
        have i5 : IntKind.i64.wrap ((n : Int) - 1) = (n : Int) - 1 := IntWalk.i64_in _ (by omega)
        have i6 : (n : Int) ≤ (BK.size : Int) + 1 := by omega
        have HD5 := Lib.hid hID5
        have HE5 := Lib.hid hIE
        clear hID5 hIE
        have hC5 : ∀ W : World, Kp w5 W → _ := fun W hK => HCLOSE.out W (K5.trans hK)
        have hV1 : ∀ W : World, Kp w5 W → _ := fun W hK => HVF1.out W (K5.trans hK)
        have hV2 : ∀ W : World, Kp w5 W → _ := fun W hK => HVF2.out W D cd (HD5.out.below hK)
        have hV3 : ∀ W : World, Kp w5 W → _ := fun W hK => HVF3.out W E ce (HE5.out.below hK)
        have HC5 := Lib.hid hC5
        have HV1 := Lib.hid hV1
        have HV2 := Lib.hid hV2
        have HV3 := Lib.hid hV3
        clear hC5 hV1 hV2 hV3 HCLOSE HVF1 HVF2 HVF3 HTURN HBACK HBALC HBACKT HK
        rcases HBB.out with rfl | rfl
        · clear HBB
          go_wp2_with fail
          refine wp_region_noPanic ?_
          refine wp_region_held_drew (S := fun W => Kp w5 W) (by kernel_rfl) (Kp.drew (Below.refl _ _)) (fun hHeld => ?_)
          refine wpAnyH_take (i := 0) (v := ?_) rfl (by kernel_rfl) (by kernel_rfl) (by kernel_rfl) (fun _ _ _ h => h) (Or.inl ⟨by rfl, ?hy0⟩) (by assumption) ?rs0
          case hy0 => (intro w hSw; go_simp; all_goals with_reducible rfl)
          try simp only [List.getElem_toArray, List.getElem_cons_succ, List.getElem_cons_zero, Act.put, List.setIfInBounds_toArray, List.set_cons_zero, List.set_cons_succ]
          refine wpAnyH_take (i := 1) (v := ?_) rfl (by kernel_rfl) (by kernel_rfl) (by kernel_rfl) (fun _ _ _ h => h) (Or.inl ⟨by rfl, ?hy1⟩) (by assumption) ?rs1
          case hy1 => (intro w hSw; go_simp; all_goals with_reducible rfl)
          try simp only [List.getElem_toArray, List.getElem_cons_succ, List.getElem_cons_zero, Act.put, List.setIfInBounds_toArray, List.set_cons_zero, List.set_cons_succ]
          refine wpAnyH_take (i := 2) (v := ?_) rfl (by kernel_rfl) (by kernel_rfl) (by kernel_rfl) (fun _ _ _ h => h) (Or.inl ⟨by rfl, ?hy2⟩) (by assumption) ?rs2
          case hy2 => (intro w hSw; go_simp; all_goals with_reducible rfl)
          try simp only [List.getElem_toArray, List.getElem_cons_succ, List.getElem_cons_zero, Act.put, List.setIfInBounds_toArray, List.set_cons_zero, List.set_cons_succ]
          refine wpAnyH_take (i := 3) (v := ?_) rfl (by kernel_rfl) (by kernel_rfl) (by kernel_rfl) (fun _ _ _ h => h) (Or.inl ⟨by rfl, ?hy3⟩) (by assumption) ?rs3
          case hy3 => (intro w hSw; go_simp; all_goals with_reducible rfl)
          try simp only [List.getElem_toArray, List.getElem_cons_succ, List.getElem_cons_zero, Act.put, List.setIfInBounds_toArray, List.set_cons_zero, List.set_cons_succ]
          refine wpAnyH_take (i := 4) (v := ?_) rfl (by kernel_rfl) (by kernel_rfl) (by kernel_rfl) (fun _ _ _ h => h) (Or.inl ⟨by rfl, ?hy4⟩) (by assumption) ?rs4
          case hy4 => (intro w hSw; go_simp; all_goals with_reducible rfl)
          try simp only [List.getElem_toArray, List.getElem_cons_succ, List.getElem_cons_zero, Act.put, List.setIfInBounds_toArray, List.set_cons_zero, List.set_cons_succ]
          refine wpAnyH_take (i := 5) (v := ?_) rfl (by kernel_rfl) (by kernel_rfl) (by kernel_rfl) (fun _ _ _ h => h) (Or.inl ⟨by rfl, ?hy5⟩) (by assumption) ?rs5
          case hy5 => (intro w hSw; go_simp; all_goals with_reducible rfl)
          try simp only [List.getElem_toArray, List.getElem_cons_succ, List.getElem_cons_zero, Act.put, List.setIfInBounds_toArray, List.set_cons_zero, List.set_cons_succ]
          refine wpAnyH_take (i := 6) (v := ?_) rfl (by kernel_rfl) (by kernel_rfl) (by kernel_rfl) (fun _ _ _ h => h) (Or.inl ⟨by rfl, ?hy6⟩) (by assumption) ?rs6
          case hy6 => (intro w hSw; go_simp; all_goals with_reducible rfl)
          try simp only [List.getElem_toArray, List.getElem_cons_succ, List.getElem_cons_zero, Act.put, List.setIfInBounds_toArray, List.set_cons_zero, List.set_cons_succ]
          refine wpAnyH_take (i := 7) (v := ?_) rfl (by kernel_rfl) (by kernel_rfl) (by kernel_rfl) (fun _ _ _ h => h) (Or.inl ⟨by rfl, ?hy7⟩) (by assumption) ?rs7
          case hy7 => (intro w hSw; go_simp; all_goals with_reducible rfl)
          try simp only [List.getElem_toArray, List.getElem_cons_succ, List.getElem_cons_zero, Act.put, List.setIfInBounds_toArray, List.set_cons_zero, List.set_cons_succ]
          refine wpAnyH_take (i := 8) (v := undef) rfl (by kernel_rfl) (by kernel_rfl) (by kernel_rfl) (fun _ _ _ h => h) (Or.inr ⟨by kernel_rfl, rfl⟩) (by assumption) ?_
          try simp only [List.getElem_toArray, List.getElem_cons_succ, List.getElem_cons_zero, Act.put, List.setIfInBounds_toArray, List.set_cons_zero, List.set_cons_succ]
          refine wpAnyH_take (i := 9) (v := undef) rfl (by kernel_rfl) (by kernel_rfl) (by kernel_rfl) (fun _ _ _ h => h) (Or.inr ⟨by kernel_rfl, rfl⟩) (by assumption) ?_
          try simp only [List.getElem_toArray, List.getElem_cons_succ, List.getElem_cons_zero, Act.put, List.setIfInBounds_toArray, List.set_cons_zero, List.set_cons_succ]
          refine wpAnyH_take (i := 10) (v := ?_) rfl (by kernel_rfl) (by kernel_rfl) (by kernel_rfl) (fun _ _ _ h => h) (Or.inl ⟨by rfl, ?hy10⟩) (by assumption) ?rs10
          case hy10 => (intro w hSw; go_simp; all_goals with_reducible rfl)
          try simp only [List.getElem_toArray, List.getElem_cons_succ, List.getElem_cons_zero, Act.put, List.setIfInBounds_toArray, List.set_cons_zero, List.set_cons_succ]
          refine wpAnyH_take (i := 11) (v := ?_) rfl (by kernel_rfl) (by kernel_rfl) (by kernel_rfl) (fun _ _ _ h => h) (Or.inl ⟨by rfl, ?hy11⟩) (by assumption) ?rs11
          case hy11 => (intro w hSw; go_simp; all_goals with_reducible rfl)
          try simp only [List.getElem_toArray, List.getElem_cons_succ, List.getElem_cons_zero, Act.put, List.setIfInBounds_toArray, List.set_cons_zero, List.set_cons_succ]
          refine wpAnyH_take (i := 12) (v := ?_) rfl (by kernel_rfl) (by kernel_rfl) (by kernel_rfl) (fun _ _ _ h => h) (Or.inl ⟨by rfl, ?hy12⟩) (by assumption) ?rs12
          case hy12 => (intro w hSw; go_simp; all_goals with_reducible rfl)
          try simp only [List.getElem_toArray, List.getElem_cons_succ, List.getElem_cons_zero, Act.put, List.setIfInBounds_toArray, List.set_cons_zero, List.set_cons_succ]
          refine wpAnyH_take (i := 13) (v := ?_) rfl (by kernel_rfl) (by kernel_rfl) (by kernel_rfl) (fun _ _ _ h => h) (Or.inl ⟨by rfl, ?hy13⟩) (by assumption) ?rs13
          case hy13 => (intro w hSw; go_simp; all_goals with_reducible rfl)
          try simp only [List.getElem_toArray, List.getElem_cons_succ, List.getElem_cons_zero, Act.put, List.setIfInBounds_toArray, List.set_cons_zero, List.set_cons_succ]
          refine wpAnyH_ready (rs := [14]) (by kernel_rfl) (by simp) ?_
          refine AllReadyH.cons rfl (fun K hK => ?_) AllReadyH.nil
          go_simp
          go_at_call 24; refine (HC5.out _ ?_).mono ?_; (first | assumption | exact Kp.drew (by assumption) | exact Kp.drewN (by assumption) _); rintro e W0 ⟨rfl, rfl⟩
          go_wp2_with fail
          refine hK.out _ _ ?_ (fun hHeld => ?_)
          · first | assumption | exact Kp.drew (by assumption) | exact Kp.drewN (by assumption) _ | exact Kp.more (by assumption) (by assumption)
          clear hK K
          try simp only [List.getElem_toArray, List.getElem_cons_succ, List.getElem_cons_zero, Act.put, List.setIfInBounds_toArray, List.set_cons_zero, List.set_cons_succ]
          refine wpAnyH_take (i := 15) (v := ?_) rfl (by kernel_rfl) (by kernel_rfl) (by kernel_rfl) (fun _ _ _ h => h) (Or.inl ⟨by rfl, ?hy15⟩) (by assumption) ?rs15
          case hy15 => (intro w hSw; go_simp; all_goals with_reducible rfl)
          try simp only [List.getElem_toArray, List.getElem_cons_succ, List.getElem_cons_zero, Act.put, List.setIfInBounds_toArray, List.set_cons_zero, List.set_cons_succ]
          refine wpAnyH_take (i := 16) (v := ?_) rfl (by kernel_rfl) (by kernel_rfl) (by kernel_rfl) (fun _ _ _ h => h) (Or.inl ⟨by rfl, ?hy16⟩) (by assumption) ?rs16
          case hy16 => (intro w hSw; go_simp; all_goals with_reducible rfl)
          try simp only [List.getElem_toArray, List.getElem_cons_succ, List.getElem_cons_zero, Act.put, List.setIfInBounds_toArray, List.set_cons_zero, List.set_cons_succ]
          refine wpAnyH_take (i := 17) (v := ?_) rfl (by kernel_rfl) (by kernel_rfl) (by kernel_rfl) (fun _ _ _ h => h) (Or.inl ⟨by rfl, ?hy17⟩) (by assumption) ?rs17
          case hy17 => (intro w hSw; go_simp; all_goals with_reducible rfl)
          try simp only [List.getElem_toArray, List.getElem_cons_succ, List.getElem_cons_zero, Act.put, List.setIfInBounds_toArray, List.set_cons_zero, List.set_cons_succ]
          refine wpAnyH_take (i := 18) (v := ?_) rfl (by kernel_rfl) (by kernel_rfl) (by kernel_rfl) (fun _ _ _ h => h) (Or.inl ⟨by rfl, ?hy18⟩) (by assumption) ?rs18
          case hy18 => (intro w hSw; go_simp; all_goals with_reducible rfl)
          try simp only [List.getElem_toArray, List.getElem_cons_succ, List.getElem_cons_zero, Act.put, List.setIfInBounds_toArray, List.set_cons_zero, List.set_cons_succ]
          refine wpAnyH_ready (rs := [19]) (by kernel_rfl) (by simp) ?_
          refine AllReadyH.cons rfl (fun K hK => ?_) AllReadyH.nil
          go_simp
          go_at_call 29; refine (HSWAP.out _).mono ?_; rintro e W1 ⟨rfl, hbW1⟩
          go_wp2_with fail
          refine hK.out _ _ ?_ (fun hHeld => ?_)
          · first | assumption | exact Kp.drew (by assumption) | exact Kp.drewN (by assumption) _ | exact Kp.more (by assumption) (by assumption)
          clear hK K
          try simp only [List.getElem_toArray, List.getElem_cons_succ, List.getElem_cons_zero, Act.put, List.setIfInBounds_toArray, List.set_cons_zero, List.set_cons_succ]
          refine wpAnyH_ready (rs := [20]) (by kernel_rfl) (by simp) ?_
          refine AllReadyH.cons rfl (fun K hK => ?_) AllReadyH.nil
          go_simp
          go_at_call 17; refine (HV1.out _ ?_).mono ?_; (first | assumption | exact Kp.drew (by assumption) | exact Kp.drewN (by assumption) _); rintro e W2 ⟨rfl, hbW2⟩
          go_wp2_with fail
          refine hK.out _ _ ?_ (fun hHeld => ?_)
          · first | assumption | exact Kp.drew (by assumption) | exact Kp.drewN (by assumption) _ | exact Kp.more (by assumption) (by assumption)
          clear hK K
          try simp only [List.getElem_toArray, List.getElem_cons_succ, List.getElem_cons_zero, Act.put, List.setIfInBounds_toArray, List.set_cons_zero, List.set_cons_succ]
          refine wpAnyH_take (i := 21) (v := ?_) rfl (by kernel_rfl) (by kernel_rfl) (by kernel_rfl) (fun _ _ _ h => h) (Or.inl ⟨by rfl, ?hy21⟩) (by assumption) ?rs21
          case hy21 => (intro w hSw; go_simp; all_goals with_reducible rfl)
          try simp only [List.getElem_toArray, List.getElem_cons_succ, List.getElem_cons_zero, Act.put, List.setIfInBounds_toArray, List.set_cons_zero, List.set_cons_succ]
          refine wpAnyH_take (i := 22) (v := ?_) rfl (by kernel_rfl) (by kernel_rfl) (by kernel_rfl) (fun _ _ _ h => h) (Or.inl ⟨by rfl, ?hy22⟩) (by assumption) ?rs22
          case hy22 => (intro w hSw; go_simp; all_goals with_reducible rfl)
          try simp only [List.getElem_toArray, List.getElem_cons_succ, List.getElem_cons_zero, Act.put, List.setIfInBounds_toArray, List.set_cons_zero, List.set_cons_succ]
          refine wpAnyH_take (i := 23) (v := ?_) rfl (by kernel_rfl) (by kernel_rfl) (by kernel_rfl) (fun _ _ _ h => h) (Or.inl ⟨by rfl, ?hy23⟩) (by assumption) ?rs23
          case hy23 => (intro w hSw; go_simp; all_goals with_reducible rfl)
          try simp only [List.getElem_toArray, List.getElem_cons_succ, List.getElem_cons_zero, Act.put, List.setIfInBounds_toArray, List.set_cons_zero, List.set_cons_succ]
          refine wpAnyH_take (i := 24) (v := ?_) rfl (by kernel_rfl) (by kernel_rfl) (by kernel_rfl) (fun _ _ _ h => h) (Or.inl ⟨by rfl, ?hy24⟩) (by assumption) ?rs24
          case hy24 => (intro w hSw; go_simp; all_goals with_reducible rfl)
          try simp only [List.getElem_toArray, List.getElem_cons_succ, List.getElem_cons_zero, Act.put, List.setIfInBounds_toArray, List.set_cons_zero, List.set_cons_succ]
          refine wpAnyH_take (i := 25) (v := ?_) rfl (by kernel_rfl) (by kernel_rfl) (by kernel_rfl) (fun _ _ _ h => h) (Or.inl ⟨by rfl, ?hy25⟩) (by assumption) ?rs25
          case hy25 => (intro w hSw; go_simp; all_goals with_reducible rfl)
          try simp only [List.getElem_toArray, List.getElem_cons_succ, List.getElem_cons_zero, Act.put, List.setIfInBounds_toArray, List.set_cons_zero, List.set_cons_succ]
          refine wpAnyH_ready (rs := [26]) (by kernel_rfl) (by simp) ?_
          refine AllReadyH.cons rfl (fun K hK => ?_) AllReadyH.nil
          go_simp
          go_at_call 40; refine (HTT.out _).mono ?_; rintro e W3 ⟨rfl, mW, rfl⟩
          go_wp2_with fail
          refine hK.out _ _ ?_ (fun hHeld => ?_)
          · first | assumption | exact Kp.drew (by assumption) | exact Kp.drewN (by assumption) _ | exact Kp.more (by assumption) (by assumption)
          clear hK K
          try simp only [List.getElem_toArray, List.getElem_cons_succ, List.getElem_cons_zero, Act.put, List.setIfInBounds_toArray, List.set_cons_zero, List.set_cons_succ]
          refine wpAnyH_ready (rs := [27]) (by kernel_rfl) (by simp) ?_
          refine AllReadyH.cons rfl (fun K hK => ?_) AllReadyH.nil
          go_simp
          go_at_call 17; refine (HV2.out _ ?_).mono ?_; (first | assumption | exact Kp.drew (by assumption) | exact Kp.drewN (by assumption) _); rintro e W4 ⟨rfl, hbW4⟩
          go_wp2_with fail
          refine hK.out _ _ ?_ (fun hHeld => ?_)
          · first | assumption | exact Kp.drew (by assumption) | exact Kp.drewN (by assumption) _ | exact Kp.more (by assumption) (by assumption)
          clear hK K
          try simp only [List.getElem_toArray, List.getElem_cons_succ, List.getElem_cons_zero, Act.put, List.setIfInBounds_toArray, List.set_cons_zero, List.set_cons_succ]
          refine wpAnyH_take (i := 28) (v := ?_) rfl (by kernel_rfl) (by kernel_rfl) (by kernel_rfl) (fun _ _ _ h => h) (Or.inl ⟨by rfl, ?hy28⟩) (by assumption) ?rs28
          case hy28 => (intro w hSw; go_simp; all_goals with_reducible rfl)
          try simp only [List.getElem_toArray, List.getElem_cons_succ, List.getElem_cons_zero, Act.put, List.setIfInBounds_toArray, List.set_cons_zero, List.set_cons_succ]
          refine wpAnyH_take (i := 29) (v := ?_) rfl (by kernel_rfl) (by kernel_rfl) (by kernel_rfl) (fun _ _ _ h => h) (Or.inl ⟨by rfl, ?hy29⟩) (by assumption) ?rs29
          case hy29 => (intro w hSw; go_simp; all_goals with_reducible rfl)
          try simp only [List.getElem_toArray, List.getElem_cons_succ, List.getElem_cons_zero, Act.put, List.setIfInBounds_toArray, List.set_cons_zero, List.set_cons_succ]
          refine wpAnyH_take (i := 30) (v := ?_) rfl (by kernel_rfl) (by kernel_rfl) (by kernel_rfl) (fun _ _ _ h => h) (Or.inl ⟨by rfl, ?hy30⟩) (by assumption) ?rs30
          case hy30 => (intro w hSw; go_simp; all_goals with_reducible rfl)
          try simp only [List.getElem_toArray, List.getElem_cons_succ, List.getElem_cons_zero, Act.put, List.setIfInBounds_toArray, List.set_cons_zero, List.set_cons_succ]
          refine wpAnyH_take (i := 31) (v := ?_) rfl (by kernel_rfl) (by kernel_rfl) (by kernel_rfl) (fun _ _ _ h => h) (Or.inl ⟨by rfl, ?hy31⟩) (by assumption) ?rs31
          case hy31 => (intro w hSw; go_simp; all_goals with_reducible rfl)
          try simp only [List.getElem_toArray, List.getElem_cons_succ, List.getElem_cons_zero, Act.put, List.setIfInBounds_toArray, List.set_cons_zero, List.set_cons_succ]
          refine wpAnyH_take (i := 32) (v := ?_) rfl (by kernel_rfl) (by kernel_rfl) (by kernel_rfl) (fun _ _ _ h => h) (Or.inl ⟨by rfl, ?hy32⟩) (by assumption) ?rs32
          case hy32 => (intro w hSw; go_simp; all_goals with_reducible rfl)
          try simp only [List.getElem_toArray, List.getElem_cons_succ, List.getElem_cons_zero, Act.put, List.setIfInBounds_toArray, List.set_cons_zero, List.set_cons_succ]
          refine wpAnyH_take (i := 33) (v := ?_) rfl (by kernel_rfl) (by kernel_rfl) (by kernel_rfl) (fun _ _ _ h => h) (Or.inl ⟨by rfl, ?hy33⟩) (by assumption) ?rs33
          case hy33 => (intro w hSw; go_simp; all_goals with_reducible rfl)
          try simp only [List.getElem_toArray, List.getElem_cons_succ, List.getElem_cons_zero, Act.put, List.setIfInBounds_toArray, List.set_cons_zero, List.set_cons_succ]
          refine wpAnyH_take (i := 34) (v := ?_) rfl (by kernel_rfl) (by kernel_rfl) (by kernel_rfl) (fun _ _ _ h => h) (Or.inl ⟨by rfl, ?hy34⟩) (by assumption) ?rs34
          case hy34 => (intro w hSw; go_simp; all_goals with_reducible rfl)
          try simp only [List.getElem_toArray, List.getElem_cons_succ, List.getElem_cons_zero, Act.put, List.setIfInBounds_toArray, List.set_cons_zero, List.set_cons_succ]
          refine wpAnyH_take (i := 35) (v := ?_) rfl (by kernel_rfl) (by kernel_rfl) (by kernel_rfl) (fun _ _ _ h => h) (Or.inl ⟨by rfl, ?hy35⟩) (by assumption) ?rs35
          case hy35 => (intro w hSw; go_simp; all_goals with_reducible rfl)
          try simp only [List.getElem_toArray, List.getElem_cons_succ, List.getElem_cons_zero, Act.put, List.setIfInBounds_toArray, List.set_cons_zero, List.set_cons_succ]
          refine wpAnyH_take (i := 36) (v := ?_) rfl (by kernel_rfl) (by kernel_rfl) (by kernel_rfl) (fun _ _ _ h => h) (Or.inl ⟨by rfl, ?hy36⟩) (by assumption) ?rs36
          case hy36 => (intro w hSw; go_simp; all_goals with_reducible rfl)
          try simp only [List.getElem_toArray, List.getElem_cons_succ, List.getElem_cons_zero, Act.put, List.setIfInBounds_toArray, List.set_cons_zero, List.set_cons_succ]
          refine wpAnyH_take (i := 37) (v := ?_) rfl (by kernel_rfl) (by kernel_rfl) (by kernel_rfl) (fun _ _ _ h => h) (Or.inl ⟨by rfl, ?hy37⟩) (by assumption) ?rs37
          case hy37 => (intro w hSw; go_simp; all_goals with_reducible rfl)
          try simp only [List.getElem_toArray, List.getElem_cons_succ, List.getElem_cons_zero, Act.put, List.setIfInBounds_toArray, List.set_cons_zero, List.set_cons_succ]
          refine wpAnyH_take (i := 38) (v := ?_) rfl (by kernel_rfl) (by kernel_rfl) (by kernel_rfl) (fun _ _ _ h => h) (Or.inl ⟨by rfl, ?hy38⟩) (by assumption) ?rs38
          case hy38 => (intro w hSw; go_simp; all_goals with_reducible rfl)
          try simp only [List.getElem_toArray, List.getElem_cons_succ, List.getElem_cons_zero, Act.put, List.setIfInBounds_toArray, List.set_cons_zero, List.set_cons_succ]
          refine wpAnyH_take (i := 39) (v := ?_) rfl (by kernel_rfl) (by kernel_rfl) (by kernel_rfl) (fun _ _ _ h => h) (Or.inl ⟨by rfl, ?hy39⟩) (by assumption) ?rs39
          case hy39 => (intro w hSw; go_simp; all_goals with_reducible rfl)
          try simp only [List.getElem_toArray, List.getElem_cons_succ, List.getElem_cons_zero, Act.put, List.setIfInBounds_toArray, List.set_cons_zero, List.set_cons_succ]
          refine wpAnyH_ready (rs := [40]) (by kernel_rfl) (by simp) ?_
          refine AllReadyH.cons rfl (fun K hK => ?_) AllReadyH.nil
          go_simp
          go_at_call 17; refine (HV3.out _ ?_).mono ?_; (first | assumption | exact Kp.drew (by assumption) | exact Kp.drewN (by assumption) _); rintro e W5 ⟨rfl, hbW5⟩
          go_wp2_with fail
          refine hK.out _ _ ?_ (fun hHeld => ?_)
          · first | assumption | exact Kp.drew (by assumption) | exact Kp.drewN (by assumption) _ | exact Kp.more (by assumption) (by assumption)
          clear hK K
          try simp only [List.getElem_toArray, List.getElem_cons_succ, List.getElem_cons_zero, Act.put, List.setIfInBounds_toArray, List.set_cons_zero, List.set_cons_succ]
          refine wpAnyH_take (i := 41) (v := ?_) rfl (by kernel_rfl) (by kernel_rfl) (by kernel_rfl) (fun _ _ _ h => h) (Or.inl ⟨by rfl, ?hy41⟩) (by assumption) ?rs41
          case hy41 => (intro w hSw; go_simp; all_goals with_reducible rfl)
          try simp only [List.getElem_toArray, List.getElem_cons_succ, List.getElem_cons_zero, Act.put, List.setIfInBounds_toArray, List.set_cons_zero, List.set_cons_succ]
          refine wpAnyH_take (i := 42) (v := ?_) rfl (by kernel_rfl) (by kernel_rfl) (by kernel_rfl) (fun _ _ _ h => h) (Or.inl ⟨by rfl, ?hy42⟩) (by assumption) ?rs42
          case hy42 => (intro w hSw; go_simp; all_goals with_reducible rfl)
          try simp only [List.getElem_toArray, List.getElem_cons_succ, List.getElem_cons_zero, Act.put, List.setIfInBounds_toArray, List.set_cons_zero, List.set_cons_succ]
          refine wpAnyH_done (by kernel_rfl) ?_ _
          refine NoPanic.normal ?_
          go_wp2_with fail
          go_ret
          exact ⟨rfl, b3.trans (Below.mono (K5.trans (by assumption)) b3.size)⟩
        · clear HBB
          go_wp2_with fail
          first
            | (go_region_held3 (fun W => Kp w5 W) (first | exact Below.refl _ _ | exact (Kp.drewN (Below.refl _ _) _) | exact Kp.drew (Below.refl _ _) | assumption | exact Kp.drew ‹_› | exact Kp.more ‹_› ‹_› | exact Kp.drewN ‹_› _) (first
              | (go_simp; go_at_call 24; refine (HC5.out _ ?_).mono ?_; (first | assumption | exact Kp.drew (by assumption) | exact Kp.drewN (by assumption) _); rintro e W' ⟨rfl, rfl⟩)
              | (go_simp; go_at_call 29; refine (HSWAP.out _).mono ?_; rintro e W1 ⟨rfl, hbW1⟩)
              | (go_simp; go_at_call 40; refine (HTT.out _).mono ?_; rintro e W1 ⟨rfl, mW, rfl⟩)
              | (go_simp; go_at_call 17; (with_reducible refine (HV1.out _ ?_).mono ?_); (first | assumption | exact Kp.drew (by assumption) | exact Kp.drewN (by assumption) _); rintro e W1 ⟨rfl, hbW1⟩)
              | (go_simp; go_at_call 17; (with_reducible refine (HV2.out _ ?_).mono ?_); (first | assumption | exact Kp.drew (by assumption) | exact Kp.drewN (by assumption) _); rintro e W1 ⟨rfl, hbW1⟩)
              | (go_simp; go_at_call 17; (with_reducible refine (HV3.out _ ?_).mono ?_); (first | assumption | exact Kp.drew (by assumption) | exact Kp.drewN (by assumption) _); rintro e W1 ⟨rfl, hbW1⟩)))
            | fail
          go_wp2_with fail
          go_ret
          exact ⟨rfl, b3.trans (Below.mono (K5.trans (by assumption)) b3.size)⟩

end Go.Proofs.Ytkdakceahoihjaa
