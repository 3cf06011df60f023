/- The law that a pleat changes nothing: the walk of the law itself. No condition but sizes. -/
import Derived.Test.YtnckbiacfnokiaaDrawT
import Derived.Test.YtnckbiacfnokiaaFlatI
import Derived.Test.YtnckbiacfnokiaaPleat
import Derived.Test.YtnckbiacfnokiaaSpecC
namespace Go.Proofs.Ytnckbiacfnokiaa
open Go.RowKit

theorem pleat_text {s : ByteArray} {n k : Nat} {p q : UInt8} (hs : s.size = n) : (s.extract 0 (k + 1) ++ ⟨#[p, q]⟩ ++ s.extract (k + 1) n).data.toList = s.data.toList.take (k + 1) ++ [p, q] ++ s.data.toList.drop (k + 1) := by
  have hl : s.data.toList.length = n := by rw [size_list, hs]
  simp only [ByteArray.data_append, ByteArray.data_extract, Array.toList_append, Array.toList_extract, List.extract_eq_take_drop]
  rw [List.drop_zero, Nat.sub_zero, List.take_of_length_le (l := s.data.toList.drop (k + 1)) (by rw [List.length_drop, hl]; omega)]
set_option maxHeartbeats 8000000 in
set_option maxRecDepth 100000 in
theorem law_FnRingPleat (A A2 : Option Addr) (cap cap2 : Nat) (bs bs2 : List UInt8) (w : World) (h : Codes w w.heap.size A bs) (hcap : bs.length ≤ cap) (hcm : cap ≤ maxLen) (hcap2 : bs2.length ≤ cap2) (hcm2' : cap2 ≤ maxLen) :
    Calls Try.prog 4 #[.slice A bs.length cap, .slice A2 bs2.length cap2] w fun e w' => e = .returned (.bool true) ∧ Below w.heap.size w w' := by
  have hlm : bs.length ≤ maxLen := Nat.le_trans hcap hcm
  have hlm2 := hlm
  have hlm3 : bs2.length ≤ maxLen := Nat.le_trans hcap2 hcm2'
  unfold maxLen at hlm2 hlm3
  by_cases g1 : 1048576 < bs.length
  · have d1 : decide ((1048576 : Int) < (bs.length : Int)) = true := by simp; omega
    go_enter Try.func4, Try.ntmps4
    go_wp2_with fail
    go_ret
    exact ⟨rfl, Below.refl _ _⟩
  · have d1 : decide ((1048576 : Int) < (bs.length : Int)) = false := by simp; omega
    by_cases g2 : 1048576 < bs2.length
    · have d2 : decide ((1048576 : Int) < (bs2.length : Int)) = true := by simp; omega
      go_enter Try.func4, Try.ntmps4
      go_wp2_with fail
      go_ret
      exact ⟨rfl, Below.refl _ _⟩
    · have d2 : decide ((1048576 : Int) < (bs2.length : Int)) = false := by simp; omega
      obtain ⟨M, hM⟩ : ∃ M, M = bs2.length := ⟨_, rfl⟩
      rw [← hM] at d2 g2 hlm3 ⊢
      clear hM hcap2 hcm2'
      go_enter Try.func4, Try.ntmps4
      go_wp2_with fail
      refine (spec_DrawRingValid w A cap bs h (by omega) hcap hcm).mono ?_
      rintro e w1 ⟨B, xs, c, s, rfl, hI, hc, hcmx, hx8, hs, hb1⟩
      have HB1 := Lib.hid hb1
      have HI := Lib.hid hI
      have hc63 := hcmx
      unfold maxLen at hc63
      clear hb1 hI h
      go_wp2_with fail
      refine (impl_RingValid B c xs s w1 HI.out (by unfold maxLen; omega) (by unfold maxLen; omega)).mono ?_
      rintro e w' ⟨rfl, rfl⟩
      go_wp2_with fail
      refine (spec_RingValid B c xs s w1 HI.out (by unfold maxLen; omega) (by unfold maxLen; omega)).mono ?_
      rintro e w' ⟨rfl, rfl⟩
      cases hr : rvB xs s.data.toList with
      | false =>
        go_wp2_with fail
        go_ret
        exact ⟨rfl, HB1.out⟩
      | true =>
        have HRV := Lib.hid hr
        have hrr := hr
        unfold rvB at hrr
        simp only [Bool.and_eq_true, decide_eq_true_eq] at hrr
        obtain ⟨⟨⟨h1, h2⟩, h3⟩, _⟩ := hrr
        obtain ⟨l1, l6, _⟩ := lvB_parts h1
        have hss : s.size = xs.length := fvB_size h3
        obtain ⟨n, hn⟩ : ∃ n, n = xs.length := ⟨_, rfl⟩
        have HN := Lib.hid hn
        rw [← hn] at h2 l1 l6 hss hc ⊢
        clear hr h1 h3 hn hx8 hs
        by_cases h4 : 4 < n
        · have d3 : decide ((4 : Int) < (n : Int)) = true := by simp; omega
          have hm := impl_RingMany B c xs s w1 HI.out HRV.out
          obtain ⟨z, hz⟩ : ∃ z, z = rmany xs s := ⟨_, rfl⟩
          rw [← hz, ← HN.out] at hm
          have HM := Lib.hid hm
          clear hm hz
          go_wp2_with fail
          refine HM.out.mono ?_
          rintro e w2 ⟨rfl, hb2⟩
          have HB2 := Lib.hid (HB1.out.trans (hb2.mono HB1.out.size))
          have d4 : decide ((0 : Int) ≤ (z : Int)) = true := by simp
          clear hb2
          go_wp2_with fail
          go_ret
          exact ⟨rfl, HB2.out⟩
        · have d3 : decide ((4 : Int) < (n : Int)) = false := by simp; omega
          obtain ⟨k, hk⟩ : ∃ k, k = M % n := ⟨_, rfl⟩
          obtain ⟨Q, hQ⟩ : ∃ Q, Q = M / n := ⟨_, rfl⟩
          have hkn : k < n := by rw [hk]; exact Nat.mod_lt _ (by omega)
          have t1 : ((M : Int).tmod (n : Int)) = (k : Int) := by rw [hk]; exact (Int.ofNat_tmod _ _).symm
          have t2 : ((M : Int) % (n : Int)) = (k : Int) := by rw [hk]; simp
          have t3 : ((M : Int).tdiv (n : Int)) = (Q : Int) := by rw [Int.tdiv_eq_ediv_of_nonneg (by omega), hQ]; simp
          have t4 : ((M : Int) / (n : Int)) = (Q : Int) := by rw [hQ]; simp
          obtain ⟨m1, m2⟩ := mod2z Q
          have n0 : ((n : Int) == 0) = false := by rw [beq_eq_false_iff_ne]; omega
          have n1 : ¬ n = 0 := by omega
          have hQ9 : Q ≤ 1048576 := by rw [hQ]; exact Nat.le_trans (Nat.div_le_self _ _) (by omega)
          have q1 : IntKind.i64.wrap (Q : Int) = (Q : Int) := IntWalk.i64_in _ (by omega)
          obtain ⟨e, he⟩ : ∃ e, e = Q % 2 := ⟨_, rfl⟩
          have he2 : e = 0 ∨ e = 1 := by omega
          rw [← he] at m1 m2
          clear hk hQ he
          go_upto_region 12 with (fail)
          clear t1 t2
          rcases he2 with rfl | rfl
          · go_upto_region 13 with (fail)
            obtain ⟨w2, hw2⟩ : ∃ w2, w2 = w1.alloc (.cells #[.string ⟨#[77, 86]⟩, .string ⟨#[86, 77]⟩] 9) := ⟨_, rfl⟩
            have hb2 : Below w1.heap.size w1 w2 := by rw [hw2]; exact (Below.refl _ _).alloc (Nat.le_refl _) _
            rw [← hw2]
            have HB2 := Lib.hid hb2
            have HP := Lib.hid (pleat_rfB (s' := s.extract 0 (k + 1) ++ ⟨#[77, 86]⟩ ++ s.extract (k + 1) n) (p := 77) (q := 86) HRV.out (show k < xs.length by rw [← HN.out]; exact hkn) (by rw [← HN.out]; omega) (by decide) (by decide) (by decide) (pleat_text hss))
            clear hw2 hb2
            obtain ⟨b, off, rfl, hbb, hcl⟩ := HI.out (by intro e; rw [e] at HN; have := HN.out; simp at this; omega)
            have hI1 : Ints w1 (some ⟨b, off, none⟩) (xs.take (k + 1)) := by
              have := HI.out.cut 0 (k + 1)
              simpa using this
            have hI2 : Ints w1 (some ⟨b, off + (k + 1), none⟩) (xs.drop (k + 1)) := by
              have := HI.out.cut (k + 1) (n - (k + 1))
              rwa [List.take_of_length_le (by rw [List.length_drop, ← HN.out]; omega)] at this
            have hl1 : (xs.take (k + 1)).length = k + 1 := by rw [List.length_take, ← HN.out]; omega
            have hl2 : (xs.drop (k + 1)).length = n - (k + 1) := by rw [List.length_drop, ← HN.out]
            have HI1 := Lib.hid (hI1.below HB2.out)
            have HI2 := Lib.hid (hI2.below HB2.out)
            have HL1 := Lib.hid hl1
            have HL2 := Lib.hid hl2
            have k1 : IntKind.i64.wrap ((k : Int) + 1) = (k : Int) + 1 := IntWalk.i64_in _ (by omega)
            have k2 : ((k : Int) + 1).toNat = k + 1 := by omega
            have k3 : (k : Int) + 1 ≤ (c : Int) := by omega
            have k4 : (k : Int) + 1 ≤ (n : Int) := by omega
            have k5 : (n : Int) ≤ (c : Int) := by omega
            have k6 : k + 1 ≤ n := by omega
            have HBX := Lib.hid hbb
            clear hI1 hI2 hl1 hl2 hcl t3 t4 m1 m2 q1 n0 hbb
            go_wp2_with (at_builtin; go_loud (refine wpList_app (W := w2.alloc (.cells #[] 3)) (by rfl) _ _ (by rfl) w2.heap.size _ [] (xs.take (k + 1)) _ _ (by rfl) (k + 1) HL1.out (by rfl) (World.ownsRow_lit w2 #[] 0 (Nat.le_refl _) (by unfold maxLen; omega) rfl) (HI1.out.alloc _) (by simp) (by rw [HL1.out]; simp; omega) ?_))
            intro v3 w3 hown3 hg3 hb3
            have HB3 := Lib.hid (((Below.refl w2.heap.size w2).alloc (Nat.le_refl _) (.cells #[] 3)).trans hb3)
            have HO3 := Lib.hid hown3
            have hz3 := HB3.out.size
            clear hg3 hb3 hown3
            go_wp2_with (at_builtin; go_loud (refine wpList_app (W := w3.alloc (.cells #[.int .i64 1, .int .i64 1] 3)) (by rfl) _ _ (by rfl) w2.heap.size _ (xs.take (k + 1)) [1, 1] _ _ (by rfl) 2 rfl (by rfl) (own_below2' HO3.out ((Below.refl _ _).alloc (Nat.le_refl _) _)) (Ints.of_own (World.ownsRow_lit (base := 0) w3 #[.int .i64 1, .int .i64 1] 2 (Nat.zero_le _) (by unfold maxLen; omega) rfl)) (Nat.le_trans hz3 (by simp)) (by rw [HL1.out]; simp; omega) ?_))
            intro v4 w4 hown4 hg4 hb4
            have HB4 := Lib.hid ((HB3.out.alloc hz3 (.cells #[.int .i64 1, .int .i64 1] 3)).trans hb4)
            have HO4 := Lib.hid hown4
            have hz4 := HB4.out.size
            clear hg4 hb4 hown4 HB3 HO3 hz3
            by_cases hcf : ¬ c = k + 1
            · go_wp2_with (at_builtin; go_loud (refine wpList_app (W := w4) (by rfl) _ _ (by rfl) w2.heap.size _ (xs.take (k + 1) ++ [1, 1]) (xs.drop (k + 1)) _ _ (by rfl) (n - (k + 1)) HL2.out (by rfl) HO4.out (HI2.out.below HB4.out) hz4 (by rw [List.length_append, HL1.out, HL2.out]; simp; omega) ?_))
              intro v5 w5 hown5 hg5 hb5
              have HB5 := Lib.hid (HB2.out.trans ((HB4.out.trans hb5).mono HB2.out.size))
              obtain ⟨X, hX⟩ : ∃ X, X = xs.take (k + 1) ++ [1, 1] ++ xs.drop (k + 1) := ⟨_, rfl⟩
              have hown6 : Own w5 w2.heap.size v5 X := by first | (rw [hX, List.append_assoc]; exact hown5) | (rw [hX, hdr, List.append_nil]; exact hown5) | (rw [hX]; simpa using hown5)
              rw [← hX] at HP
              have hXl : X.length = n + 2 := by rw [hX, List.length_append, List.length_append, HL1.out, HL2.out]; simp; omega
              obtain ⟨A5, c5, rfl, hI5, _, _⟩ := Own.form hown6
              obtain ⟨T, hT⟩ : ∃ T, T = s.extract 0 (k + 1) ++ ⟨#[77, 86]⟩ ++ s.extract (k + 1) n := ⟨_, rfl⟩
              rw [← hT] at HP
              have hTs : T.size ≤ 20 := by
                rw [hT, ByteArray.size_append, ByteArray.size_append, ByteArray.size_extract, ByteArray.size_extract]
                show _ + 2 + _ ≤ 20
                omega
              obtain ⟨z, hz⟩ : ∃ z, z = rfB xs s := ⟨_, rfl⟩
              rw [← hz] at HP
              have HC5 : Hid (∀ W, Below w5.heap.size w5 W → Calls Try.prog 16 #[.slice A5 X.length c5, .string T] W fun e W' => e = .returned (.bool z) ∧ Below W.heap.size W W') := fun W hW => by
                have := impl_RingFolds A5 c5 X T W (hI5.below hW) (by rw [hXl]; unfold maxLen; omega) (by unfold maxLen; omega)
                rw [HP.out] at this
                exact this
              have HC6 : Hid (∀ W, Below w5.heap.size w5 W → Calls Try.prog 16 #[.slice (some ⟨b, off, none⟩) n c, .string s] W fun e W' => e = .returned (.bool z) ∧ Below W.heap.size W W') := fun W hW => by
                have := impl_RingFolds (some ⟨b, off, none⟩) c xs s W ((HI.out.below HB5.out).below hW) (by rw [← HN.out]; unfold maxLen; omega) (by unfold maxLen; omega)
                rw [← HN.out, ← hz] at this
                exact this
              rw [hT] at HC5
              rw [hXl] at HC5 ⊢
              have b12 : ∀ W, (Op.stringOp .add (s.extract 0 (k + 1)) ⟨#[77, 86]⟩).run Try.prog W = .ok (.string (s.extract 0 (k + 1) ++ ⟨#[77, 86]⟩)) W := fun W =>
                run_string_add_sum W _ _ (by rw [ByteArray.size_extract]; show _ + 2 ≤ _; omega)
              have b13 : ∀ W, (Op.stringOp .add (s.extract 0 (k + 1) ++ ⟨#[77, 86]⟩) (s.extract (k + 1) n)).run Try.prog W = .ok (.string (s.extract 0 (k + 1) ++ ⟨#[77, 86]⟩ ++ s.extract (k + 1) n)) W := fun W =>
                run_string_add_sum W _ _ (by rw [ByteArray.size_append, ByteArray.size_extract, ByteArray.size_extract]; show _ + 2 + _ ≤ _; omega)
              have HBF := Lib.hid (HB1.out.trans (HB5.out.mono HB1.out.size))
              have k7 : (0 : Int) ≤ (k : Int) := by omega
              have k8 : (0 : Int) ≤ (k : Int) + 1 := by omega
              have k9 : (k : Int) + 1 ≤ (s.size : Int) := by omega
              clear hown5 hown6 hg5 hb5 hX hXl hI5 hT hTs hz
              go_wp2_with fail
              go_region_held3 (fun W => True) (trivial) (first
                | (have _hz := hbx.size; go_simp; go_at_call 16; refine (HC6.out _ ((below_drewN (Below.refl _ _) 1).trans (hbx.mono (Nat.le_refl _)))).mono ?_; rintro e w7 ⟨rfl, hby⟩)
                | (go_simp; go_at_call 16; refine (HC5.out _ (below_drewN (Below.refl _ _) _)).mono ?_; rintro e w6 ⟨rfl, hbx⟩))
              all_goals
                have HBE := Lib.hid (HBF.out.trans (((below_drewN (Below.refl w5.heap.size w5) 1).trans ((show Below w5.heap.size (w5.drewN 1) w6 from hbx.mono (Nat.le_refl _)).trans (hby.mono hbx.size))).mono HBF.out.size))
                go_wp2_with fail
                go_ret
                exact ⟨rfl, HBE.out⟩
            · obtain rfl : c = k + 1 := by omega
              have hdr : xs.drop (k + 1) = [] := List.drop_of_length_le (by rw [← HN.out]; omega)
              go_wp2_with (at_builtin; go_loud (refine wpList_app (W := w4) (by rfl) _ _ (by rfl) w2.heap.size _ (xs.take (k + 1) ++ [1, 1]) (xs.drop (k + 1)) _ _ (by rfl) 0 (by rw [hdr]; rfl) (by rfl) HO4.out (by rw [hdr]; exact Ints.nil _ _) hz4 (by rw [List.length_append, HL1.out, HL2.out]; simp; omega) ?_))
              intro v5 w5 hown5 hg5 hb5
              have HB5 := Lib.hid (HB2.out.trans ((HB4.out.trans hb5).mono HB2.out.size))
              obtain ⟨X, hX⟩ : ∃ X, X = xs.take (k + 1) ++ [1, 1] ++ xs.drop (k + 1) := ⟨_, rfl⟩
              have hown6 : Own w5 w2.heap.size v5 X := by first | (rw [hX, List.append_assoc]; exact hown5) | (rw [hX, hdr, List.append_nil]; exact hown5) | (rw [hX]; simpa using hown5)
              rw [← hX] at HP
              have hXl : X.length = n + 2 := by rw [hX, List.length_append, List.length_append, HL1.out, hdr]; simp; omega
              obtain ⟨A5, c5, rfl, hI5, _, _⟩ := Own.form hown6
              obtain ⟨T, hT⟩ : ∃ T, T = s.extract 0 (k + 1) ++ ⟨#[77, 86]⟩ ++ s.extract (k + 1) n := ⟨_, rfl⟩
              rw [← hT] at HP
              have hTs : T.size ≤ 20 := by
                rw [hT, ByteArray.size_append, ByteArray.size_append, ByteArray.size_extract, ByteArray.size_extract]
                show _ + 2 + _ ≤ 20
                omega
              obtain ⟨z, hz⟩ : ∃ z, z = rfB xs s := ⟨_, rfl⟩
              rw [← hz] at HP
              have HC5 : Hid (∀ W, Below w5.heap.size w5 W → Calls Try.prog 16 #[.slice A5 X.length c5, .string T] W fun e W' => e = .returned (.bool z) ∧ Below W.heap.size W W') := fun W hW => by
                have := impl_RingFolds A5 c5 X T W (hI5.below hW) (by rw [hXl]; unfold maxLen; omega) (by unfold maxLen; omega)
                rw [HP.out] at this
                exact this
              have HC6 : Hid (∀ W, Below w5.heap.size w5 W → Calls Try.prog 16 #[.slice (some ⟨b, off, none⟩) n (k + 1), .string s] W fun e W' => e = .returned (.bool z) ∧ Below W.heap.size W W') := fun W hW => by
                have := impl_RingFolds (some ⟨b, off, none⟩) (k + 1) xs s W ((HI.out.below HB5.out).below hW) (by rw [← HN.out]; unfold maxLen; omega) (by unfold maxLen; omega)
                rw [← HN.out, ← hz] at this
                exact this
              rw [hT] at HC5
              rw [hXl] at HC5 ⊢
              have b12 : ∀ W, (Op.stringOp .add (s.extract 0 (k + 1)) ⟨#[77, 86]⟩).run Try.prog W = .ok (.string (s.extract 0 (k + 1) ++ ⟨#[77, 86]⟩)) W := fun W =>
                run_string_add_sum W _ _ (by rw [ByteArray.size_extract]; show _ + 2 ≤ _; omega)
              have b13 : ∀ W, (Op.stringOp .add (s.extract 0 (k + 1) ++ ⟨#[77, 86]⟩) (s.extract (k + 1) n)).run Try.prog W = .ok (.string (s.extract 0 (k + 1) ++ ⟨#[77, 86]⟩ ++ s.extract (k + 1) n)) W := fun W =>
                run_string_add_sum W _ _ (by rw [ByteArray.size_append, ByteArray.size_extract, ByteArray.size_extract]; show _ + 2 + _ ≤ _; omega)
              have HBF := Lib.hid (HB1.out.trans (HB5.out.mono HB1.out.size))
              have k7 : (0 : Int) ≤ (k : Int) := by omega
              have k8 : (0 : Int) ≤ (k : Int) + 1 := by omega
              have k9 : (k : Int) + 1 ≤ (s.size : Int) := by omega
              clear hdr
              clear hown5 hown6 hg5 hb5 hX hXl hI5 hT hTs hz
              go_wp2_with fail
              go_region_held3 (fun W => True) (trivial) (first
                | (have _hz := hbx.size; go_simp; go_at_call 16; refine (HC6.out _ ((below_drewN (Below.refl _ _) 1).trans (hbx.mono (Nat.le_refl _)))).mono ?_; rintro e w7 ⟨rfl, hby⟩)
                | (go_simp; go_at_call 16; refine (HC5.out _ (below_drewN (Below.refl _ _) _)).mono ?_; rintro e w6 ⟨rfl, hbx⟩))
              all_goals
                have HBE := Lib.hid (HBF.out.trans (((below_drewN (Below.refl w5.heap.size w5) 1).trans ((show Below w5.heap.size (w5.drewN 1) w6 from hbx.mono (Nat.le_refl _)).trans (hby.mono hbx.size))).mono HBF.out.size))
                go_wp2_with fail
                go_ret
                exact ⟨rfl, HBE.out⟩
          · go_upto_region 13 with (fail)
            obtain ⟨w2, hw2⟩ : ∃ w2, w2 = w1.alloc (.cells #[.string ⟨#[77, 86]⟩, .string ⟨#[86, 77]⟩] 9) := ⟨_, rfl⟩
            have hb2 : Below w1.heap.size w1 w2 := by rw [hw2]; exact (Below.refl _ _).alloc (Nat.le_refl _) _
            rw [← hw2]
            have HB2 := Lib.hid hb2
            have HP := Lib.hid (pleat_rfB (s' := s.extract 0 (k + 1) ++ ⟨#[86, 77]⟩ ++ s.extract (k + 1) n) (p := 86) (q := 77) HRV.out (show k < xs.length by rw [← HN.out]; exact hkn) (by rw [← HN.out]; omega) (by decide) (by decide) (by decide) (pleat_text hss))
            clear hw2 hb2
            obtain ⟨b, off, rfl, hbb, hcl⟩ := HI.out (by intro e; rw [e] at HN; have := HN.out; simp at this; omega)
            have hI1 : Ints w1 (some ⟨b, off, none⟩) (xs.take (k + 1)) := by
              have := HI.out.cut 0 (k + 1)
              simpa using this
            have hI2 : Ints w1 (some ⟨b, off + (k + 1), none⟩) (xs.drop (k + 1)) := by
              have := HI.out.cut (k + 1) (n - (k + 1))
              rwa [List.take_of_length_le (by rw [List.length_drop, ← HN.out]; omega)] at this
            have hl1 : (xs.take (k + 1)).length = k + 1 := by rw [List.length_take, ← HN.out]; omega
            have hl2 : (xs.drop (k + 1)).length = n - (k + 1) := by rw [List.length_drop, ← HN.out]
            have HI1 := Lib.hid (hI1.below HB2.out)
            have HI2 := Lib.hid (hI2.below HB2.out)
            have HL1 := Lib.hid hl1
            have HL2 := Lib.hid hl2
            have k1 : IntKind.i64.wrap ((k : Int) + 1) = (k : Int) + 1 := IntWalk.i64_in _ (by omega)
            have k2 : ((k : Int) + 1).toNat = k + 1 := by omega
            have k3 : (k : Int) + 1 ≤ (c : Int) := by omega
            have k4 : (k : Int) + 1 ≤ (n : Int) := by omega
            have k5 : (n : Int) ≤ (c : Int) := by omega
            have k6 : k + 1 ≤ n := by omega
            have HBX := Lib.hid hbb
            clear hI1 hI2 hl1 hl2 hcl t3 t4 m1 m2 q1 n0 hbb
            go_wp2_with (at_builtin; go_loud (refine wpList_app (W := w2.alloc (.cells #[] 3)) (by rfl) _ _ (by rfl) w2.heap.size _ [] (xs.take (k + 1)) _ _ (by rfl) (k + 1) HL1.out (by rfl) (World.ownsRow_lit w2 #[] 0 (Nat.le_refl _) (by unfold maxLen; omega) rfl) (HI1.out.alloc _) (by simp) (by rw [HL1.out]; simp; omega) ?_))
            intro v3 w3 hown3 hg3 hb3
            have HB3 := Lib.hid (((Below.refl w2.heap.size w2).alloc (Nat.le_refl _) (.cells #[] 3)).trans hb3)
            have HO3 := Lib.hid hown3
            have hz3 := HB3.out.size
            clear hg3 hb3 hown3
            go_wp2_with (at_builtin; go_loud (refine wpList_app (W := w3.alloc (.cells #[.int .i64 1, .int .i64 1] 3)) (by rfl) _ _ (by rfl) w2.heap.size _ (xs.take (k + 1)) [1, 1] _ _ (by rfl) 2 rfl (by rfl) (own_below2' HO3.out ((Below.refl _ _).alloc (Nat.le_refl _) _)) (Ints.of_own (World.ownsRow_lit (base := 0) w3 #[.int .i64 1, .int .i64 1] 2 (Nat.zero_le _) (by unfold maxLen; omega) rfl)) (Nat.le_trans hz3 (by simp)) (by rw [HL1.out]; simp; omega) ?_))
            intro v4 w4 hown4 hg4 hb4
            have HB4 := Lib.hid ((HB3.out.alloc hz3 (.cells #[.int .i64 1, .int .i64 1] 3)).trans hb4)
            have HO4 := Lib.hid hown4
            have hz4 := HB4.out.size
            clear hg4 hb4 hown4 HB3 HO3 hz3
            by_cases hcf : ¬ c = k + 1
            · go_wp2_with (at_builtin; go_loud (refine wpList_app (W := w4) (by rfl) _ _ (by rfl) w2.heap.size _ (xs.take (k + 1) ++ [1, 1]) (xs.drop (k + 1)) _ _ (by rfl) (n - (k + 1)) HL2.out (by rfl) HO4.out (HI2.out.below HB4.out) hz4 (by rw [List.length_append, HL1.out, HL2.out]; simp; omega) ?_))
              intro v5 w5 hown5 hg5 hb5
              have HB5 := Lib.hid (HB2.out.trans ((HB4.out.trans hb5).mono HB2.out.size))
              obtain ⟨X, hX⟩ : ∃ X, X = xs.take (k + 1) ++ [1, 1] ++ xs.drop (k + 1) := ⟨_, rfl⟩
              have hown6 : Own w5 w2.heap.size v5 X := by first | (rw [hX, List.append_assoc]; exact hown5) | (rw [hX, hdr, List.append_nil]; exact hown5) | (rw [hX]; simpa using hown5)
              rw [← hX] at HP
              have hXl : X.length = n + 2 := by rw [hX, List.length_append, List.length_append, HL1.out, HL2.out]; simp; omega
              obtain ⟨A5, c5, rfl, hI5, _, _⟩ := Own.form hown6
              obtain ⟨T, hT⟩ : ∃ T, T = s.extract 0 (k + 1) ++ ⟨#[86, 77]⟩ ++ s.extract (k + 1) n := ⟨_, rfl⟩
              rw [← hT] at HP
              have hTs : T.size ≤ 20 := by
                rw [hT, ByteArray.size_append, ByteArray.size_append, ByteArray.size_extract, ByteArray.size_extract]
                show _ + 2 + _ ≤ 20
                omega
              obtain ⟨z, hz⟩ : ∃ z, z = rfB xs s := ⟨_, rfl⟩
              rw [← hz] at HP
              have HC5 : Hid (∀ W, Below w5.heap.size w5 W → Calls Try.prog 16 #[.slice A5 X.length c5, .string T] W fun e W' => e = .returned (.bool z) ∧ Below W.heap.size W W') := fun W hW => by
                have := impl_RingFolds A5 c5 X T W (hI5.below hW) (by rw [hXl]; unfold maxLen; omega) (by unfold maxLen; omega)
                rw [HP.out] at this
                exact this
              have HC6 : Hid (∀ W, Below w5.heap.size w5 W → Calls Try.prog 16 #[.slice (some ⟨b, off, none⟩) n c, .string s] W fun e W' => e = .returned (.bool z) ∧ Below W.heap.size W W') := fun W hW => by
                have := impl_RingFolds (some ⟨b, off, none⟩) c xs s W ((HI.out.below HB5.out).below hW) (by rw [← HN.out]; unfold maxLen; omega) (by unfold maxLen; omega)
                rw [← HN.out, ← hz] at this
                exact this
              rw [hT] at HC5
              rw [hXl] at HC5 ⊢
              have b12 : ∀ W, (Op.stringOp .add (s.extract 0 (k + 1)) ⟨#[86, 77]⟩).run Try.prog W = .ok (.string (s.extract 0 (k + 1) ++ ⟨#[86, 77]⟩)) W := fun W =>
                run_string_add_sum W _ _ (by rw [ByteArray.size_extract]; show _ + 2 ≤ _; omega)
              have b13 : ∀ W, (Op.stringOp .add (s.extract 0 (k + 1) ++ ⟨#[86, 77]⟩) (s.extract (k + 1) n)).run Try.prog W = .ok (.string (s.extract 0 (k + 1) ++ ⟨#[86, 77]⟩ ++ s.extract (k + 1) n)) W := fun W =>
                run_string_add_sum W _ _ (by rw [ByteArray.size_append, ByteArray.size_extract, ByteArray.size_extract]; show _ + 2 + _ ≤ _; omega)
              have HBF := Lib.hid (HB1.out.trans (HB5.out.mono HB1.out.size))
              have k7 : (0 : Int) ≤ (k : Int) := by omega
              have k8 : (0 : Int) ≤ (k : Int) + 1 := by omega
              have k9 : (k : Int) + 1 ≤ (s.size : Int) := by omega
              clear hown5 hown6 hg5 hb5 hX hXl hI5 hT hTs hz
              go_wp2_with fail
              go_region_held3 (fun W => True) (trivial) (first
                | (have _hz := hbx.size; go_simp; go_at_call 16; refine (HC6.out _ ((below_drewN (Below.refl _ _) 1).trans (hbx.mono (Nat.le_refl _)))).mono ?_; rintro e w7 ⟨rfl, hby⟩)
                | (go_simp; go_at_call 16; refine (HC5.out _ (below_drewN (Below.refl _ _) _)).mono ?_; rintro e w6 ⟨rfl, hbx⟩))
              all_goals
                have HBE := Lib.hid (HBF.out.trans (((below_drewN (Below.refl w5.heap.size w5) 1).trans ((show Below w5.heap.size (w5.drewN 1) w6 from hbx.mono (Nat.le_refl _)).trans (hby.mono hbx.size))).mono HBF.out.size))
                go_wp2_with fail
                go_ret
                exact ⟨rfl, HBE.out⟩
            · obtain rfl : c = k + 1 := by omega
              have hdr : xs.drop (k + 1) = [] := List.drop_of_length_le (by rw [← HN.out]; omega)
              go_wp2_with (at_builtin; go_loud (refine wpList_app (W := w4) (by rfl) _ _ (by rfl) w2.heap.size _ (xs.take (k + 1) ++ [1, 1]) (xs.drop (k + 1)) _ _ (by rfl) 0 (by rw [hdr]; rfl) (by rfl) HO4.out (by rw [hdr]; exact Ints.nil _ _) hz4 (by rw [List.length_append, HL1.out, HL2.out]; simp; omega) ?_))
              intro v5 w5 hown5 hg5 hb5
              have HB5 := Lib.hid (HB2.out.trans ((HB4.out.trans hb5).mono HB2.out.size))
              obtain ⟨X, hX⟩ : ∃ X, X = xs.take (k + 1) ++ [1, 1] ++ xs.drop (k + 1) := ⟨_, rfl⟩
              have hown6 : Own w5 w2.heap.size v5 X := by first | (rw [hX, List.append_assoc]; exact hown5) | (rw [hX, hdr, List.append_nil]; exact hown5) | (rw [hX]; simpa using hown5)
              rw [← hX] at HP
              have hXl : X.length = n + 2 := by rw [hX, List.length_append, List.length_append, HL1.out, hdr]; simp; omega
              obtain ⟨A5, c5, rfl, hI5, _, _⟩ := Own.form hown6
              obtain ⟨T, hT⟩ : ∃ T, T = s.extract 0 (k + 1) ++ ⟨#[86, 77]⟩ ++ s.extract (k + 1) n := ⟨_, rfl⟩
              rw [← hT] at HP
              have hTs : T.size ≤ 20 := by
                rw [hT, ByteArray.size_append, ByteArray.size_append, ByteArray.size_extract, ByteArray.size_extract]
                show _ + 2 + _ ≤ 20
                omega
              obtain ⟨z, hz⟩ : ∃ z, z = rfB xs s := ⟨_, rfl⟩
              rw [← hz] at HP
              have HC5 : Hid (∀ W, Below w5.heap.size w5 W → Calls Try.prog 16 #[.slice A5 X.length c5, .string T] W fun e W' => e = .returned (.bool z) ∧ Below W.heap.size W W') := fun W hW => by
                have := impl_RingFolds A5 c5 X T W (hI5.below hW) (by rw [hXl]; unfold maxLen; omega) (by unfold maxLen; omega)
                rw [HP.out] at this
                exact this
              have HC6 : Hid (∀ W, Below w5.heap.size w5 W → Calls Try.prog 16 #[.slice (some ⟨b, off, none⟩) n (k + 1), .string s] W fun e W' => e = .returned (.bool z) ∧ Below W.heap.size W W') := fun W hW => by
                have := impl_RingFolds (some ⟨b, off, none⟩) (k + 1) xs s W ((HI.out.below HB5.out).below hW) (by rw [← HN.out]; unfold maxLen; omega) (by unfold maxLen; omega)
                rw [← HN.out, ← hz] at this
                exact this
              rw [hT] at HC5
              rw [hXl] at HC5 ⊢
              have b12 : ∀ W, (Op.stringOp .add (s.extract 0 (k + 1)) ⟨#[86, 77]⟩).run Try.prog W = .ok (.string (s.extract 0 (k + 1) ++ ⟨#[86, 77]⟩)) W := fun W =>
                run_string_add_sum W _ _ (by rw [ByteArray.size_extract]; show _ + 2 ≤ _; omega)
              have b13 : ∀ W, (Op.stringOp .add (s.extract 0 (k + 1) ++ ⟨#[86, 77]⟩) (s.extract (k + 1) n)).run Try.prog W = .ok (.string (s.extract 0 (k + 1) ++ ⟨#[86, 77]⟩ ++ s.extract (k + 1) n)) W := fun W =>
                run_string_add_sum W _ _ (by rw [ByteArray.size_append, ByteArray.size_extract, ByteArray.size_extract]; show _ + 2 + _ ≤ _; omega)
              have HBF := Lib.hid (HB1.out.trans (HB5.out.mono HB1.out.size))
              have k7 : (0 : Int) ≤ (k : Int) := by omega
              have k8 : (0 : Int) ≤ (k : Int) + 1 := by omega
              have k9 : (k : Int) + 1 ≤ (s.size : Int) := by omega
              clear hdr
              clear hown5 hown6 hg5 hb5 hX hXl hI5 hT hTs hz
              go_wp2_with fail
              go_region_held3 (fun W => True) (trivial) (first
                | (have _hz := hbx.size; go_simp; go_at_call 16; refine (HC6.out _ ((below_drewN (Below.refl _ _) 1).trans (hbx.mono (Nat.le_refl _)))).mono ?_; rintro e w7 ⟨rfl, hby⟩)
                | (go_simp; go_at_call 16; refine (HC5.out _ (below_drewN (Below.refl _ _) _)).mono ?_; rintro e w6 ⟨rfl, hbx⟩))
              all_goals
                have HBE := Lib.hid (HBF.out.trans (((below_drewN (Below.refl w5.heap.size w5) 1).trans ((show Below w5.heap.size (w5.drewN 1) w6 from hbx.mono (Nat.le_refl _)).trans (hby.mono hbx.size))).mono HBF.out.size))
                go_wp2_with fail
                go_ret
                exact ⟨rfl, HBE.out⟩
end Go.Proofs.Ytnckbiacfnokiaa
