/- The law that equal angles fold as their balance tells: the walk of the law itself. No condition but sizes. -/
import Derived.Test.YtkdakceahoihjaaDrawD
import Derived.Test.YtkdakceahoihjaaTurnJ
import Derived.Test.YtkdakceahoihjaaHelpA
import Derived.Test.YtkdakceahoihjaaEqPlain
namespace Go.Proofs.Ytkdakceahoihjaa
open Go.RowKit

theorem toList_ne {a b : ByteArray} (h : a ≠ b) : (a.toList == b.toList) = false := by
  rw [beq_eq_false_iff_ne]
  intro e
  rw [ByteArray.toList_eq, ByteArray.toList_eq] at e
  exact h (ByteArray.ext (Array.ext' e))

set_option maxHeartbeats 4000000 in
set_option maxRecDepth 100000 in
theorem law_FnVertexEqual (A A2 : Option Addr) (cap cap2 : Nat) (bs bs2 : List UInt8) (w : World) (h : Codes w w.heap.size A bs) (hcap : bs.length ≤ cap) (hcm : cap ≤ maxLen) (hcap2 : bs2.length ≤ cap2) (hcm2 : cap2 ≤ maxLen) :
    Calls Try.prog 7 #[.slice A bs.length cap, .slice A2 bs2.length cap2] w fun e w' => e = .returned (.bool true) ∧ Below w.heap.size w w' := by
  have hlm : bs.length ≤ maxLen := Nat.le_trans hcap hcm
  have hlm2 := hlm
  have hlm3 : bs2.length ≤ maxLen := Nat.le_trans hcap2 hcm2
  unfold maxLen at hlm2 hlm3
  by_cases g1 : 1048576 < bs.length
  · have d1 : decide ((1048576 : Int) < (bs.length : Int)) = true := by simp; omega
    go_enter Try.func7, Try.ntmps7
    go_wp2_with fail
    go_ret
    exact ⟨rfl, Below.refl _ _⟩
  · have d1 : decide ((1048576 : Int) < (bs.length : Int)) = false := by simp; omega
    by_cases g2 : 1048576 < bs2.length
    · have d2 : decide ((1048576 : Int) < (bs2.length : Int)) = true := by simp; omega
      go_enter Try.func7, Try.ntmps7
      go_wp2_with fail
      go_ret
      exact ⟨rfl, Below.refl _ _⟩
    · have d2 : decide ((1048576 : Int) < (bs2.length : Int)) = false := by simp; omega
      go_enter Try.func7, Try.ntmps7
      go_wp2_with fail
      refine (spec_DrawVertexFirst w A cap bs h (by omega) hcap hcm).mono ?_
      rintro e w1 ⟨B, xs, c, rfl, hI, hc, hcmx, hx8, hSm, hb1⟩
      clear hSm
      obtain ⟨T, hT⟩ : ∃ T, T = vfoT xs := ⟨_, rfl⟩
      obtain ⟨K, hK⟩ : ∃ K, K = (vfo xs).isSome := ⟨_, rfl⟩
      have HT := Lib.hid hT
      have HK := Lib.hid hK
      clear hT hK
      go_wp2_with fail
      refine (impl_VertexFirst B c xs w1 hI (by unfold maxLen; omega)).mono ?_
      rintro e w2 ⟨rfl, hb2⟩
      rw [← HT.out, ← HK.out]
      have b2 := below_from hb1 hb2 hb1.size
      have hI2 := hI.below hb2
      clear hb1 hb2 hI
      go_wp2_with fail
      refine (spec_VertexFirst B c xs w2 hI2 (by unfold maxLen; omega) hc hcmx).mono ?_
      rintro e w3 ⟨rfl, hb3⟩
      rw [← HT.out, ← HK.out]
      have b3 := below_from b2 hb3 b2.size
      have hI3 := hI2.below hb3
      clear b2 hb3 hI2
      have q1 : (T.toList == T.toList) = true := by simp
      cases K with
      | false =>
        go_wp2_with fail
        go_ret
        exact ⟨rfl, b3⟩
      | true =>
        obtain ⟨r, hr⟩ : ∃ r, vfo xs = some r := by
          have := HK.out
          cases hv : vfo xs with
          | none => rw [hv] at this; cases this
          | some r => exact ⟨r, rfl⟩
        have hTr : T = txt xs.length r := by rw [HT.out]; unfold vfoT; rw [hr]
        obtain ⟨hav, hrP, hvr, hno⟩ := vfo_some hr
        have hM := vfo_M hr
        have hac : acB xs = true := (vfB_down.1 hvr).1
        obtain ⟨hev, h2l, _, _, _⟩ := avB_parts hav
        obtain ⟨n, hn⟩ : ∃ n, n = xs.length := ⟨_, rfl⟩
        obtain ⟨P, hP⟩ : ∃ P, P = 2 ^ n := ⟨_, rfl⟩
        rw [← hn] at hTr hrP hno hM hvr hev h2l hx8 hc
        have hn4 : n = 2 ∨ n = 4 ∨ n = 6 ∨ n = 8 := by omega
        rw [← hP] at hrP
        have hP256 : P ≤ 256 := by rw [hP]; exact Nat.pow_le_pow_right (n := 2) (by decide) hx8
        have hP1 : 1 ≤ P := by omega
        rw [← hTr] at hvr hM
        have hTs : T.size = n := by rw [hTr]; exact txt_size n r
        have hTs1 : 0 < T.size := by omega
        have hT0 : T[0]'hTs1 = 77 := by
          rw [byteAt_eq T 0 (by omega)] at hM
          exact UInt8.toNat_inj.1 (by rw [hM]; rfl)
        -- ranks ahead of the first have other texts
        have hother : ∀ k, k < r → txt n k ≠ T := by
          intro k hk e
          have := hno k hk
          rw [e, hvr] at this
          cases this
        obtain ⟨z, hz⟩ : ∃ z : Nat, (z : Int) = 360 / (n : Int) ∧ z ≤ 180 ∧ ((360 : Int).tmod (n : Int)) = 0 ∧ ((360 : Int) % (n : Int)) = 0 ∧ ((360 : Int).tdiv (n : Int)) = (z : Int) := by
          rcases hn4 with rfl | rfl | rfl | rfl
          · exact ⟨180, by decide, by decide, by decide, by decide, by decide⟩
          · exact ⟨90, by decide, by decide, by decide, by decide, by decide⟩
          · exact ⟨60, by decide, by decide, by decide, by decide, by decide⟩
          · exact ⟨45, by decide, by decide, by decide, by decide, by decide⟩
        obtain ⟨hz1, hz2, hz3, hz4, hz5⟩ := hz
        obtain ⟨m, hm⟩ : ∃ m, m = bs2.length % P := ⟨_, rfl⟩
        have hmP : m < P := hm ▸ Nat.mod_lt _ (by omega)
        have t1 : ((bs2.length : Int).tmod (P : Int)) = (m : Int) := by rw [Int.tmod_eq_emod_of_nonneg (by omega), hm]; simp
        have t2 : ((bs2.length : Int) % (P : Int)) = (m : Int) := by rw [hm]; simp
        have HMod := Lib.hid (And.intro t1 t2)
        clear t1 t2
        have hpw : ∀ W : World, Calls Try.prog 33 #[.int .i64 n] W fun e w' => e = .returned (.int .i64 P) ∧ W = w' := by
          intro W
          have := laws_power n W (by omega)
          rwa [← hP] at this
        have hfo : ∀ (W : World) (k : Nat), k < P → Calls Try.prog 34 #[.int .i64 n, .int .i64 k] W fun e w' => e = .returned (.string (txt n k)) ∧ W = w' := fun W k hk => laws_foldsOf n k W (by omega) (by omega)
        have hvf : ∀ (W : World) (k : Nat), k < r → Ints W B xs → Calls Try.prog 17 #[.slice B n c, .string (txt n k)] W fun e w' => e = .returned (.bool false) ∧ Below W.heap.size W w' := by
          intro W k hk hI
          rw [← hno k hk]
          have := impl_VertexFolds B c xs (txt n k) W hI (by unfold maxLen; omega) (by rw [txt_size]; unfold maxLen; omega)
          rwa [← hn] at this
        have hvT : ∀ W : World, Ints W B xs → Calls Try.prog 17 #[.slice B n c, .string T] W fun e w' => e = .returned (.bool true) ∧ Below W.heap.size W w' := by
          intro W hI
          rw [← hvr]
          have := impl_VertexFolds B c xs T W hI (by unfold maxLen; omega) (by unfold maxLen; omega)
          rwa [← hn] at this
        have hcl : ∀ W : World, Ints W B xs → Calls Try.prog 24 #[.slice B n c] W fun e w' => e = .returned (.bool true) ∧ W = w' := by
          intro W hI
          rw [← hac]
          have := impl_AnglesCloses B c xs W hI (by unfold maxLen; omega)
          rwa [← hn] at this
        obtain ⟨U, hU⟩ : ∃ U, U = txt n m := ⟨_, rfl⟩
        obtain ⟨b, hb⟩ : ∃ b, b = balT U.data.toList := ⟨_, rfl⟩
        have hUs : U.size = n := by rw [hU]; exact txt_size n m
        obtain ⟨eq, heq⟩ : ∃ eq, eq = List.replicate n (z : Int) := ⟨_, rfl⟩
        have heql : eq.length = n := by rw [heq]; simp
        have hU2 : vfB eq U = bal2 U.data.toList := by
          rw [heq, hz1, hU]
          exact eq_folds hn4 (by rw [← hP]; exact hmP)
        have hfoU : ∀ W : World, Calls Try.prog 34 #[.int .i64 n, .int .i64 m] W fun e w' => e = .returned (.string U) ∧ W = w' := by
          intro W
          rw [hU]
          exact hfo W m hmP
        have hbalU : ∀ W : World, Calls Try.prog 35 #[.string U] W fun e w' => e = .returned (.int .i64 b) ∧ W = w' := by
          intro W
          rw [hb]
          exact impl_FoldsBalance U W (by omega)
        have hvU : ∀ (W : World) (D : Option Addr) (cd : Nat), Ints W D eq → Calls Try.prog 17 #[.slice D eq.length cd, .string U] W fun e w' => e = .returned (.bool (bal2 U.data.toList)) ∧ Below W.heap.size W w' := by
          intro W D cd hI
          rw [← hU2]
          exact impl_VertexFolds D cd eq U W hI (by unfold maxLen; omega) (by unfold maxLen; omega)
        have hb2 : (bal2 U.data.toList = true ∧ (b = 2 ∨ b = -2)) ∨ (bal2 U.data.toList = false ∧ (b == 2) = false ∧ (b == -2) = false) := by
          unfold bal2
          rw [← hb]
          cases h1 : (b == 2) <;> cases h2 : (b == -2)
          · exact Or.inr ⟨rfl, rfl, rfl⟩
          · exact Or.inl ⟨rfl, Or.inr (by simpa using h2)⟩
          · exact Or.inl ⟨rfl, Or.inl (by simpa using h1)⟩
          · exact Or.inl ⟨rfl, Or.inl (by simpa using h1)⟩
        obtain ⟨V, hV⟩ : ∃ V, V = bal2 U.data.toList := ⟨_, rfl⟩
        rw [← hV] at hvU hb2
        have HPW := Lib.hid hpw
        have HFO := Lib.hid hfo
        have HVF := Lib.hid hvf
        have HVT := Lib.hid hvT
        have HCL := Lib.hid hcl
        have HFOU := Lib.hid hfoU
        have HBALU := Lib.hid hbalU
        have HVU := Lib.hid hvU
        have HB2 := Lib.hid hb2
        have HEQ := Lib.hid heq
        have HOT := Lib.hid hother
        have HTr := Lib.hid hTr
        have HZ := Lib.hid (And.intro hz3 (And.intro hz4 hz5))
        have HN := Lib.hid hn
        have HT0 := Lib.hid hT0
        have n0 : ((n : Int) == 0) = false := by rw [beq_eq_false_iff_ne]; omega
        have n1 : (n : Int) ≠ 0 := by omega
        have n2 : ¬ n = 0 := by omega
        have p0 : ((P : Int) == 0) = false := by rw [beq_eq_false_iff_ne]; omega
        have p1 : (P : Int) ≠ 0 := by omega
        have p2 : ¬ P = 0 := by omega
        rw [← HN.out]
        clear hr hTr hav hno hvr hM hac hn hn4 hP hTs hT0 hother hz1 hz3 hz4 hz5 hm hpw hfo hvf hvT hcl hfoU hbalU hvU hb2 hU hb hUs heql hU2 heq hV
        go_wp2_with fail
        go_loopg [11, 12] (P + 1) (fun g s11 s12 wr => ∃ (k : Nat), k ≤ r ∧ s11 = .int .i64 k ∧ P - k < g ∧ Hid (Below w3.heap.size w3 wr))
        case atStart => exact ⟨0, Nat.zero_le _, rfl, by omega, Below.refl _ _⟩
        case round =>
          obtain ⟨k, hk, rfl, hg, HB⟩ := hrel
          cases gk with
          | zero => omega
          | succ g =>
          have kP : k < P := by omega
          have hIr := hI3.below HB.out
          by_cases hkr : k < r
          · have hne := toList_ne (HOT.out k hkr)
            have HNE := Lib.hid hne
            clear hne
            go_wp2_with fail
            refine (HPW.out wr).mono ?_
            rintro e w' ⟨rfl, rfl⟩
            go_wp2_with fail
            refine (HFO.out wr k kP).mono ?_
            rintro e w' ⟨rfl, rfl⟩
            have hne := HNE.out
            go_wp2_with fail
            refine (HVF.out wr k hkr hIr).mono ?_
            rintro e w4 ⟨rfl, hb4⟩
            have HB4 : Hid (Below w3.heap.size w3 w4) := HB.out.trans (hb4.mono HB.out.size)
            clear hb4
            go_wp2_with fail
            go_roundg g
            case measure => omega
            case rel => exact ⟨k + 1, by omega, by go_num, by omega, HB4⟩
          · obtain rfl : k = r := by omega
            go_wp2_with fail
            refine (HPW.out wr).mono ?_
            rintro e w' ⟨rfl, rfl⟩
            go_wp2_with fail
            refine (HFO.out wr k kP).mono ?_
            rintro e w' ⟨rfl, rfl⟩
            rw [← HTr.out]
            obtain ⟨z3, z4, z5⟩ := HZ.out
            have z6 : ((360 : Int) / (n : Int)) = (z : Int) := by rw [← z5, Int.tdiv_eq_ediv_of_nonneg (by decide)]
            have HZ6 := Lib.hid z6
            clear z6 z5
            go_wp2_with fail
            clear z3 z4
            obtain ⟨w5, hw5⟩ : ∃ w5, w5 = wr.alloc (.cells #[] 3) := ⟨_, rfl⟩
            have hown5 : Own w5 w3.heap.size (.slice (some ⟨wr.heap.size, 0, none⟩) 0 0) [] := by rw [hw5]; exact own_empty wr HB.out.size
            have hb5 : Below w3.heap.size w3 w5 := by rw [hw5]; exact HB.out.alloc HB.out.size _
            have HO5 := Lib.hid hown5
            have HB5 := Lib.hid hb5
            rw [← hw5]
            clear hown5 hb5 hw5 HB hIr
            go_loopg [13, 14] (n + 1) (fun g s13 s14 wq => ∃ (j : Nat), j ≤ n ∧ s14 = .int .i64 j ∧ n - j < g ∧ Hid (Below w3.heap.size w3 wq) ∧ Hid (Own wq w3.heap.size s13 (List.replicate j (z : Int))))
            case atStart => exact ⟨0, Nat.zero_le _, rfl, by omega, HB5, HO5⟩
            case round =>
              clear HB5 HO5
              obtain ⟨j, hj, rfl, hg2, HB, HO⟩ := hrel
              cases gk with
              | zero => omega
              | succ g2 =>
              by_cases hjn : j < n
              · have hrep : List.replicate j (z : Int) ++ [(z : Int)] = List.replicate (j + 1) (z : Int) := by rw [List.replicate_succ']
                have HRep := Lib.hid hrep
                have z6 := HZ6.out
                obtain ⟨_, _, z5⟩ := HZ.out
                clear hrep
                go_wp2_with (at_builtin; go_loud (refine wpList_push (W := wr) rfl _ _ rfl w3.heap.size _ (List.replicate j (z : Int)) (z : Int) (by rfl) (by rfl) HO.out HB.out.size (by simp; omega) ?_))
                intro v' w6 hown6 hgr6 hb6
                rw [HRep.out] at hown6
                have HB6 := Lib.hid (HB.out.trans hb6)
                have HO6 := Lib.hid hown6
                clear hown6 hgr6 hb6 z6 z5 HB HO
                go_wp2_with fail
                go_roundg g2
                case measure => omega
                case rel => exact ⟨j + 1, by omega, by go_num, by omega, HB6, HO6⟩
              · obtain rfl : j = n := by omega
                have hown := HO.out
                rw [← HEQ.out] at hown
                obtain ⟨D, cd, hv, hID, _, _⟩ := hown.form
                subst hv
                clear hown HO
                obtain ⟨t1, t2⟩ := HMod.out
                go_wp2_with fail
                refine (HPW.out wr).mono ?_
                rintro e w' ⟨rfl, rfl⟩
                go_wp2_with fail
                clear t1 t2
                refine (HFOU.out wr).mono ?_
                rintro e w' ⟨rfl, rfl⟩
                go_wp2_with fail
                refine (HBALU.out wr).mono ?_
                rintro e w' ⟨rfl, rfl⟩
                rcases HB2.out with ⟨rfl, hbb⟩ | ⟨rfl, e1, e2⟩
                · rcases hbb with rfl | rfl
                  all_goals
                    go_wp2_with fail
                    refine (HVU.out wr D cd hID).mono ?_
                    rintro e w6 ⟨rfl, hb6⟩
                    have HB6 := Lib.hid (HB.out.trans (hb6.mono HB.out.size))
                    clear hb6
                    go_wp2_with fail
                    refine (HCL.out w6 (hI3.below HB6.out)).mono ?_
                    rintro e w' ⟨rfl, rfl⟩
                    go_wp2_with fail
                    refine (HVT.out w6 (hI3.below HB6.out)).mono ?_
                    rintro e w7 ⟨rfl, hb7⟩
                    have hT0 := HT0.out
                    have d7 : ((T[0].toNat : Int) == 77) = true := by rw [hT0]; rfl
                    go_wp2_with fail
                    go_ret
                    exact ⟨rfl, b3.trans ((HB6.out.trans (hb7.mono HB6.out.size)).mono b3.size)⟩
                · go_wp2_with fail
                  refine (HVU.out wr D cd hID).mono ?_
                  rintro e w6 ⟨rfl, hb6⟩
                  have HB6 := Lib.hid (HB.out.trans (hb6.mono HB.out.size))
                  clear hb6
                  go_wp2_with fail
                  refine (HCL.out w6 (hI3.below HB6.out)).mono ?_
                  rintro e w' ⟨rfl, rfl⟩
                  go_wp2_with fail
                  refine (HVT.out w6 (hI3.below HB6.out)).mono ?_
                  rintro e w7 ⟨rfl, hb7⟩
                  have hT0 := HT0.out
                  have d7 : ((T[0].toNat : Int) == 77) = true := by rw [hT0]; rfl
                  go_wp2_with fail
                  go_ret
                  exact ⟨rfl, b3.trans ((HB6.out.trans (hb7.mono HB6.out.size)).mono b3.size)⟩

end Go.Proofs.Ytkdakceahoihjaa
