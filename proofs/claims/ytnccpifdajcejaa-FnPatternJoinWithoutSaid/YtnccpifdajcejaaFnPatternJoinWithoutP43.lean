/- The program's PatternJoin. No condition but sizes. -/
import Derived.Test.YtnccpifdajcejaaFnPatternJoinWithoutP42
import Derived.Test.YtnccpifdajcejaaPatJ
namespace Go.Proofs.Ytnccpifdajcejaa
open Go.RowKit

theorem pat_bd {vs : List Vx} (hp : patB vs = true) : ∀ v ∈ vs, v.1.length ≤ 10 ∧ 2 ≤ v.1.length ∧ v.2.length = v.1.length ∧ ∀ c ∈ v.2, 0 ≤ c ∧ c < ncr vs := by
  intro v hv
  obtain ⟨_, _, hall, _, _, _⟩ := patB_parts hp
  have h1 := vtxB_bd (List.all_eq_true.1 hall v hv)
  refine ⟨by omega, by omega, h1.2.1, fun c hc => ⟨(h1.2.2.2.2 c hc).1, ?_⟩⟩
  have := (ncGo_le 0 vs).2 v hv c hc
  unfold ncr
  omega
set_option maxHeartbeats 4000000 in
set_option maxRecDepth 100000 in
theorem impl_PatternJoin (A B : Option Addr) (capA capB : Nat) (us vs : List Vx) (i j : Int) (w : World) (hA : Verts w A us) (hB : Verts w B vs) (hlA : us.length ≤ maxLen) (hlB : vs.length ≤ maxLen) :
    Calls Try.prog 21 #[.slice A us.length capA, .slice B vs.length capB, .int .i64 i, .int .i64 j] w (RowRes w (jR us vs i j) (joinB us vs i j)) := by
  have hno : joinB us vs i j = false → ∀ w1 : World, Below w.heap.size w w1 → RowRes w (jR us vs i j) (joinB us vs i j) (.returned (.tuple #[.slice (some ⟨w1.heap.size, 0, none⟩) 0 0, .bool false])) (w1.alloc (.cells #[] 30)) := by
    intro hb w1 hbel
    exact RowRes.none (by unfold jR; rw [hb]; rfl) hb hbel
  have HNo := Lib.hid hno
  clear hno
  go_enter Try.func21, Try.ntmps21
  go_wp2_with fail
  refine (impl_creaseUses A capA us w hA hlA).mono ?_
  rintro e w1 ⟨UA, rfl, hyA, hnA, hb1⟩
  obtain ⟨pa, hpa⟩ : ∃ pa, pa = patB us := ⟨_, rfl⟩
  rw [← hpa] at hyA hnA ⊢
  have HPA := Lib.hid hpa
  have HB1 := Lib.hid hb1
  have HYA := Lib.hid hyA
  have HNA := Lib.hid hnA
  clear hpa hb1 hyA hnA
  go_wp2_with fail
  refine (impl_creaseUses B capB vs w1 (hB.below HB1.out) hlB).mono ?_
  rintro e w2 ⟨UB, rfl, hyB, hnB, hb2⟩
  obtain ⟨pb, hpb⟩ : ∃ pb, pb = patB vs := ⟨_, rfl⟩
  rw [← hpb] at hyB hnB ⊢
  have HPB := Lib.hid hpb
  have HB : Hid (Below w.heap.size w w2) := HB1.out.trans (hb2.mono HB1.out.size)
  have HB2 := Lib.hid hb2
  have HYB := Lib.hid hyB
  have HNB := Lib.hid hnB
  clear hpb hb2 hyB hnB
  cases pa with
  | false =>
    have e := HNA.out rfl
    subst e
    have hw : joinB us vs i j = false := joinB_no (Or.inl HPA.out.symm)
    have HW := Lib.hid hw
    clear hw HYA HNA HYB HNB
    go_wp2_with fail
    go_ret2
    exact HNo.out HW.out w2 HB.out

  | true =>
  cases pb with
  | false =>
    have e := HNB.out rfl
    subst e
    have hw : joinB us vs i j = false := joinB_no (Or.inr (Or.inl HPB.out.symm))
    have HW := Lib.hid hw
    clear hw HYA HNA HYB HNB
    go_wp2_with fail
    go_ret2
    exact HNo.out HW.out w2 HB.out

  | true =>
    have hUA := own_below2 (HYA.out rfl) HB2.out
    have hUB := HYB.out rfl
    obtain ⟨a1, a3, _, _, an0, an10⟩ := patB_parts HPA.out.symm
    obtain ⟨b1, b3, _, _, bn0, bn10⟩ := patB_parts HPB.out.symm
    obtain ⟨na, hna⟩ : ∃ na, na = (ncr us).toNat := ⟨_, rfl⟩
    obtain ⟨nb, hnb⟩ : ∃ nb, nb = (ncr vs).toNat := ⟨_, rfl⟩
    have hna' : ncr us = (na : Int) := by omega
    have hnb' : ncr vs = (nb : Int) := by omega
    rw [← hna] at hUA
    rw [← hnb] at hUB
    obtain ⟨DA, ca, rfl, _, hca, hcma⟩ := Own.form hUA
    obtain ⟨DB, cb, rfl, _, hcb, hcmb⟩ := Own.form hUB
    have hula := usesL_len us na
    have hulb := usesL_len vs nb
    have hUA' : OwnN w2 w.heap.size (.slice DA na ca) na (usesL us na) := by have := hUA; simpa [Own, OwnN, hula] using this
    have hUB' : OwnN w2 w1.heap.size (.slice DB nb cb) nb (usesL vs nb) := by have := hUB; simpa [Own, OwnN, hulb] using this
    rw [hula] at hca
    rw [hulb] at hcb
    have houtA : i < 0 ∨ (na : Int) ≤ i → useN us i = 0 := fun h => useN_out (by rw [hna']; exact h) (fun v hv x hx => ((pat_bd HPA.out.symm v hv).2.2.2 x hx).1)
    have houtB : j < 0 ∨ (nb : Int) ≤ j → useN vs j = 0 := fun h => useN_out (by rw [hnb']; exact h) (fun v hv x hx => ((pat_bd HPB.out.symm v hv).2.2.2 x hx).1)
    have HUA := Lib.hid hUA'
    have HUB := Lib.hid hUB'
    have HOA := Lib.hid houtA
    have HOB := Lib.hid houtB
    have HNa := Lib.hid hna'
    have HNb := Lib.hid hnb'
    have hna10 : na ≤ 10 := by omega
    have hnb10 : nb ≤ 10 := by omega
    rw [hula, hulb]
    clear hUA hUB hUA' hUB' houtA houtB hna' hnb' hna hnb hula hulb HYA HNA HYB HNB an0 an10 bn0 bn10
    by_cases c1 : i < 0
    · have d1 : decide (i < 0) = true := by simp; omega
      have hz := HOA.out (Or.inl c1)
      have hw : joinB us vs i j = false := joinB_no (Or.inr (Or.inr (Or.inl (by rw [hz]; decide))))
      have HW := Lib.hid hw
      clear hw hz
      go_wp2_with fail
      go_ret2
      exact HNo.out HW.out w2 HB.out

    · have d1 : decide (i < 0) = false := by simp; omega
      by_cases c2 : (na : Int) ≤ i
      · have d2 : decide ((na : Int) ≤ i) = true := by simp; omega
        have hz := HOA.out (Or.inr c2)
        have hw : joinB us vs i j = false := joinB_no (Or.inr (Or.inr (Or.inl (by rw [hz]; decide))))
        have HW := Lib.hid hw
        clear hw hz
        go_wp2_with fail
        go_ret2
        exact HNo.out HW.out w2 HB.out

      · have d2 : decide ((na : Int) ≤ i) = false := by simp; omega
        by_cases c3 : j < 0
        · have d3 : decide (j < 0) = true := by simp; omega
          have hz := HOB.out (Or.inl c3)
          have hw : joinB us vs i j = false := joinB_no (Or.inr (Or.inr (Or.inr (by rw [hz]; decide))))
          have HW := Lib.hid hw
          clear hw hz
          go_wp2_with fail
          go_ret2
          exact HNo.out HW.out w2 HB.out

        · have d3 : decide (j < 0) = false := by simp; omega
          by_cases c4 : (nb : Int) ≤ j
          · have d4 : decide ((nb : Int) ≤ j) = true := by simp; omega
            have hz := HOB.out (Or.inr c4)
            have hw : joinB us vs i j = false := joinB_no (Or.inr (Or.inr (Or.inr (by rw [hz]; decide))))
            have HW := Lib.hid hw
            clear hw hz
            go_wp2_with fail
            go_ret2
            exact HNo.out HW.out w2 HB.out

          · have d4 : decide ((nb : Int) ≤ j) = false := by simp; omega
            obtain ⟨ia, hia⟩ : ∃ ia : Nat, i = (ia : Int) := ⟨i.toNat, by omega⟩
            obtain ⟨jb, hjb⟩ : ∃ jb : Nat, j = (jb : Int) := ⟨j.toNat, by omega⟩
            subst hia hjb
            have hial : ia < na := by omega
            have hjbl : jb < nb := by omega
            have d2' : decide (na ≤ ia) = false := by simp; omega
            have d4' : decide (nb ≤ jb) = false := by simp; omega
            obtain ⟨gA, capa, eA, _, hgA⟩ := World.ownsRow.form HUA.out (by omega)
            obtain ⟨gB, capb, eB, _, hgB⟩ := World.ownsRow.form HUB.out (by omega)
            injection eA with eA _ _
            injection eB with eB _ _
            subst eA eB
            have rA := HUA.out.cellAt ia (by omega)
            have rB := HUB.out.cellAt jb (by omega)
            rw [List.getElem?_map, usesL_get us hial] at rA
            rw [List.getElem?_map, usesL_get vs hjbl] at rB
            simp only [Option.map_some] at rA rB
            obtain ⟨ua, hua⟩ : ∃ ua, ua = useN us (ia : Int) := ⟨_, rfl⟩
            obtain ⟨ub, hub⟩ : ∃ ub, ub = useN vs (jb : Int) := ⟨_, rfl⟩
            rw [← hua] at rA
            rw [← hub] at rB
            have HUa := Lib.hid hua
            have HUb := Lib.hid hub
            have ia0 : (0 : Int) ≤ (ia : Int) := by omega
            have ia1 : (ia : Int) < (na : Int) := by omega
            have jb0 : (0 : Int) ≤ (jb : Int) := by omega
            have jb1 : (jb : Int) < (nb : Int) := by omega
            clear hua hub HOA HOB
            by_cases q1 : ua = 1
            · have dq1 : ((ua : Int) != 1) = false := by rw [bne_eq_false_iff_eq]; omega
              by_cases q2 : ub = 1
              · have dq2 : ((ub : Int) != 1) = false := by rw [bne_eq_false_iff_eq]; omega
                have hjy := joinB_yes HPA.out.symm HPB.out.symm (HUa.out.symm.trans q1) (HUb.out.symm.trans q2)
                have HJY := Lib.hid hjy
                clear hjy q1 q2
                obtain ⟨i0, hi, hz0, hz1, hz2⟩ := info_parts Try.infoInt
                have hz02 : w.heap.size ≤ w2.heap.size := HB.out.size
                clear HUA HUB HUa HUb
                go_wp2_with (at_make; go_loud (refine wpList_make_full _ rfl _ _ 27 rfl w2.heap.size 3 i0 (.int .i64 0) 1 Try.underlying27 hi hz0 hz1 .i64 .i64 _ _ na (by rfl) (by rfl) (by rfl) (by rfl) (by rw [hz2]; omega) (by unfold maxLen; omega) (Nat.le_refl _) ?_))
                intro w3 ho3 hg3
                have hb3 : Below w2.heap.size w2 w3 := (Below.refl _ _).grown hg3 (Nat.le_refl _) (by intro k hk; cases hk)
                have hK3 : OwnN w3 w2.heap.size (.slice (some ⟨w2.heap.size, 0, none⟩) na na) na (fillTo (fun k => (k : Int)) na 0) := by
                  have e : (madeCells #[Value.int .i64 0] na).toList = (fillTo (fun k => (k : Int)) na 0).map (Value.int .i64) := by
                    rw [fillTo_zero, List.map_replicate]; exact toList_madeCells_one _ _
                  show w3.ownsRow _ _ _ _ _ _
                  rw [← e]
                  exact ho3
                have HK3 := Lib.hid hK3
                have HB3 := Lib.hid hb3
                clear ho3 hg3 hb3 hK3
                go_wp2_with fail
                go_loopg [15, 79] (na + 1) (fun gg s15 s79 wr => ∃ (t : Nat), s15 = s15 ∧ t ≤ na ∧ s79 = .int .i64 t ∧ na - t < gg ∧ Hid (OwnN wr w2.heap.size (.slice (some ⟨w2.heap.size, 0, none⟩) na na) na (fillTo (fun k => (k : Int)) na t)) ∧ Hid (Below w2.heap.size w2 wr))
                case atStart => exact ⟨0, rfl, Nat.zero_le _, rfl, by omega, HK3, HB3⟩
                case round =>
                  clear HK3 HB3
                  obtain ⟨t, _, ht, rfl, hg, HK, HBk⟩ := hrel
                  cases gk with
                  | zero => omega
                  | succ gg =>
                  by_cases hlt : t < na
                  · have c2 := HK.out.cellAt t (by omega)
                    rw [List.getElem?_eq_getElem (by simp [fillTo_len]; omega)] at c2
                    have f2 := HK.out.frozenAt t
                    have st := HK.out.stored t (.int .i64 (t : Int))
                    have hset := fillTo_set (fun k => (k : Int)) (n := na) (t := t)
                    rw [map_set_int, hset] at st
                    have HST := Lib.hid st.1
                    have HBK := Lib.hid (HBk.out.trans (below_set wr t (.int .i64 (t : Int)) (Nat.le_refl w2.heap.size)))
                    have t1 : (t : Int) < (na : Int) := by omega
                    have t0 : (0 : Int) ≤ (t : Int) := by omega
                    clear st hset
                    go_wp2_with fail
                    go_roundg gg
                    case measure => omega
                    case rel => exact ⟨t + 1, trivial, by omega, by go_num, by omega, HST, HBK⟩
                  · obtain rfl : t = na := by omega
                    obtain ⟨wA, rfl⟩ : ∃ wA, wA = wr := ⟨_, rfl⟩
                    have hKI := Ints.of_own (n := t) (by have := HK.out; simpa [Own, OwnN, fillTo_len] using this : wA.ownsRow w2.heap.size 3 1 (.slice (some ⟨w2.heap.size, 0, none⟩) t t) t ((fillTo (fun k => (k : Int)) t t).map (Value.int .i64)))
                    have HKI := Lib.hid hKI
                    have HBA : Hid (Below w.heap.size w wA) := HB.out.trans (HBk.out.mono hz02)
                    have hzA : w.heap.size ≤ wA.heap.size := HBA.out.size
                    clear hKI HK HBk HB
                    go_wp2_with (at_make; go_loud (refine wpList_make_full _ rfl _ _ 27 rfl wA.heap.size 3 i0 (.int .i64 0) 1 Try.underlying27 hi hz0 hz1 .i64 .i64 _ _ nb (by rfl) (by rfl) (by rfl) (by rfl) (by rw [hz2]; omega) (by unfold maxLen; omega) (Nat.le_refl _) ?_))
                    intro w3 ho3 hg3
                    have hb3 : Below wA.heap.size wA w3 := (Below.refl _ _).grown hg3 (Nat.le_refl _) (by intro k hk; cases hk)
                    have hK3 : OwnN w3 wA.heap.size (.slice (some ⟨wA.heap.size, 0, none⟩) nb nb) nb (fillTo (numJ (t : Int) (ia : Int) (jb : Int)) nb 0) := by
                      have e : (madeCells #[Value.int .i64 0] nb).toList = (fillTo (numJ (t : Int) (ia : Int) (jb : Int)) nb 0).map (Value.int .i64) := by
                        rw [fillTo_zero, List.map_replicate]; exact toList_madeCells_one _ _
                      show w3.ownsRow _ _ _ _ _ _
                      rw [← e]
                      exact ho3
                    have HK3 := Lib.hid hK3
                    have HB3 := Lib.hid hb3
                    have hnx0 : nxJ (t : Int) (jb : Int) 0 = (t : Int) := by unfold nxJ; split <;> omega
                    have HNX0 := Lib.hid hnx0
                    clear ho3 hg3 hb3 hK3 hi hz0 hz1 hz2 hnx0
                    obtain ⟨na, rfl⟩ : ∃ na, na = t := ⟨_, rfl⟩
                    go_wp2_with fail
                    go_loopg [17, 18, 94] (nb + 1) (fun gg s17 s18 s94 wr => ∃ (t : Nat) (nx : Int), s18 = s18 ∧ t ≤ nb ∧ s94 = .int .i64 t ∧ s17 = .int .i64 nx ∧ Hid (nx = nxJ (na : Int) (jb : Int) t) ∧ 0 ≤ nx ∧ nx ≤ 30 + t ∧ nb - t < gg ∧ Hid (OwnN wr wA.heap.size (.slice (some ⟨wA.heap.size, 0, none⟩) nb nb) nb (fillTo (numJ (na : Int) (ia : Int) (jb : Int)) nb t)) ∧ Hid (Below wA.heap.size wA wr))
                    case atStart => exact ⟨0, (na : Int), rfl, Nat.zero_le _, rfl, rfl, HNX0.out.symm, by omega, by omega, by omega, HK3, HB3⟩
                    case round =>
                      clear HK3 HB3 HNX0
                      obtain ⟨t, nx, _, ht, rfl, rfl, HNx, hnx0, hnx1, hg, HK, HBk⟩ := hrel
                      cases gk with
                      | zero => omega
                      | succ gg =>
                      by_cases hlt : t < nb
                      · have c2 := HK.out.cellAt t (by omega)
                        rw [List.getElem?_eq_getElem (by simp [fillTo_len]; omega)] at c2
                        have f2 := HK.out.frozenAt t
                        have t1 : (t : Int) < (nb : Int) := by omega
                        have t0 : (0 : Int) ≤ (t : Int) := by omega
                        by_cases htj : t = jb
                        · have htj' : (t : Int) = (jb : Int) := by omega
                          have dj : ((t : Int) == (jb : Int)) = true := by rw [beq_iff_eq]; exact htj'
                          have hset := fillTo_set (numJ (na : Int) (ia : Int) (jb : Int)) (n := nb) (t := t)
                          rw [numJ_at htj'] at hset
                          have st := HK.out.stored t (.int .i64 (ia : Int))
                          rw [map_set_int, hset] at st
                          have HST := Lib.hid st.1
                          have HBK := Lib.hid (HBk.out.trans (below_set wr t (.int .i64 (ia : Int)) (Nat.le_refl wA.heap.size)))
                          have HNx2 : Hid (nx = nxJ (na : Int) (jb : Int) (t + 1)) := by show _ = _; rw [nxJ_at htj']; exact HNx.out
                          clear st hset htj htj'
                          go_wp2_with fail
                          go_roundg gg
                          case measure => omega
                          case rel => exact ⟨t + 1, nx, trivial, by omega, by go_num, rfl, HNx2, hnx0, by omega, by omega, HST, HBK⟩
                        · have htj' : ¬ (t : Int) = (jb : Int) := by omega
                          have dj : ((t : Int) == (jb : Int)) = false := by rw [beq_eq_false_iff_ne]; exact htj'
                          have hset := fillTo_set (numJ (na : Int) (ia : Int) (jb : Int)) (n := nb) (t := t)
                          obtain ⟨h1, h2⟩ := nxJ_no (na := (na : Int)) (i := (ia : Int)) htj'
                          rw [h2, ← HNx.out] at hset
                          have st := HK.out.stored t (.int .i64 nx)
                          rw [map_set_int, hset] at st
                          have HST := Lib.hid st.1
                          have HBK := Lib.hid (HBk.out.trans (below_set wr t (.int .i64 nx) (Nat.le_refl wA.heap.size)))
                          have HNx2 : Hid (nx + 1 = nxJ (na : Int) (jb : Int) (t + 1)) := by show _ = _; rw [h1, HNx.out]
                          clear st hset htj htj' h1 h2
                          go_wp2_with fail
                          go_roundg gg
                          case measure => omega
                          case rel => exact ⟨t + 1, nx + 1, trivial, by omega, by go_num, rfl, HNx2, by omega, by omega, by omega, HST, HBK⟩
                      · obtain rfl : t = nb := by omega
                        obtain ⟨nb, rfl⟩ : ∃ nb, nb = t := ⟨_, rfl⟩
                        obtain ⟨wC, rfl⟩ : ∃ wC, wC = wr := ⟨_, rfl⟩
                        have hNI := Ints.of_own (n := nb) (by have := HK.out; simpa [Own, OwnN, fillTo_len] using this : wC.ownsRow wA.heap.size 3 1 (.slice (some ⟨wA.heap.size, 0, none⟩) nb nb) nb ((fillTo (numJ (na : Int) (ia : Int) (jb : Int)) nb nb).map (Value.int .i64)))
                        have HNI := Lib.hid hNI
                        have HBAC := HBk
                        have HBC : Hid (Below w.heap.size w wC) := HBA.out.trans (HBk.out.mono hzA)
                        have hzC : w.heap.size ≤ wC.heap.size := HBC.out.size
                        obtain ⟨i0, hi, hz0, hz1, hz2⟩ := info_parts Try.infoVx
                        have hsum : (us.length : Int) + (vs.length : Int) = ((us.length + vs.length : Nat) : Int) := by omega
                        have HSum := Lib.hid hsum
                        clear hNI HK HBk HNx hsum
                        go_wp2_with (at_make; go_loud (refine wpList_make_own _ rfl _ _ 23 rfl wC.heap.size 30 i0 (.agg #[.slice none 0 0, .slice none 0 0]) 2 Try.underlying23 hi hz0 hz1 .i64 .i64 _ (us.length + vs.length) (by rfl) (by rfl) (by first | exact HSum.out | rfl) (by rw [hz2]; omega) (by unfold maxLen; omega) (Nat.le_refl _) ?_))
                        intro w3 ho3 hg3
                        have hb3 : Below wC.heap.size wC w3 := (Below.refl _ _).grown hg3 (Nat.le_refl _) (by intro k hk; cases hk)
                        have HO3 := Lib.hid (show OwnX w3 wC.heap.size (.slice (some ⟨wC.heap.size, 0, none⟩) 0 (us.length + vs.length)) 0 [] from ho3)
                        have HB3 := Lib.hid hb3
                        have hs3 : wC.heap.size < w3.heap.size := (ho3.lt _ rfl).2
                        clear hi hz0 hz1 hz2 ho3 hg3 hb3
                        go_wp2_with fail
                        go_loopg [19, 21, 119] (us.length + 1) (fun gg s19 s21 s119 wr => ∃ (k : Nat) (L : List Value), s21 = s21 ∧ s119 = s119 ∧ s19 = .slice (some ⟨wC.heap.size, 0, none⟩) k (us.length + vs.length) ∧ k ≤ us.length ∧ s119 = .int .i64 k ∧ us.length - k < gg ∧ Hid (OwnX wr wC.heap.size (.slice (some ⟨wC.heap.size, 0, none⟩) k (us.length + vs.length)) k L) ∧ Hid (RowOw wr wC.heap.size wr.heap.size (joinL us vs (ia : Int) (jb : Int)) L k) ∧ Hid (Below wC.heap.size wC wr) ∧ wC.heap.size < wr.heap.size)
                        case atStart => exact ⟨0, [], rfl, rfl, rfl, Nat.zero_le _, rfl, by omega, HO3, RowOw.zero _ _ _ _ _, HB3, hs3⟩
                        case round =>
                          clear HO3 HB3 hs3
                          obtain ⟨k, L, _, _, rfl, hk, rfl, hg, HO, HR, HBx, hgx⟩ := hrel
                          cases gk with
                          | zero => omega
                          | succ gg =>
                          have HBxA : Hid (Below wA.heap.size wA wr) := HBAC.out.trans (HBx.out.mono HBAC.out.size)
                          have HBw : Hid (Below w.heap.size w wr) := HBC.out.trans (HBx.out.mono hzC)
                          by_cases hltk : k < us.length
                          · obtain ⟨b, off, A1, c1, A2, c2, e0, hb, r1, r2, i1, l1, m1, i2, l2, m2⟩ := hA.at_ hltk
                            subst e0
                            have hvk := pat_bd HPA.out.symm us[k] (List.getElem_mem hltk)
                            obtain ⟨xs, hxs⟩ : ∃ xs, xs = us[k].1 := ⟨_, rfl⟩
                            obtain ⟨cs, hcs⟩ : ∃ cs, cs = us[k].2 := ⟨_, rfl⟩
                            rw [← hxs] at r1 i1 l1 hvk
                            rw [← hcs] at r2 i2 l2 hvk
                            have r1w := (HBw.out.cell (p := ⟨b, off + k * 2, none⟩) hb).trans r1
                            have r2w := (HBw.out.cell (p := ⟨b, off + k * 2 + 1, none⟩) hb).trans r2
                            obtain ⟨w4, hw4⟩ : ∃ w4, w4 = wr.alloc (.cells #[.slice A1 xs.length c1, .slice A2 cs.length c2] 30) := ⟨_, rfl⟩
                            have b4 : Below wr.heap.size wr w4 := by rw [hw4]; exact (Below.refl _ _).alloc (Nat.le_refl _) _
                            have K4 : Blk w4 wr.heap.size 30 #[.slice A1 xs.length c1, .slice A2 cs.length c2] := by rw [hw4]; exact Blk.new wr _ _
                            have e40 := K4.cell 0
                            have e41 := K4.cell 1
                            have HW4 := Lib.hid hw4
                            have kk1 : (k : Int) < (us.length : Int) := by omega
                            have kk0 : (0 : Int) ≤ (k : Int) := by omega
                            have hs4 : wr.heap.size < w4.heap.size := K4.lt
                            have hfx : ∀ c ∈ cs, 0 ≤ c ∧ (fillTo (fun k => (k : Int)) na na)[c.toNat]? = some ((fun k => (k : Int)) c.toNat) := fun c hc => by
                              have h1 := hvk.2.2.2 c hc
                              have h2 := HNa.out
                              exact ⟨h1.1, fillTo_get (by omega)⟩
                            have hget : (joinL us vs (ia : Int) (jb : Int))[k]? = some (xs, cs.map fun c => (fun k => (k : Int)) c.toNat) := by
                              rw [joinL_left hltk]
                              congr 1
                              have h1 := renV_id (v := us[k]) (fun c hc => ((pat_bd HPA.out.symm us[k] (List.getElem_mem hltk)).2.2.2 c hc).1)
                              rw [← h1]
                              unfold renV
                              rw [hxs, hcs]
                            have hcall := impl_renumbered A1 A2 (some ⟨w2.heap.size, 0, none⟩) c1 c2 na xs cs (fillTo (fun k => (k : Int)) na na) (fun k => (k : Int)) w4 ((i1.below HBw.out).below b4) ((i2.below HBw.out).below b4) ((HKI.out.below HBxA.out).below b4) (by omega) (by omega) (by omega) hfx (by rw [fillTo_len]; omega)
                            rw [fillTo_len] at hcall
                            have HCALL := Lib.hid hcall
                            have HGET := Lib.hid hget
                            have HO4 : Hid (OwnX w4 wC.heap.size (.slice (some ⟨wC.heap.size, 0, none⟩) (k) (us.length + vs.length)) (k) L) := own_below2' HO.out b4
                            have HR4 : Hid (RowOw w4 wC.heap.size wr.heap.size (joinL us vs (ia : Int) (jb : Int)) L (k)) := HR.out.below b4
                            have HB4 : Hid (Below wC.heap.size wC w4) := HBx.out.trans (b4.mono HBx.out.size)
                            have hzx : wC.heap.size ≤ wr.heap.size := HBx.out.size
                            have hixl : k + 1 ≤ us.length + vs.length := by omega
                            clear hvk hxs hcs r1 r2 i1 i2 hw4 b4 K4 l1 l2 hget hfx hcall HBxA
                            go_wp2_with fail
                            rw [← HW4.out]
                            go_wp2_with fail
                            refine HCALL.out.mono ?_
                            rintro e w5 ⟨U, V, rfl, oU, oV, hUV, hb5⟩
                            have ho5 : OwnX w5 wC.heap.size (.slice (some ⟨wC.heap.size, 0, none⟩) (k) (us.length + vs.length)) (k) L := own_below2' HO4.out hb5
                            have hL := ho5.1
                            have hr5 := (HR4.out.below hb5).push hL HGET.out (own_lower' oU (by omega)) (own_lower' oV (by omega)) hUV hgx (by have := hb5.size; omega)
                            obtain ⟨A5, c5, rfl, _, _, _⟩ := oU.form
                            obtain ⟨A6, c6, rfl, _, _, _⟩ := oV.form
                            rw [List.length_map] at hr5
                            have HR5 := Lib.hid hr5
                            have hb5' : Below wC.heap.size wC w5 := HB4.out.trans (hb5.mono (by omega))
                            have HB5 := Lib.hid hb5'
                            have hs5 : wC.heap.size ≤ w5.heap.size := hb5'.size
                            clear oU oV hUV hb5 hr5 hb5' HR4 HO4 HO HR
                            go_wp2_with (at_builtin; go_loud (refine wpList_pushV (W := w5) rfl _ _ rfl wC.heap.size _ (k) L _ _ (by rfl) (by rfl) ho5 (by rfl) (by rfl) hs5 (by omega) ?_))
                            intro v' w6 ho6 hg6 hb6 _ hroom
                            have hroom2 : v' = .slice (some ⟨wC.heap.size, 0, none⟩) (k + 1) (us.length + vs.length) := by first | exact hroom | exact hroom wC.heap.size (us.length + vs.length) rfl hixl
                            clear hroom
                            subst hroom2
                            have HO6 := Lib.hid ho6
                            have HR6 := Lib.hid ((HR5.out.row hg6).up hb6.size)
                            have HB6 := Lib.hid (HB5.out.trans hb6)
                            have hs6 : wC.heap.size < w6.heap.size := (ho6.lt _ rfl).2
                            clear ho5 ho6 hg6 hb6 HR5 HB5 HB4
                            go_wp2_with fail
                            go_roundg gg
                            case measure => omega
                            case rel => exact ⟨k + 1, _, trivial, trivial, rfl, by omega, by go_num, by omega, HO6, HR6, HB6, hs6⟩
                          · obtain rfl : k = us.length := by omega
                            clear HBxA HBw
                            go_wp2_with fail
                            go_loopg [19, 23, 132] (vs.length + 1) (fun gg s19 s23 s132 wr => ∃ (k : Nat) (L : List Value), s23 = s23 ∧ s132 = s132 ∧ s19 = .slice (some ⟨wC.heap.size, 0, none⟩) (us.length + k) (us.length + vs.length) ∧ k ≤ vs.length ∧ s132 = .int .i64 k ∧ vs.length - k < gg ∧ Hid (OwnX wr wC.heap.size (.slice (some ⟨wC.heap.size, 0, none⟩) (us.length + k) (us.length + vs.length)) (us.length + k) L) ∧ Hid (RowOw wr wC.heap.size wr.heap.size (joinL us vs (ia : Int) (jb : Int)) L (us.length + k)) ∧ Hid (Below wC.heap.size wC wr) ∧ wC.heap.size < wr.heap.size)
                            case atStart => exact ⟨0, L, rfl, rfl, rfl, Nat.zero_le _, rfl, by omega, HO, HR, HBx, hgx⟩
                            case round =>
                              clear HO HR HBx hgx
                              obtain ⟨k, L, _, _, rfl, hk, rfl, hg, HO, HR, HBx, hgx⟩ := hrel
                              cases gk with
                              | zero => omega
                              | succ gg =>
                              have HBxB : Hid (Below wC.heap.size wC wr) := HBx
                              have HBw : Hid (Below w.heap.size w wr) := HBC.out.trans (HBx.out.mono hzC)
                              by_cases hltk : k < vs.length
                              · obtain ⟨b, off, A1, c1, A2, c2, e0, hb, r1, r2, i1, l1, m1, i2, l2, m2⟩ := hB.at_ hltk
                                subst e0
                                have hvk := pat_bd HPB.out.symm vs[k] (List.getElem_mem hltk)
                                obtain ⟨xs, hxs⟩ : ∃ xs, xs = vs[k].1 := ⟨_, rfl⟩
                                obtain ⟨cs, hcs⟩ : ∃ cs, cs = vs[k].2 := ⟨_, rfl⟩
                                rw [← hxs] at r1 i1 l1 hvk
                                rw [← hcs] at r2 i2 l2 hvk
                                have r1w := (HBw.out.cell (p := ⟨b, off + k * 2, none⟩) hb).trans r1
                                have r2w := (HBw.out.cell (p := ⟨b, off + k * 2 + 1, none⟩) hb).trans r2
                                obtain ⟨w4, hw4⟩ : ∃ w4, w4 = wr.alloc (.cells #[.slice A1 xs.length c1, .slice A2 cs.length c2] 30) := ⟨_, rfl⟩
                                have b4 : Below wr.heap.size wr w4 := by rw [hw4]; exact (Below.refl _ _).alloc (Nat.le_refl _) _
                                have K4 : Blk w4 wr.heap.size 30 #[.slice A1 xs.length c1, .slice A2 cs.length c2] := by rw [hw4]; exact Blk.new wr _ _
                                have e40 := K4.cell 0
                                have e41 := K4.cell 1
                                have HW4 := Lib.hid hw4
                                have kk1 : (k : Int) < (vs.length : Int) := by omega
                                have kk0 : (0 : Int) ≤ (k : Int) := by omega
                                have hs4 : wr.heap.size < w4.heap.size := K4.lt
                                have hfx : ∀ c ∈ cs, 0 ≤ c ∧ (fillTo (numJ (na : Int) (ia : Int) (jb : Int)) nb nb)[c.toNat]? = some ((numJ (na : Int) (ia : Int) (jb : Int)) c.toNat) := fun c hc => by
                                  have h1 := hvk.2.2.2 c hc
                                  have h2 := HNb.out
                                  exact ⟨h1.1, fillTo_get (by omega)⟩
                                have hget : (joinL us vs (ia : Int) (jb : Int))[us.length + k]? = some (xs, cs.map fun c => (numJ (na : Int) (ia : Int) (jb : Int)) c.toNat) := by
                                  rw [joinL_right hltk, HNa.out]
                                  congr 1
                                  unfold renV
                                  rw [hxs, hcs]
                                have hcall := impl_renumbered A1 A2 (some ⟨wA.heap.size, 0, none⟩) c1 c2 nb xs cs (fillTo (numJ (na : Int) (ia : Int) (jb : Int)) nb nb) (numJ (na : Int) (ia : Int) (jb : Int)) w4 ((i1.below HBw.out).below b4) ((i2.below HBw.out).below b4) ((HNI.out.below HBxB.out).below b4) (by omega) (by omega) (by omega) hfx (by rw [fillTo_len]; omega)
                                rw [fillTo_len] at hcall
                                have HCALL := Lib.hid hcall
                                have HGET := Lib.hid hget
                                have HO4 : Hid (OwnX w4 wC.heap.size (.slice (some ⟨wC.heap.size, 0, none⟩) (us.length + k) (us.length + vs.length)) (us.length + k) L) := own_below2' HO.out b4
                                have HR4 : Hid (RowOw w4 wC.heap.size wr.heap.size (joinL us vs (ia : Int) (jb : Int)) L (us.length + k)) := HR.out.below b4
                                have HB4 : Hid (Below wC.heap.size wC w4) := HBx.out.trans (b4.mono HBx.out.size)
                                have hzx : wC.heap.size ≤ wr.heap.size := HBx.out.size
                                have hixl : us.length + k + 1 ≤ us.length + vs.length := by omega
                                clear hvk hxs hcs r1 r2 i1 i2 hw4 b4 K4 l1 l2 hget hfx hcall HBxB
                                go_wp2_with fail
                                rw [← HW4.out]
                                go_wp2_with fail
                                refine HCALL.out.mono ?_
                                rintro e w5 ⟨U, V, rfl, oU, oV, hUV, hb5⟩
                                have ho5 : OwnX w5 wC.heap.size (.slice (some ⟨wC.heap.size, 0, none⟩) (us.length + k) (us.length + vs.length)) (us.length + k) L := own_below2' HO4.out hb5
                                have hL := ho5.1
                                have hr5 := (HR4.out.below hb5).push hL HGET.out (own_lower' oU (by omega)) (own_lower' oV (by omega)) hUV hgx (by have := hb5.size; omega)
                                obtain ⟨A5, c5, rfl, _, _, _⟩ := oU.form
                                obtain ⟨A6, c6, rfl, _, _, _⟩ := oV.form
                                rw [List.length_map] at hr5
                                have HR5 := Lib.hid hr5
                                have hb5' : Below wC.heap.size wC w5 := HB4.out.trans (hb5.mono (by omega))
                                have HB5 := Lib.hid hb5'
                                have hs5 : wC.heap.size ≤ w5.heap.size := hb5'.size
                                clear oU oV hUV hb5 hr5 hb5' HR4 HO4 HO HR
                                go_wp2_with (at_builtin; go_loud (refine wpList_pushV (W := w5) rfl _ _ rfl wC.heap.size _ (us.length + k) L _ _ (by rfl) (by rfl) ho5 (by rfl) (by rfl) hs5 (by omega) ?_))
                                intro v' w6 ho6 hg6 hb6 _ hroom
                                have hroom2 : v' = .slice (some ⟨wC.heap.size, 0, none⟩) (us.length + k + 1) (us.length + vs.length) := by first | exact hroom | exact hroom wC.heap.size (us.length + vs.length) rfl hixl
                                clear hroom
                                subst hroom2
                                have HO6 := Lib.hid ho6
                                have HR6 := Lib.hid ((HR5.out.row hg6).up hb6.size)
                                have HB6 := Lib.hid (HB5.out.trans hb6)
                                have hs6 : wC.heap.size < w6.heap.size := (ho6.lt _ rfl).2
                                clear ho5 ho6 hg6 hb6 HR5 HB5 HB4
                                go_wp2_with fail
                                go_roundg gg
                                case measure => omega
                                case rel => exact ⟨k + 1, _, trivial, trivial, rfl, by omega, by go_num, by omega, HO6, HR6, HB6, hs6⟩
                              · obtain rfl : k = vs.length := by omega
                                have hjl := joinL_len us vs (ia : Int) (jb : Int)
                                have hV := RowV.read (HO.out : RowV wr wC.heap.size wC.heap.size (us.length + vs.length) L) HR.out hjl
                                have hcall : Calls Try.prog 15 #[.slice (some ⟨wC.heap.size, 0, none⟩) (us.length + vs.length) (us.length + vs.length)] wr fun e w' => e = .returned (.bool (patB (joinL us vs (ia : Int) (jb : Int)))) ∧ Below wr.heap.size wr w' := by
                                  have := impl_PatternValid (some ⟨wC.heap.size, 0, none⟩) (us.length + vs.length) (joinL us vs (ia : Int) (jb : Int)) wr hV (by rw [hjl]; unfold maxLen; omega)
                                  rwa [hjl] at this
                                have HCALL := Lib.hid hcall
                                have HJL := Lib.hid hjl
                                clear hV hcall hjl HBxB
                                go_wp2_with fail
                                refine HCALL.out.mono ?_
                                rintro e w7 ⟨rfl, hb7⟩
                                have HB7 : Hid (Below w.heap.size w w7) := HBw.out.trans (hb7.mono HBw.out.size)
                                cases hpj : patB (joinL us vs (ia : Int) (jb : Int)) with
                                | false =>
                                  have hw : joinB us vs (ia : Int) (jb : Int) = false := HJY.out.trans hpj
                                  have HW := Lib.hid hw
                                  clear hpj hw hb7
                                  go_wp2_with fail
                                  go_ret2
                                  exact HNo.out HW.out w7 HB7.out
                                | true =>
                                  have hw : joinB us vs (ia : Int) (jb : Int) = true := HJY.out.trans hpj
                                  have hjr : jR us vs (ia : Int) (jb : Int) = joinL us vs (ia : Int) (jb : Int) := by unfold jR; rw [hw, if_pos rfl]
                                  have HW := Lib.hid hw
                                  have HJR := Lib.hid hjr
                                  have HO7 := Lib.hid (own_below2' HO.out hb7)
                                  have HR7 := Lib.hid ((HR.out.below hb7).up hb7.size)
                                  clear hpj hw hjr hb7 HO HR
                                  go_wp2_with fail
                                  go_ret2
                                  refine ⟨wC.heap.size, L, by rw [HJR.out, HW.out, HJL.out]; rfl, ?_, ?_, HB7.out⟩
                                  · rw [HJR.out, HJL.out]
                                    exact own_lower' HO7.out hzC
                                  · rw [HJR.out, HJL.out]
                                    exact HR7.out
              · have dq2 : ((ub : Int) != 1) = true := by rw [bne_iff_ne]; omega
                have hw : joinB us vs (ia : Int) (jb : Int) = false := joinB_no (Or.inr (Or.inr (Or.inr (by rw [← HUb.out]; exact q2))))
                have HW := Lib.hid hw
                clear hw q1 q2
                go_wp2_with fail
                go_ret2
                exact HNo.out HW.out w2 HB.out
            · have dq1 : ((ua : Int) != 1) = true := by rw [bne_iff_ne]; omega
              have hw : joinB us vs (ia : Int) (jb : Int) = false := joinB_no (Or.inr (Or.inr (Or.inl (by rw [← HUa.out]; exact q1))))
              have HW := Lib.hid hw
              clear hw q1
              go_wp2_with fail
              go_ret2
              exact HNo.out HW.out w2 HB.out
end Go.Proofs.Ytnccpifdajcejaa
