/- The reference's PatternJoin. No condition but sizes. Rows of bytes that the call itself made: append, and the text they make. No condition. The program's 'list': the angles and folds of a ring from its first crease on. No condition but sizes. -/
import Derived.Test.YtnccpifdajcejaaFnPatternJoinWithoutP44
import Derived.Test.YtnccpifdajcejaaApp
import Derived.Test.YtnccpifdajcejaaRingF
import Derived.Test.YtnccpifdajcejaaText
namespace Go.Proofs.Ytnccpifdajcejaa
open Go.RowKit

theorem own_below3 {w : World} {B B' : Nat} {e : TypeId} {z n : Nat} {v : Value} {xs : List Value} (h : w.ownsRow B e z v n xs) (hB : B' ≤ B) : w.ownsRow B' e z v n xs := own_base h (fun g hg => Nat.le_trans hB (h.lt g hg).1)
theorem pat_bd2 {vs : List Vx} (hp : patB vs = true) : ∀ v ∈ vs, v.1.length ≤ 10 ∧ 2 ≤ v.1.length ∧ v.2.length = v.1.length ∧ ∀ c ∈ v.2, 0 ≤ c ∧ c < ncr vs ∧ c ≤ 9 := by
  intro v hv
  obtain ⟨_, _, hall, _, _, _⟩ := patB_parts hp
  have h1 := vtxB_bd (List.all_eq_true.1 hall v hv)
  refine ⟨by omega, by omega, h1.2.1, fun c hc => ⟨(h1.2.2.2.2 c hc).1, ?_, (h1.2.2.2.2 c hc).2⟩⟩
  have := (ncGo_le 0 vs).2 v hv c hc
  unfold ncr
  omega
set_option maxHeartbeats 4000000 in
set_option maxRecDepth 100000 in
theorem spec_PatternJoin (A B : Option Addr) (capA capB : Nat) (us vs : List Vx) (i j : Int) (w : World) (hA : Verts w A us) (hB : Verts w B vs) (hlA : us.length ≤ maxLen) (hlB : vs.length ≤ maxLen) :
    Calls Try.prog 22 #[.slice A us.length capA, .slice B vs.length capB, .int .i64 i, .int .i64 j] w (VertRes w (jR us vs i j) (joinB us vs i j)) := by
  have hno : joinB us vs i j = false → ∀ w1 : World, Below w.heap.size w w1 → VertRes w (jR us vs i j) (joinB us vs i j) (.returned (.tuple #[.slice (some ⟨w1.heap.size, 0, none⟩) 0 0, .bool false])) (w1.alloc (.cells #[] 30)) := by
    intro hb w1 hbel
    exact VertRes.none (by unfold jR; rw [hb]; rfl) hb hbel
  have HNo := Lib.hid hno
  clear hno
  go_enter Try.func22, Try.ntmps22
  go_wp2_with fail
  refine (spec_PatternValid A capA us w hA hlA).mono ?_
  rintro e w1 ⟨rfl, hb1⟩
  cases hpa : patB us with
  | false =>
    have hw : joinB us vs i j = false := joinB_no (Or.inl hpa)
    have HB := Lib.hid hb1
    have HW := Lib.hid hw
    clear hpa hw hb1
    go_wp2_with fail
    go_ret2
    exact HNo.out HW.out w1 HB.out
  | true =>
  have HPA := Lib.hid hpa
  have HB1 := Lib.hid hb1
  clear hpa hb1
  go_wp2_with fail
  refine (spec_PatternValid B capB vs w1 (hB.below HB1.out) hlB).mono ?_
  rintro e w2 ⟨rfl, hb2⟩
  have HB : Hid (Below w.heap.size w w2) := HB1.out.trans (hb2.mono HB1.out.size)
  cases hpb : patB vs with
  | false =>
    have hw : joinB us vs i j = false := joinB_no (Or.inr (Or.inl hpb))
    have HW := Lib.hid hw
    clear hpb hw hb2
    go_wp2_with fail
    go_ret2
    exact HNo.out HW.out w2 HB.out
  | true =>
  have HPB := Lib.hid hpb
  clear hpb hb2 HB1
  obtain ⟨a1, a3, _, _, an0, an10⟩ := patB_parts HPA.out
  obtain ⟨b1, b3, _, _, bn0, bn10⟩ := patB_parts HPB.out
  obtain ⟨na, hna⟩ : ∃ na : Nat, ncr us = (na : Int) := ⟨(ncr us).toNat, by omega⟩
  obtain ⟨nb, hnb⟩ : ∃ nb : Nat, ncr vs = (nb : Int) := ⟨(ncr vs).toNat, by omega⟩
  have HNa := Lib.hid hna
  have HNb := Lib.hid hnb
  have hna10 : na ≤ 10 := by omega
  have hnb10 : nb ≤ 10 := by omega
  obtain ⟨ua, hua⟩ : ∃ ua, ua = useN us i := ⟨_, rfl⟩
  obtain ⟨ub, hub⟩ : ∃ ub, ub = useN vs j := ⟨_, rfl⟩
  have HUa := Lib.hid hua
  have HUb := Lib.hid hub
  clear hna hnb hua hub an0 an10 bn0 bn10
  go_wp2_with fail
  refine (spec_l6pUses A capA us i w2 (hA.below HB.out) (by omega)).mono ?_
  rintro e w' ⟨rfl, rfl⟩
  rw [← HUa.out]
  by_cases q1 : ua = 1
  · have dq1 : ((ua : Int) != 1) = false := by rw [bne_eq_false_iff_eq]; omega
    have HQ1 := Lib.hid q1
    clear q1
    go_wp2_with fail
    refine (spec_l6pUses B capB vs j w2 (hB.below HB.out) (by omega)).mono ?_
    rintro e w' ⟨rfl, rfl⟩
    rw [← HUb.out]
    by_cases q2 : ub = 1
    · have dq2 : ((ub : Int) != 1) = false := by rw [bne_eq_false_iff_eq]; omega
      have hjy := joinB_yes HPA.out HPB.out (HUa.out.symm.trans HQ1.out) (HUb.out.symm.trans q2)
      have hib : 0 ≤ i ∧ i < (na : Int) := by
        have h1 : ¬ (i < 0 ∨ ncr us ≤ i) := fun h => by
          have h2 := useN_out h (fun v hv x hx => ((pat_bd2 HPA.out v hv).2.2.2 x hx).1)
          have h3 := HUa.out
          have h4 := HQ1.out
          omega
        have := HNa.out
        omega
      have hjb : 0 ≤ j ∧ j < (nb : Int) := by
        have h1 : ¬ (j < 0 ∨ ncr vs ≤ j) := fun h => by
          have h2 := useN_out h (fun v hv x hx => ((pat_bd2 HPB.out v hv).2.2.2 x hx).1)
          have h3 := HUb.out
          omega
        have := HNb.out
        omega
      obtain ⟨hi0, hi1⟩ := hib
      obtain ⟨hj0, hj1⟩ := hjb
      have HJY := Lib.hid hjy
      clear hjy q2
      have hcA : ∀ W : World, Below w.heap.size w W → Calls Try.prog 51 #[.slice A us.length capA] W fun e w' => e = .returned (.int .i64 na) ∧ W = w' := fun W hW => by
        have h1 := spec_l6pCreases A capA us W (hA.below hW) (by omega) (fun v hv => by have := pat_bd2 HPA.out v hv; exact ⟨by omega, fun x hx => by have := this.2.2.2 x hx; omega⟩)
        rwa [HNa.out] at h1
      have hcB : ∀ W : World, Below w.heap.size w W → Calls Try.prog 51 #[.slice B vs.length capB] W fun e w' => e = .returned (.int .i64 nb) ∧ W = w' := fun W hW => by
        have h1 := spec_l6pCreases B capB vs W (hB.below hW) (by omega) (fun v hv => by have := pat_bd2 HPB.out v hv; exact ⟨by omega, fun x hx => by have := this.2.2.2 x hx; omega⟩)
        rwa [HNb.out] at h1
      have HCA := Lib.hid hcA
      have HCB := Lib.hid hcB
      have hz2 : w.heap.size ≤ w2.heap.size := HB.out.size
      obtain ⟨w3, hw3⟩ : ∃ w3, w3 = w2.alloc (.cells #[] 3) := ⟨_, rfl⟩
      have HB3 : Hid (Below w2.heap.size w2 w3) := by show Below _ _ _; rw [hw3]; exact (Below.refl _ _).alloc (Nat.le_refl _) _
      have HO3 : Hid (Own w3 w2.heap.size (.slice (some ⟨w2.heap.size, 0, none⟩) 0 0) (jNum (na : Int) i j 0)) := by show Own _ _ _ _; rw [hw3]; exact own_empty w2 (Nat.le_refl _)
      have HW3 := Lib.hid hw3
      have hnx0 : nxJ (na : Int) j 0 = (na : Int) := by unfold nxJ; split <;> omega
      have HNX0 := Lib.hid hnx0
      clear hcA hcB hw3 hnx0 HUa HUb HQ1
      go_wp2_with fail
      refine (HCA.out w2 HB.out).mono ?_
      rintro e w' ⟨rfl, rfl⟩
      go_wp2_with fail
      rw [← HW3.out]
      go_loopg [10, 11, 12] (nb + 1) (fun gg s10 s11 s12 wr => ∃ (t : Nat) (nx : Int), t ≤ nb ∧ s12 = .int .i64 t ∧ s10 = .int .i64 nx ∧ Hid (nx = nxJ (na : Int) j t) ∧ 0 ≤ nx ∧ nx ≤ 30 + t ∧ nb - t < gg ∧ Hid (Own wr w2.heap.size s11 (jNum (na : Int) i j t)) ∧ Hid (Below w2.heap.size w2 wr))
      case atStart => exact ⟨0, (na : Int), Nat.zero_le _, rfl, rfl, HNX0.out.symm, by omega, by omega, by omega, HO3, HB3⟩
      case round =>
        clear HO3 HB3 HW3 HNX0
        obtain ⟨t, nx, ht, rfl, rfl, HNx, hnx0, hnx1, hg, HO, HBk⟩ := hrel
        cases gk with
        | zero => omega
        | succ gg =>
        have hbw : Below w.heap.size w wr := HB.out.trans (HBk.out.mono hz2)
        have HBW := Lib.hid hbw
        clear hbw
        by_cases hlt : t < nb
        · have t1 : (t : Int) < (nb : Int) := by omega
          have hown := HO.out
          have hln : (jNum (na : Int) i j t).length ≤ 10 := by rw [jNum_len]; omega
          have hsz := HBk.out.size
          have hT := jNum_succ (na : Int) i j t
          by_cases htj : (t : Int) = j
          · have dj : ((t : Int) == j) = true := by rw [beq_iff_eq]; exact htj
            rw [numJ_at htj] at hT
            have HT := Lib.hid hT
            have HNx2 : Hid (nx = nxJ (na : Int) j (t + 1)) := by show _ = _; rw [nxJ_at htj]; exact HNx.out
            clear htj hT
            go_wp2_with fail
            refine (HCB.out wr HBW.out).mono ?_
            rintro e w' ⟨rfl, rfl⟩
            go_wp2_with (at_builtin; go_loud (refine wpList_push (W := wr) rfl _ _ rfl w2.heap.size _ _ i (by rfl) (by rfl) hown hsz (by omega) ?_))
            intro v' w4 hown4 hgr4 hb4
            rw [← HT.out] at hown4
            have HO4 := Lib.hid hown4
            have HB4 := Lib.hid (HBk.out.trans hb4)
            clear hown hown4 hgr4 hb4 hln HO HBk HBW
            go_wp2_with fail
            go_roundg gg
            case measure => omega
            case rel => exact ⟨t + 1, nx, by omega, by go_num, rfl, HNx2, hnx0, by omega, by omega, HO4, HB4⟩
          · have dj : ((t : Int) == j) = false := by rw [beq_eq_false_iff_ne]; exact htj
            obtain ⟨h1, h2⟩ := nxJ_no (na := (na : Int)) (i := i) htj
            rw [h2, ← HNx.out] at hT
            have HT := Lib.hid hT
            have HNx2 : Hid (nx + 1 = nxJ (na : Int) j (t + 1)) := by show _ = _; rw [h1, HNx.out]
            clear htj hT h1 h2
            go_wp2_with fail
            refine (HCB.out wr HBW.out).mono ?_
            rintro e w' ⟨rfl, rfl⟩
            go_wp2_with (at_builtin; go_loud (refine wpList_push (W := wr) rfl _ _ rfl w2.heap.size _ _ nx (by rfl) (by rfl) hown hsz (by omega) ?_))
            intro v' w4 hown4 hgr4 hb4
            rw [← HT.out] at hown4
            have HO4 := Lib.hid hown4
            have HB4 := Lib.hid (HBk.out.trans hb4)
            clear hown hown4 hgr4 hb4 hln HO HBk HBW
            go_wp2_with fail
            go_roundg gg
            case measure => omega
            case rel => exact ⟨t + 1, nx + 1, by omega, by go_num, rfl, HNx2, by omega, by omega, by omega, HO4, HB4⟩
        · obtain rfl : t = nb := by omega
          obtain ⟨nb, rfl⟩ : ∃ nb, nb = t := ⟨_, rfl⟩
          obtain ⟨wC, rfl⟩ : ∃ wC, wC = wr := ⟨_, rfl⟩
          obtain ⟨AN, cN, hVN, hNI, _, _⟩ := HO.out.form
          subst hVN
          rw [jNum_len]
          have HNI := Lib.hid hNI
          have hzC : w.heap.size ≤ wC.heap.size := HBW.out.size
          obtain ⟨w5, hw5⟩ : ∃ w5, w5 = wC.alloc (.cells #[] 30) := ⟨_, rfl⟩
          have HB5 : Hid (Below wC.heap.size wC w5) := by show Below _ _ _; rw [hw5]; exact (Below.refl _ _).alloc (Nat.le_refl _) _
          have HO5 : Hid (OwnX w5 wC.heap.size (.slice (some ⟨wC.heap.size, 0, none⟩) 0 0) 0 []) := by show OwnX _ _ _ _ _; rw [hw5]; exact World.ownsRow_lit wC #[] 0 (Nat.le_refl _) (by unfold maxLen; omega) rfl
          have HW5 := Lib.hid hw5
          have HCBw := HCB.out wC HBW.out
          have HCBW := Lib.hid HCBw
          clear hNI hw5 HO HBk HNx HCBw
          go_wp2_with fail
          refine HCBW.out.mono ?_
          rintro e w' ⟨rfl, rfl⟩
          go_wp2_with fail
          rw [← HW5.out]
          go_loopg [13, 14] (us.length + 1) (fun gg s13 s14 wr => ∃ (k : Nat) (L : List Value), k ≤ us.length ∧ s14 = .int .i64 k ∧ us.length - k < gg ∧ Hid (OwnX wr wC.heap.size s13 k L) ∧ Hid (VCell wr s13.ownBlock (us.take k) L) ∧ Hid (Below wC.heap.size wC wr))
          case atStart => exact ⟨0, [], Nat.zero_le _, rfl, by omega, HO5, VCell.nil _ _, HB5⟩
          case round =>
            clear HO5 HB5 HW5 HCBW
            obtain ⟨k, L, hk, rfl, hg, HO, HC, HBx⟩ := hrel
            cases gk with
            | zero => omega
            | succ gg =>
            obtain ⟨row, hrow⟩ : ∃ row, row = u13 := ⟨_, rfl⟩
            rw [← hrow] at HO HC ⊢
            clear hrow
            have hbx : Below w.heap.size w wr := HBW.out.trans (HBx.out.mono hzC)
            by_cases hlk : k < us.length
            · obtain ⟨b, off, A1, c1, A2, c2, rfl, hb, r1, r2, i1, l1, m1, i2, l2, m2⟩ := hA.at_ hlk
              have hvk := pat_bd2 HPA.out us[k] (List.getElem_mem hlk)
              have HTk := Lib.hid (List.take_succ_eq_append_getElem hlk)
              have hvk0 : us[k] = (us[k].1, us[k].2) := rfl
              obtain ⟨xs, hxs⟩ : ∃ xs, xs = us[k].1 := ⟨_, rfl⟩
              obtain ⟨cs, hcs⟩ : ∃ cs, cs = us[k].2 := ⟨_, rfl⟩
              rw [← hxs, ← hcs] at hvk0
              rw [← hxs] at r1 i1 l1 hvk
              rw [← hcs] at r2 i2 l2 hvk
              have hbr : b < wr.heap.size := Nat.lt_of_lt_of_le hb hbx.size
              have hbC : b < wC.heap.size := Nat.lt_of_lt_of_le hb HBW.out.size
              have CC2 := Lib.hid (show wC.cell? ⟨b, off + k * 2, none⟩ = some (.slice A1 xs.length c1) ∧ wC.cell? ⟨b, off + k * 2 + 1, none⟩ = some (.slice A2 cs.length c2) from ⟨(HBW.out.cell (p := ⟨b, off + k * 2, none⟩) hb).trans r1, (HBW.out.cell (p := ⟨b, off + k * 2 + 1, none⟩) hb).trans r2⟩)
              have r1w := (hbx.cell (p := ⟨b, off + k * 2, none⟩) hb).trans r1
              have r2w := (hbx.cell (p := ⟨b, off + k * 2 + 1, none⟩) hb).trans r2
              have HI1 := Lib.hid (i1.below hbx)
              have HI2 := Lib.hid (i2.below hbx)
              have HVK := Lib.hid hvk0
              have HL1 : xs.length ≤ 10 := by omega
              have HL0 : 2 ≤ xs.length := by omega
              have HL3 : 2 ≤ cs.length := by omega
              have HL2 : cs.length ≤ 10 := by omega
              have kk1 : (k : Int) < (us.length : Int) := by omega
              have kk0 : (0 : Int) ≤ (k : Int) := by omega
              have CC := Lib.hid (show wr.cell? ⟨b, off + k * 2, none⟩ = some (.slice A1 xs.length c1) ∧ wr.cell? ⟨b, off + k * 2 + 1, none⟩ = some (.slice A2 cs.length c2) from ⟨r1w, r2w⟩)
              clear hvk hvk0 hxs hcs r1 r2 i1 i2 hbx
              go_wp2_with fail
              have hx0 : xs ≠ [] := by intro e; rw [e] at HL0; simp at HL0
              have hy0 : cs ≠ [] := by intro e; rw [e] at HL3; simp at HL3
              have hs : ∀ W : World, Below wr.heap.size wr W → W.cell? ⟨b, off + k * 2, none⟩ = some (.slice A1 xs.length c1) ∧ W.cell? ⟨b, off + k * 2 + 1, none⟩ = some (.slice A2 cs.length c2) := fun W hW =>
                ⟨(hW.cell (p := ⟨b, off + k * 2, none⟩) hbr).trans CC.out.1, (hW.cell (p := ⟨b, off + k * 2 + 1, none⟩) hbr).trans CC.out.2⟩
              have HS := Lib.hid hs
              have hs2 : ∀ W : World, Below wC.heap.size wC W → W.cell? ⟨b, off + k * 2, none⟩ = some (.slice A1 xs.length c1) ∧ W.cell? ⟨b, off + k * 2 + 1, none⟩ = some (.slice A2 cs.length c2) := fun W hW =>
                ⟨(hW.cell (p := ⟨b, off + k * 2, none⟩) hbC).trans CC2.out.1, (hW.cell (p := ⟨b, off + k * 2 + 1, none⟩) hbC).trans CC2.out.2⟩
              have HS2 := Lib.hid hs2
              clear hs2
              have HX0 := Lib.hid hx0
              have HY0 := Lib.hid hy0
              clear hx0 hy0
              clear hs
              go_region_held3 (fun W => W.cell? ⟨b, off + k * 2, none⟩ = some (.slice A1 xs.length c1) ∧ W.cell? ⟨b, off + k * 2 + 1, none⟩ = some (.slice A2 cs.length c2)) (first | exact CC.out | exact HS2.out _ hbV | exact HS2.out _ (below_drewN hbV 1) | exact HS.out _ (hbV.alloc (by first | exact Nat.le_refl _ | (simp; done) | (simp; omega) | exact hzX | exact hzY | exact hzV) _) | exact HS.out _ (below_drewN (hbV.alloc (by first | exact Nat.le_refl _ | (simp; done) | (simp; omega) | exact hzX | exact hzY | exact hzV) _) 1) | exact HS.out _ ((hbV.alloc (by first | exact Nat.le_refl _ | (simp; done) | (simp; omega) | exact hzX | exact hzY | exact hzV) _).alloc (by first | exact Nat.le_refl _ | (simp; done) | (simp; omega) | exact hzX | exact hzY | exact hzV) _) | exact HS.out _ (below_drewN ((hbV.alloc (by first | exact Nat.le_refl _ | (simp; done) | (simp; omega) | exact hzX | exact hzY | exact hzV) _).alloc (by first | exact Nat.le_refl _ | (simp; done) | (simp; omega) | exact hzX | exact hzY | exact hzV) _) 1) | exact HS.out _ hbY | exact HS.out _ (below_drewN hbY 1) | exact HS.out _ (hbY.alloc (by first | exact Nat.le_refl _ | (simp; done) | (simp; omega) | exact hzX | exact hzY | exact hzV) _) | exact HS.out _ (below_drewN (hbY.alloc (by first | exact Nat.le_refl _ | (simp; done) | (simp; omega) | exact hzX | exact hzY | exact hzV) _) 1) | exact HS.out _ ((hbY.alloc (by first | exact Nat.le_refl _ | (simp; done) | (simp; omega) | exact hzX | exact hzY | exact hzV) _).alloc (by first | exact Nat.le_refl _ | (simp; done) | (simp; omega) | exact hzX | exact hzY | exact hzV) _) | exact HS.out _ (below_drewN ((hbY.alloc (by first | exact Nat.le_refl _ | (simp; done) | (simp; omega) | exact hzX | exact hzY | exact hzV) _).alloc (by first | exact Nat.le_refl _ | (simp; done) | (simp; omega) | exact hzX | exact hzY | exact hzV) _) 1) | exact HS.out _ hbX | exact HS.out _ (below_drewN hbX 1) | exact HS.out _ (hbX.alloc (by first | exact Nat.le_refl _ | (simp; done) | (simp; omega) | exact hzX | exact hzY | exact hzV) _) | exact HS.out _ (below_drewN (hbX.alloc (by first | exact Nat.le_refl _ | (simp; done) | (simp; omega) | exact hzX | exact hzY | exact hzV) _) 1) | exact HS.out _ ((hbX.alloc (by first | exact Nat.le_refl _ | (simp; done) | (simp; omega) | exact hzX | exact hzY | exact hzV) _).alloc (by first | exact Nat.le_refl _ | (simp; done) | (simp; omega) | exact hzX | exact hzY | exact hzV) _) | exact HS.out _ (below_drewN ((hbX.alloc (by first | exact Nat.le_refl _ | (simp; done) | (simp; omega) | exact hzX | exact hzY | exact hzV) _).alloc (by first | exact Nat.le_refl _ | (simp; done) | (simp; omega) | exact hzX | exact hzY | exact hzV) _) 1) | exact HS.out _ (Below.refl wr.heap.size wr) | exact HS.out _ (below_drewN (Below.refl wr.heap.size wr) 1) | exact HS.out _ ((Below.refl wr.heap.size wr).alloc (by first | exact Nat.le_refl _ | (simp; done) | (simp; omega) | exact hzX | exact hzY | exact hzV) _) | exact HS.out _ (below_drewN ((Below.refl wr.heap.size wr).alloc (by first | exact Nat.le_refl _ | (simp; done) | (simp; omega) | exact hzX | exact hzY | exact hzV) _) 1) | exact HS.out _ (((Below.refl wr.heap.size wr).alloc (by first | exact Nat.le_refl _ | (simp; done) | (simp; omega) | exact hzX | exact hzY | exact hzV) _).alloc (by first | exact Nat.le_refl _ | (simp; done) | (simp; omega) | exact hzX | exact hzY | exact hzV) _) | exact HS.out _ (below_drewN (((Below.refl wr.heap.size wr).alloc (by first | exact Nat.le_refl _ | (simp; done) | (simp; omega) | exact hzX | exact hzY | exact hzV) _).alloc (by first | exact Nat.le_refl _ | (simp; done) | (simp; omega) | exact hzX | exact hzY | exact hzV) _) 1))
                (first
                  | (have _z := hY.1; refine step_appV (by rfl) _ _ (by rfl) wC.heap.size _ k L _ 1 _ [.slice AX xs.length cX, .slice AY cs.length cY] (by rfl) (by rfl) (own_below2' HO.out (hbY.alloc hzY _)) rfl (fun e => by cases e) (news_pair wY _ _) (one_pair rfl rfl) (Nat.le_trans HBx.out.size (Nat.le_trans hzY (by simp))) (by omega) ?_; intro vV wV hV gV hbV' hmV _; have hbV : Below wC.heap.size wC wV := ((HBx.out.trans ((hbY.alloc hzY (.cells #[.slice AX xs.length cX, .slice AY cs.length cY] 30)).mono HBx.out.size)).trans hbV'))
                  | (have _z := hX.1; refine step_app0 (by rfl) _ _ (by rfl) _ cs _ _ (by rfl) (by rfl) (by first | exact HI2.out.below hbX | exact HI2.out.below (hbX.alloc hzX _)) HY0.out (by omega) ?_; intro vY wY hY0 hbY'; have hbY : Below wr.heap.size wr wY := (by first | exact hbX.trans (hbY'.mono hzX) | exact (hbX.alloc hzX (.cells #[] 3)).trans (hbY'.mono (Nat.le_trans hzX (by simp)))); have hzY := hbY.size; have hXY : Own wY wr.heap.size (.slice AX xs.length cX) xs := (by first | exact own_below2' hX hbY' | exact own_below2' (hX.alloc _) hbY'); have hY : Own wY wr.heap.size vY cs := (by first | exact own_below3 hY0 hzX | exact own_below3 hY0 (Nat.le_trans hzX (by simp))); obtain ⟨AY, cY, eY, _, _, _⟩ := Own.form hY; subst eY)
                  | (refine step_app0 (by rfl) _ _ (by rfl) _ xs _ _ (by rfl) (by rfl) (by first | exact HI1.out.below (below_drewN ((Below.refl wr.heap.size wr).alloc (Nat.le_refl _) (.cells #[] 3)) 1) | exact HI1.out.below (below_drewN (((Below.refl wr.heap.size wr).alloc (Nat.le_refl _) (.cells #[] 3)).alloc (by simp) (.cells #[] 3)) 1)) HX0.out (by omega) ?_; intro vX wX hX0 hbX'; have hbX : Below wr.heap.size wr wX := (by first | exact (below_drewN ((Below.refl wr.heap.size wr).alloc (Nat.le_refl _) (.cells #[] 3)) 1).trans (hbX'.mono (below_drewN ((Below.refl wr.heap.size wr).alloc (Nat.le_refl _) (.cells #[] 3)) 1).size) | exact (below_drewN (((Below.refl wr.heap.size wr).alloc (Nat.le_refl _) (.cells #[] 3)).alloc (by simp) (.cells #[] 3)) 1).trans (hbX'.mono (below_drewN (((Below.refl wr.heap.size wr).alloc (Nat.le_refl _) (.cells #[] 3)).alloc (by simp) (.cells #[] 3)) 1).size)); have hzX := hbX.size; have hX : Own wX wr.heap.size vX xs := (by first | exact own_below3 hX0 (below_drewN ((Below.refl wr.heap.size wr).alloc (Nat.le_refl _) (.cells #[] 3)) 1).size | exact own_below3 hX0 (below_drewN (((Below.refl wr.heap.size wr).alloc (Nat.le_refl _) (.cells #[] 3)).alloc (by simp) (.cells #[] 3)) 1).size); obtain ⟨AX, cX, eX, _, _, _⟩ := Own.form hX; subst eX))
              all_goals
                have hrlt : ∀ g, row.ownBlock = some g → g < wr.heap.size := fun g hg => (HO.out.lt g hg).2
                have fU : IntsF (wY.alloc (.cells #[.slice AX xs.length cX, .slice AY cs.length cY] 30)) row.ownBlock (.slice AX xs.length cX) xs := IntsF.of_new (hXY.alloc _) hrlt
                have fV : IntsF (wY.alloc (.cells #[.slice AX xs.length cX, .slice AY cs.length cY] 30)) row.ownBlock (.slice AY cs.length cY) cs := IntsF.of_new (hY.alloc _) hrlt
                have hcV := (HC.out.below (hbY.alloc hzY (.cells #[.slice AX xs.length cX, .slice AY cs.length cY] 30))).push fU fV gV hmV
                rw [← HVK.out, ← HTk.out] at hcV
                have HV9 := Lib.hid hV
                have HCV := Lib.hid hcV
                have HBV := Lib.hid hbV
                clear hV hcV hbV fU fV hrlt gV hmV hY hXY hX hbY hbX hbV' HC HO
                go_wp2_with fail
                go_roundg gg
                case measure => omega
                case rel => exact ⟨k + 1, _, by omega, by go_num, by omega, HV9, HCV, HBV⟩
            · obtain rfl : k = us.length := by omega
              have hcu := HC.out
              rw [List.take_length] at hcu
              have hco : Calls Try.prog 55 #[.slice B vs.length capB, .slice AN nb cN] wr (VRowOf wr (vs.map (renV (numJ (na : Int) i j)))) := by
                have h1 := spec_l6pOther B AN capB cN vs (jNum (na : Int) i j nb) (numJ (na : Int) i j) wr (hB.below hbx) (HNI.out.below HBx.out) (by omega) (by rw [jNum_len]; omega) (fun v hv => by
                  have h2 := pat_bd2 HPB.out v hv
                  refine ⟨by omega, by omega, fun c hc => ?_⟩
                  have h3 := h2.2.2.2 c hc
                  have h4 := HNb.out
                  exact ⟨h3.1, jNum_get (by omega)⟩)
                rwa [jNum_len] at h1
              have HCO := Lib.hid hco
              have HCU := Lib.hid hcu
              have HBX := Lib.hid hbx
              clear hcu hco hbx HC
              go_wp2_with fail
              refine HCO.out.mono ?_
              rintro e w6 ⟨v6, L6, rfl, ho6, hc6, hb6, hf6⟩
              rw [List.length_map] at ho6
              obtain ⟨g6, c6, e6, hg61, hg62⟩ := World.ownsRow.form ho6 (by omega)
              subst e6
              have hrlt : ∀ g, row.ownBlock = some g → g < wr.heap.size := fun g hg => (HO.out.lt g hg).2
              have hor : OwnX w6 wC.heap.size row us.length L := own_below2' HO.out hb6
              have hc6' : VCell w6 row.ownBlock (vs.map (renV (numJ (na : Int) i j))) L6 := by
                refine ⟨hc6.1, fun k v hk => ?_⟩
                obtain ⟨U, V, e1, e2, f1, f2⟩ := hc6.2 k v hk
                have mv : ∀ X ys, X ∈ L6 → IntsF w6 (Value.slice (some ⟨g6, 0, none⟩) vs.length c6).ownBlock X ys → IntsF w6 row.ownBlock X ys := by
                  intro X ys hm hx
                  obtain ⟨A9, c9, e9, h9, l9, m9⟩ := hx
                  refine ⟨A9, c9, e9, fun hn => ?_, l9, m9⟩
                  obtain ⟨b9, o9, q1, _, q3, q4⟩ := h9 hn
                  refine ⟨b9, o9, q1, fun e => ?_, q3, q4⟩
                  have h1 := hf6 X hm b9 (by rw [e9, q1]; rfl)
                  have h2 := hrlt b9 e.symm
                  omega
                exact ⟨U, V, e1, e2, mv _ _ (List.mem_of_getElem? e1) f1, mv _ _ (List.mem_of_getElem? e2) f2⟩
              have hcc := (HCU.out.below hb6).app hc6'
              have hnews : ∀ a, some (⟨g6, 0, none⟩ : Addr) = some a → ∀ j u, L6[j]? = some u → w6.cell? (a.add j) = some u := by
                intro a e j u hj
                cases e
                exact ho6.cells (g := g6) rfl j u hj
              have hzz : wC.heap.size ≤ w6.heap.size := Nat.le_trans HBx.out.size hb6.size
              have HHN := Lib.hid hnews
              have HON := Lib.hid hc6.one
              have HCC := Lib.hid hcc
              have HL6 := Lib.hid ho6.1
              have HB6 := Lib.hid (HBX.out.trans (hb6.mono HBX.out.size))
              clear hrlt hc6 hc6' hcc hnews ho6 hf6 HCU HO
              go_wp2_with (at_builtin; go_loud (refine wpList_appV (by rfl) _ _ (by rfl) wC.heap.size _ us.length L _ vs.length _ L6 (by rfl) (by rfl) hor HL6.out (fun e => by cases e) HHN.out HON.out hzz (by omega) ?_))
              intro v7 w7 ho7 hg7 hb7 hm7 _
              have hc7 : VCell w7 v7.ownBlock (us ++ vs.map (renV (numJ (na : Int) i j))) (L ++ L6) := HCC.out.imp fun V xs hi => hi.push hg7 hm7
              have hjl := joinL_len us vs i j
              have hje : joinL us vs i j = us ++ vs.map (renV (numJ (na : Int) i j)) := by unfold joinL; rw [HNa.out]
              rw [← hje] at hc7
              obtain ⟨A7, c7, rfl, h71, h72⟩ := ho7.form
              have hV7 : Verts w7 A7 (joinL us vs i j) := hc7.verts ho7 hjl
              have hcall : Calls Try.prog 16 #[.slice A7 (us.length + vs.length) c7] w7 fun e w' => e = .returned (.bool (patB (joinL us vs i j))) ∧ Below w7.heap.size w7 w' := by
                have := spec_PatternValid A7 c7 (joinL us vs i j) w7 hV7 (by rw [hjl]; omega)
                rwa [hjl] at this
              have HCALL := Lib.hid hcall
              have HJL := Lib.hid hjl
              have HV7 := Lib.hid hV7
              have HB7 : Hid (Below w.heap.size w w7) := HB6.out.trans (hb7.mono hzC)
              clear hc7 hje hjl hV7 hcall ho7 hg7 hb7 hm7 hor
              go_wp2_with fail
              refine HCALL.out.mono ?_
              rintro e w8 ⟨rfl, hb8⟩
              have HB8 : Hid (Below w.heap.size w w8) := HB7.out.trans (hb8.mono HB7.out.size)
              cases hpj : patB (joinL us vs i j) with
              | false =>
                have hw : joinB us vs i j = false := HJY.out.trans hpj
                have HW := Lib.hid hw
                clear hpj hw hb8
                go_wp2_with fail
                go_ret2
                exact HNo.out HW.out w8 HB8.out
              | true =>
                have hw : joinB us vs i j = true := HJY.out.trans hpj
                have hjr : jR us vs i j = joinL us vs i j := by unfold jR; rw [hw, if_pos rfl]
                have HW := Lib.hid hw
                have HJR := Lib.hid hjr
                have HV8 := Lib.hid (HV7.out.below hb8)
                clear hpj hw hjr hb8
                go_wp2_with fail
                go_ret2
                exact ⟨A7, c7, by rw [HJR.out, HW.out, HJL.out]; rfl, by rw [HJR.out]; exact HV8.out, by rw [HJR.out, HJL.out]; exact h71, h72, HB8.out⟩
    · have dq2 : ((ub : Int) != 1) = true := by rw [bne_iff_ne]; omega
      have hw : joinB us vs i j = false := joinB_no (Or.inr (Or.inr (Or.inr (by rw [← HUb.out]; exact q2))))
      have HW := Lib.hid hw
      clear hw q2
      go_wp2_with fail
      go_ret2
      exact HNo.out HW.out w2 HB.out
  · have dq1 : ((ua : Int) != 1) = true := by rw [bne_iff_ne]; omega
    have hw : joinB us vs i j = false := joinB_no (Or.inr (Or.inr (Or.inl (by rw [← HUa.out]; exact q1))))
    have HW := Lib.hid hw
    clear hw q1
    go_wp2_with fail
    go_ret2
    exact HNo.out HW.out w2 HB.out
end Go.Proofs.Ytnccpifdajcejaa
namespace Go.Proofs.Ytnccpifdajcejaa
open Go.RowKit

theorem Try.infoByte : (Try.prog.info? 5).map (fun i => (i.zero, i.size, i.bytes)) = some (some (.int .u8 0), 1, 1) := by kernel_rfl

/-- the bytes bs as values -/
def byteVals (bs : List UInt8) : List Value := bs.map fun c => Value.int .u8 (c.toNat : Int)
theorem byteVals_len (bs : List UInt8) : (byteVals bs).length = bs.length := by simp [byteVals]
/-- the bytes bs, in a row that the call itself made, from block B on -/
abbrev OwnB (w : World) (B : Nat) (v : Value) (bs : List UInt8) : Prop := w.ownsRow B 5 1 v bs.length (byteVals bs)

theorem wpList_pushB {ops : Array Oper} {rest : List Oper} {o : Oper} {a : Act} {Q : Exit → Act → World → Prop} {W : World} (hgd : o.guard = none) (s x : Operand)
    (ho : o.op = .call { callee := .builtin .append, args := #[s, x], argTypes := #[22, 22] })
    (B : Nat) (v : Value) (bs : List UInt8) (z : UInt8) (zi : Int) (hzi : (z.toNat : Int) = zi) (hs : a.eval s = v) (hx : a.eval x = .slice (some ⟨W.heap.size, 0, none⟩) 1 1) (hown : OwnB W B v bs) (hB : B ≤ W.heap.size) (hn : bs.length ≤ 1000000000000)
    (h : ∀ v' w', OwnB w' B v' (bs ++ [z]) → W.grownBy w' v.ownBlock → Below B W w' → wpList Try.prog ops Q rest (a.put o.dst v') w') :
    wpList Try.prog ops Q (o :: rest) a (W.alloc (.cells #[.int .u8 zi] 5)) := by
  subst hzi
  obtain ⟨i0, hi, hz0, hz1, hz2⟩ := info_parts Try.infoByte
  refine wpList_append_own _ hgd s x 22 ho B 5 i0 (.int .u8 0) 1 1 Try.underlying22 hi hz0 hz1 hz2 rfl (by decide) v _ _ hs (hown.alloc _) ⟨W.heap.size, 0, none⟩ 1 1 [.int .u8 (z.toNat : Int)] hx rfl ?_ ?_ ?_ ?_ ?_ ?_
  · intro j u hj
    match j, hj with
    | 0, hj => simp at hj; subst hj; simp [Addr.add]
  · intro u hu; simp at hu; subst hu; rfl
  · unfold maxLen; omega
  · omega
  · simp; omega
  · intro v' w' ho' hg _
    have hg' : W.grownBy w' v.ownBlock := ⟨hg.os, hg.tape, hg.output, Nat.le_trans (by simp) hg.size, fun k hk hne => (hg.block k (by simp; omega) hne).trans (Below.heap_alloc W _ k hk)⟩
    refine h v' w' (by simpa [OwnB, byteVals] using ho') hg' ((Below.refl _ _).grown hg' hB fun k hk => (hown.lt k hk).1)

/-- rows of different element types are different rows -/
theorem own_ne {w : World} {B B' : Nat} {e e' : TypeId} {z z' : Nat} {v v' : Value} {n n' : Nat} {xs xs' : List Value} (h : w.ownsRow B e z v n xs) (h' : w.ownsRow B' e' z' v' n' xs') (hne : e ≠ e') :
    v.ownBlock = none ∨ v.ownBlock ≠ v'.ownBlock := by
  rcases h.2 with ⟨rfl, _⟩ | ⟨g, cap, cur, rfl, _, hg, _⟩
  · exact Or.inl rfl
  · rcases h'.2 with ⟨rfl, _⟩ | ⟨g', cap', cur', rfl, _, hg', _⟩
    · exact Or.inr (by simp [Value.ownBlock])
    · refine Or.inr fun e0 => ?_
      have e1 : g = g' := by simpa [Value.ownBlock] using e0
      subst e1
      rw [hg] at hg'
      injection hg' with hg'
      injection hg' with _ ht
      exact hne ht

/-- the text that a row of bytes makes -/
theorem run_ownB_string {w : World} {B : Nat} {v : Value} {bs : List UInt8} (h : OwnB w B v bs) : (convert 22 9 v).run Try.prog w = .ok (.string ⟨bs.toArray⟩) w := by
  rcases h.2 with ⟨rfl, h0⟩ | ⟨g, cap, cur, rfl, hb, hg, hnc, hcm, _, htake⟩
  · have : bs = [] := List.eq_nil_of_length_eq_zero h0
    subst this
    rw [run_convert_bytes_nil w 22 5 Try.underlying22 Try.underlying5 0 0 9 Try.underlying9]
    rfl
  · refine run_convert_bytes_back w 22 9 5 ⟨g, 0, none⟩ cap bs Try.underlying22 Try.underlying5 Try.underlying9 fun j hj => ?_
    have := h.cells (g := g) rfl j (.int .u8 (bs[j].toNat : Int)) (by simp [byteVals, hj])
    exact this

end Go.Proofs.Ytnccpifdajcejaa
namespace Go.Proofs.Ytnccpifdajcejaa
open Go.RowKit

def angTo (x : Nat → Int) (k : Nat) : List Int := (List.range k).map x
def folTo (f : Nat → Nat) (k : Nat) : List UInt8 := (List.range k).map fun i => UInt8.ofNat (f i)
theorem angTo_succ (x : Nat → Int) (k : Nat) : angTo x (k + 1) = angTo x k ++ [x k] := by simp [angTo, List.range_succ]
theorem folTo_succ (f : Nat → Nat) (k : Nat) : folTo f (k + 1) = folTo f k ++ [UInt8.ofNat (f k)] := by simp [folTo, List.range_succ]
theorem angTo_len (x : Nat → Int) (k : Nat) : (angTo x k).length = k := by simp [angTo]
theorem folTo_len (f : Nat → Nat) (k : Nat) : (folTo f k).length = k := by simp [folTo]
theorem angleAt_angTo (x : Nat → Int) {n k : Nat} (h : k < n) : angleAt (angTo x n) k = x k := by
  simp [angleAt, angTo, List.getD_eq_getElem?_getD, h]
theorem byteAt_folTo (f : Nat → Nat) {n k : Nat} (h : k < n) (hf : f k < 256) : byteAt ⟨(folTo f n).toArray⟩ k = f k := by
  simp [byteAt, folTo, List.getD_eq_getElem?_getD, h]
  omega


end Go.Proofs.Ytnccpifdajcejaa
