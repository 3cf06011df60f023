/- The law on patterns with one inner crease: the walk of the law itself. No condition but sizes. -/
import Derived.Test.YtnccpifdajcejaaDrawQ
import Derived.Test.YtnccpifdajcejaaPatL
import Derived.Test.YtnccpifdajcejaaFnPatternInnerP46
import Derived.Test.YtnccpifdajcejaaFnPatternInnerP48
import Derived.Test.YtnccpifdajcejaaFnPatternInnerP52
namespace Go.Proofs.Ytnccpifdajcejaa
open Go.RowKit

theorem cntF_le2 (n : Nat) (P : (Nat → UInt8) → Bool) : cntF n P ≤ 2 ^ n := by
  induction n generalizing P with
  | zero => rw [cntF]; split <;> omega
  | succ n ih =>
    rw [cntF, Nat.pow_succ]
    have := ih (fun s => P (upd s n 77))
    have := ih (fun s => P (upd s n 86))
    omega
theorem pm_bd2 {vs : List Vx} (hp : patB vs = true) : 0 ≤ pmI vs ∧ pmI vs ≤ 1024 := by
  obtain ⟨n, hn, hn10, _⟩ := pat_num hp
  rw [pm_cnt hp hn]
  have h1 := cntF_le2 n (aA vs)
  have h2 : 2 ^ n ≤ 1024 := pow_le_1024 hn10
  omega
/-- what stays through the loops -/
def InSt (w w5 wr : World) (g cap : Nat) (vs : List Vx) (L : List Value) (n bo oo : Nat) (o : List Int) : Prop :=
  Below w.heap.size w wr ∧ CopyV wr w5.heap.size g cap vs L n ∧ Ints wr (some ⟨bo, oo, none⟩) o ∧ Below w5.heap.size w5 wr
theorem InSt.below {w w5 wr w' : World} {g cap n bo oo : Nat} {vs : List Vx} {L : List Value} {o : List Int} (h : InSt w w5 wr g cap vs L n bo oo o) (hb : Below wr.heap.size wr w') : InSt w w5 w' g cap vs L n bo oo o :=
  ⟨below_from h.1 hb h.1.size, h.2.1.below hb, h.2.2.1.below hb, below_from h.2.2.2 hb h.2.2.2.size⟩
set_option maxHeartbeats 4000000 in
set_option maxRecDepth 100000 in
theorem law_FnPatternInner (A : Option Addr) (cap : Nat) (bs : List UInt8) (w : World) (h : Codes w w.heap.size A bs) (hcap : bs.length ≤ cap) (hcm : cap ≤ maxLen) :
    Calls Try.prog 5 #[.slice A bs.length cap] w fun e w' => e = .returned (.bool true) ∧ Below w.heap.size w w' := by
  have hlm : bs.length ≤ maxLen := Nat.le_trans hcap hcm
  have hlm2 := hlm
  unfold maxLen at hlm2
  by_cases g1 : 1048576 < bs.length
  · have d1 : decide ((1048576 : Int) < (bs.length : Int)) = true := by simp; omega
    go_enter Try.func5, Try.ntmps5
    go_wp2_with fail
    go_ret
    exact ⟨rfl, Below.refl _ _⟩
  · have d1 : decide ((1048576 : Int) < (bs.length : Int)) = false := by simp; omega
    go_enter Try.func5, Try.ntmps5
    go_wp2_with fail
    refine (spec_DrawPatternInner w A cap bs h (by omega) hcap hcm).mono ?_
    rintro e w1 ⟨B, vs, c, rfl, hV, hl2, hlc, hcm2, hlen, hb1⟩
    have hvm : vs.length ≤ maxLen := by unfold maxLen; omega
    obtain ⟨o, ho⟩ : ∃ o, o = innerL vs := ⟨_, rfl⟩
    have hol : o.length ≤ 10 := by rw [ho]; exact innerL_len vs
    have hom : o.length ≤ maxLen := by unfold maxLen; omega
    have HO := Lib.hid ho
    have HV1 := Lib.hid hV
    have HB1 := Lib.hid hb1
    have HLen := Lib.hid hlen
    clear ho hV hb1 hlen
    go_wp2_with fail
    refine (impl_PatternInner B c vs w1 HV1.out hvm).mono ?_
    rintro e w2 ⟨v2, rfl, hown2, hb2⟩
    rw [← HO.out] at hown2
    obtain ⟨AO, cO, rfl, hI2, _, _⟩ := hown2.form
    have HI2 := Lib.hid hI2
    have HV2 := Lib.hid (HV1.out.below hb2)
    have HB2 := Lib.hid (below_from HB1.out hb2 HB1.out.size)
    clear hown2 hI2 hb2 HV1 HB1
    go_wp2_with fail
    refine (spec_PatternInner B c vs w2 HV2.out hvm).mono ?_
    rintro e w3 ⟨v3, rfl, hown3, hb3⟩
    rw [← HO.out] at hown3
    obtain ⟨AW, cW, rfl, hI3, _, _⟩ := hown3.form
    have HI3 := Lib.hid (HI2.out.below hb3)
    have HJ3 := Lib.hid hI3
    have HV3 := Lib.hid (HV2.out.below hb3)
    have HB3 := Lib.hid (below_from HB2.out hb3 HB2.out.size)
    clear hown3 hI3 hb3 HV2 HB2 HI2
    go_wp2_with fail
    refine (laws_sameInts AO AW cO cW o o w3 HI3.out HJ3.out hom hom).mono ?_
    rintro e _ ⟨rfl, m3, rfl⟩
    obtain ⟨w4, hw4⟩ : ∃ w4, w4 = w3.drewN m3 := ⟨_, rfl⟩
    rw [← hw4]
    have hb4 : Below w3.heap.size w3 w4 := by rw [hw4]; exact below_drewN (Below.refl _ _) _
    have HI4 := Lib.hid (HI3.out.below hb4)
    have HJ4 := Lib.hid (HJ3.out.below hb4)
    have HV4 := Lib.hid (HV3.out.below hb4)
    have HB4 := Lib.hid (below_from HB3.out hb4 HB3.out.size)
    clear hw4 hb4 HI3 HJ3 HV3 HB3
    by_cases h0 : o = []
    · have d2 : ((o.length : Int) == 0) = true := by rw [h0]; rfl
      clear h0
      go_wp2_with fail
      refine (laws_sameInts AO AW cO cW o o w4 HI4.out HJ4.out hom hom).mono ?_
      rintro e _ ⟨rfl, m5, rfl⟩
      have b5 := below_from HB4.out (below_drewN (Below.refl w4.heap.size w4) m5) HB4.out.size
      go_wp2_with fail
      go_ret
      exact ⟨rfl, b5⟩
    · have hol1 : 1 ≤ o.length := List.length_pos_iff.2 h0
      have d2 : ((o.length : Int) == 0) = false := by rw [beq_eq_false_iff_ne]; omega
      have hp : patB vs = true := inner_pat (by rw [← HO.out]; exact h0)
      obtain ⟨n, hn, hn10, hpc⟩ := pat_num hp
      have hon : o.length ≤ n := by
        rw [HO.out]; unfold innerL
        rw [hp, if_pos rfl, hn, Int.toNat_natCast]; exact innerTo_len vs n
      have hv1 : 1 ≤ vs.length := (patB_parts hp).1
      have HP := Lib.hid hp
      have HN := Lib.hid hn
      have HPC := Lib.hid hpc
      clear h0 hp hn hpc HJ4
      go_wp2_with fail
      refine (impl_PatternCreases B c vs w4 HV4.out hvm).mono ?_
      rintro e w5 ⟨rfl, hb5⟩
      rw [HPC.out]
      have HI5 := Lib.hid (HI4.out.below hb5)
      have HV5 := Lib.hid (HV4.out.below hb5)
      have HB5 := Lib.hid (below_from HB4.out hb5 HB4.out.size)
      clear hb5 HI4 HV4 HB4 HPC
      have dle : decide ((o.length : Int) ≤ (n : Int)) = true := by simp; omega
      by_cases hn1 : n = 10
      · have dn : ((n : Int) == 10) = true := by rw [beq_iff_eq]; omega
        clear hn1
        go_wp2_with fail
        go_ret
        exact ⟨rfl, HB5.out⟩
      · have dn : ((n : Int) == 10) = false := by rw [beq_eq_false_iff_ne]; omega
        by_cases ho1 : 1 < o.length
        · have do1 : decide ((1 : Int) < (o.length : Int)) = true := by simp; omega
          clear ho1
          go_wp2_with fail
          go_ret
          exact ⟨rfl, HB5.out⟩
        · have do1 : decide ((1 : Int) < (o.length : Int)) = false := by simp; omega
          obtain ⟨x, hx⟩ : ∃ x, o = [x] := List.length_eq_one_iff.1 (by omega)
          obtain ⟨bo, oo, rfl, hbo, hco⟩ := HI5.out (by rw [hx]; simp)
          have hxo : innerL vs = [x] := by rw [← HO.out, hx]
          obtain ⟨b, off, _, _, _, _, rfl, hb, _, _, _, _, _, _, _, _⟩ := HV5.out.at_ (show 0 < vs.length from hv1)
          obtain ⟨L1, hL1, hc1⟩ := HV5.out.cells (some w5.heap.size) (fun g e => by cases e; exact Nat.le_refl _)
          have n1 : ∀ W : World, Below w5.heap.size w5 W → ∀ a, some (⟨b, off, none⟩ : Addr) = some a → ∀ j u, L1[j]? = some u → W.cell? (a.add j) = some u := by
            intro W hW a e j u hj
            cases e
            rw [Addr.add_lit]
            exact (hW.cell (p := ⟨b, off + j, none⟩) hb).trans (hc1 j u hj)
          have HN1 := Lib.hid n1
          have HS1 := Lib.hid hL1.1
          have HO1 := Lib.hid hL1.one
          have HL1 := Lib.hid hL1
          have HX := Lib.hid hx
          have HXO := Lib.hid hxo
          have hn9 : n < 10 := by omega
          clear hL1 hc1 n1 hx hxo ho1 hn1 hco hbo
          go_wp2_with (at_builtin; go_loud (refine wpList_appV (by rfl) _ _ (by rfl) w5.heap.size _ 0 [] _ vs.length _ L1 (by rfl) (by rfl) (World.ownsRow_lit w5 #[] 0 (Nat.le_refl _) (by unfold maxLen; omega) rfl) HS1.out (fun e => by cases e) (HN1.out _ ((Below.refl _ _).alloc (Nat.le_refl _) _)) HO1.out (Nat.le_of_lt (by simp)) (by omega) ?_))
          intro vX wX hX hgX hbX' hmX hrX
          have hbX : Below w5.heap.size w5 wX := ((Below.refl _ _).alloc (Nat.le_refl _) _).trans hbX'
          have hX2 : OwnX wX w5.heap.size vX vs.length L1 := by simpa using hX
          obtain ⟨g, cX, rfl, hgX1, hgX2, hcpy⟩ := copy_made hX2 HL1.out rfl hv1 hbX
          have hst : InSt w w5 wX g cX vs L1 vs.length bo oo o := ⟨below_from HB5.out hbX HB5.out.size, hcpy, HI5.out.below hbX, hbX⟩
          have HST := Lib.hid hst
          clear hX hgX hbX' hmX hrX hbX hX2 hcpy hst HI5 HN1 HS1 HO1 HL1 hb
          go_wp2_with fail
          go_loopg [8, 9] (vs.length + 1) (fun gg s8 s9 wr => ∃ (i : Nat), s9 = s9 ∧ i ≤ vs.length ∧ s8 = .int .i64 i ∧ vs.length - i < gg ∧ Hid (∀ j, j < i → ∀ hj : j < vs.length, x ∉ vs[j].2) ∧ Hid (InSt w w5 wr g cX vs L1 vs.length bo oo o))
          case atStart => exact ⟨0, rfl, Nat.zero_le _, rfl, by omega, fun j hj => by omega, HST⟩
          case round =>
            clear HST
            obtain ⟨i, _, hi, rfl, hg, HNo, HS⟩ := hrel
            cases gk with
            | zero => omega
            | succ g1 =>
            by_cases hlt : i < vs.length
            · have i1 : (i : Int) < (vs.length : Int) := by omega
              have i0 : (0 : Int) ≤ (i : Int) := by omega
              obtain ⟨cs, hcs⟩ : ∃ cs, cs = vs[i].2 := ⟨_, rfl⟩
              have hcl : cs.length ≤ 10 := by
                have := (HLen.out vs[i] (List.getElem_mem hlt)).2
                rw [hcs]; omega
              have HCS := Lib.hid hcs
              clear hcs
              go_wp2_with fail
              go_loopg [9] (cs.length + 1) (fun gg s9 wr => ∃ (k : Nat), k ≤ cs.length ∧ s9 = .int .i64 k ∧ cs.length - k < gg ∧ Hid (∀ j, j < k → ∀ hj : j < cs.length, cs[j] ≠ x) ∧ Hid (InSt w w5 wr g cX vs L1 vs.length bo oo o))
              case atStart => exact ⟨0, Nat.zero_le _, rfl, by omega, fun j hj => by omega, HS⟩
              case round =>
                clear HS
                obtain ⟨k, hk, rfl, hg2, HNk, HS⟩ := hrel
                cases gk with
                | zero => omega
                | succ g2 =>
                obtain ⟨A1, c1, A2, c2, r1, r2, j1, j2, hI, hJ, f1, f2⟩ := HS.out.2.1.at_ hlt
                have hcs := HCS.out
                rw [← hcs] at r2 j2 hI
                by_cases hkl : k < cs.length
                · obtain ⟨b2, off2, rfl, hb2, hc2⟩ := hI (by intro e; rw [e] at hkl; simp at hkl)
                  have r3 := hc2 k cs[k] (List.getElem?_eq_getElem hkl)
                  obtain ⟨bo', oo', eo, hbo, hco⟩ := HS.out.2.2.1 (by rw [HX.out]; simp)
                  cases eo
                  have r4 := hco 0 x (by rw [HX.out]; rfl)
                  rw [Nat.add_zero] at r4
                  have k1 : (k : Int) < (cs.length : Int) := by omega
                  have k0 : (0 : Int) ≤ (k : Int) := by omega
                  have o1 : (0 : Int) < (o.length : Int) := by omega
                  obtain ⟨y, hy⟩ : ∃ y, y = cs[k] := ⟨_, rfl⟩
                  rw [← hy] at r3
                  by_cases hyx : y = x
                  · have dy : (y == x) = true := by rw [beq_iff_eq]; exact hyx
                    have HY := Lib.hid (show cs[k] = x by rw [← hy, hyx])
                    have hIc : Ints wr (some ⟨b2, off2, none⟩) cs := hI
                    have CC := Lib.hid (show wr.cell? ⟨g, i * 2, none⟩ = some (.slice A1 vs[i].1.length c1) ∧ wr.cell? ⟨g, i * 2 + 1, none⟩ = some (.slice (some ⟨b2, off2, none⟩) cs.length c2) from ⟨r1, r2⟩)
                    have HIC := Lib.hid hIc
                    have HJ1 := Lib.hid j1
                    clear hyx hy hcs hc2 hco hIc hI hJ j1 j2 f1 f2 hb2 hbo
                    go_wp2_with fail
                    go_quiet (fail)
                    have hbd : Below wr.heap.size wr (wr.drewN nq) := below_drewN (Below.refl _ _) nq
                    obtain ⟨wd, hwd⟩ : ∃ wd, wd = wr.drewN nq := ⟨_, rfl⟩
                    rw [← hwd] at hbd ⊢
                    have HSd := Lib.hid (HS.out.below hbd)
                    have hci := HIC.out.below hbd
                    have hba : Below wd.heap.size wd (wd.alloc (.cells #[] 3)) := (Below.refl _ _).alloc (Nat.le_refl _) _
                    have hgl : g < wd.heap.size := HSd.out.2.1.lt.2
                    have e1 : (wd.alloc (.cells #[] 3)).cell? ⟨g, i * 2 + 1, none⟩ = some (.slice (some ⟨b2, off2, none⟩) cs.length c2) := (hba.cell (p := ⟨g, i * 2 + 1, none⟩) hgl).trans ((hbd.cell (p := ⟨g, i * 2 + 1, none⟩) HS.out.2.1.lt.2).trans CC.out.2)
                    have HIA := Lib.hid (hci.below hba)
                    have HEM := Lib.hid (own_empty wd (B := wd.heap.size) (Nat.le_refl _))
                    clear hbd hwd hci r1 r2 r3 r4 CC HS HIC HJ1
                    go_wp2_with (at_builtin; go_loud (refine wpList_app (by rfl) _ _ (by rfl) wd.heap.size _ [] cs _ _ (by rfl) cs.length rfl (by rfl) HEM.out HIA.out (Nat.le_of_lt (by simp)) (by simp; omega) ?_))
                    intro vY wY hownY hgrY hbY
                    obtain ⟨gy, cY, rfl, hgy1, hgy2, hcY1, hcY2⟩ := own_addr hownY (by omega)
                    have hbdy : Below wd.heap.size wd wY := hba.trans hbY
                    have HSY := HSd.out.below hbdy
                    obtain ⟨oc, of⟩ := own_cell hownY hkl
                    obtain ⟨os1, os2⟩ := own_set hownY k (n : Int)
                    obtain ⟨wZ, hwZ⟩ : ∃ wZ, wZ = wY.setCell ⟨gy, k, none⟩ (.int .i64 (n : Int)) := ⟨_, rfl⟩
                    rw [← hwZ] at os1 os2
                    have hbdz : Below wd.heap.size wd wZ := hbdy.trans os2
                    have HSZ := HSd.out.below hbdz
                    have hgne : gy ≠ g := by omega
                    obtain ⟨A1', c1', A2', c2', q1, q2, hjz, _, _, _, f1, f2⟩ := HSZ.2.1.at_ hlt
                    obtain ⟨st1, st2⟩ := HSZ.2.1.store hlt (U := .slice A1' vs[i].1.length c1') (V := .slice (some ⟨gy, 0, none⟩) cs.length cY) hjz (IntsF.of_own os1 (Or.inr (by show some gy ≠ some g; intro e; exact hgne (Option.some.inj e))))
                    obtain ⟨wE, hwE⟩ : ∃ wE, wE = (wZ.setCell ⟨g, i * 2, none⟩ (.slice A1' vs[i].1.length c1')).setCell ⟨g, i * 2 + 1, none⟩ (.slice (some ⟨gy, 0, none⟩) cs.length cY) := ⟨_, rfl⟩
                    rw [← hwE] at st1 st2
                    have hbE : Below w5.heap.size w5 wE := HSZ.2.2.2.trans st2
                    have hps := pm_set2 HP.out HN.out HXO.out hn9 hlt HCS.out hkl HY.out
                    obtain ⟨P, hP⟩ : ∃ P, P = pmI vs := ⟨_, rfl⟩
                    have hpb := pm_bd2 HP.out
                    rw [← hP] at hps hpb
                    have hm1 := impl_PatternMany (some ⟨g, 0, none⟩) cX (vs.set i (vs[i].1, cs.set k (n : Int))) wE st1.verts (by rw [List.length_set]; exact hvm) (by rw [List.length_set]; exact hgX1) hgX2
                    rw [List.length_set, hps] at hm1
                    have hm2 : ∀ W : World, Below w5.heap.size w5 W → Calls Try.prog 28 #[.slice (some ⟨b, off, none⟩) vs.length c] W fun e w' => e = .returned (.int .i64 P) ∧ Below W.heap.size W w' := fun W hW => by
                      rw [hP]; exact impl_PatternMany (some ⟨b, off, none⟩) c vs W (HV5.out.below hW) hvm hlc hcm2
                    have HM1 := Lib.hid hm1
                    have HM2 := Lib.hid hm2
                    have HBE := Lib.hid hbE
                    have HwZ := Lib.hid hwZ
                    have HwE := Lib.hid hwE
                    have kw : IntKind.i64.wrap (2 * P) = 2 * P := IntWalk.i64_in _ (by omega)
                    have dP : ((2 * P : Int) == 2 * P) = true := by simp
                    have j1' : (k : Int) < (cs.length : Int) := by omega
                    clear hm1 hm2 hbE hwZ hwE hps hP st1 st2 os1 os2 hjz HSZ HSY hbdy hbdz hownY hgrY hbY hba e1 HSd HIA HEM HNo HNk
                    go_upto_region 21 with (fail)
                    rw [← HwZ.out]
                    go_wp2_with fail
                    rw [← HwE.out]
                    refine HM1.out.mono ?_
                    rintro e w7 ⟨rfl, hb7⟩
                    have HB7 := Lib.hid (below_from HBE.out hb7 HBE.out.size)
                    clear hb7 HM1
                    go_wp2_with fail
                    refine (HM2.out w7 HB7.out).mono ?_
                    rintro e w8 ⟨rfl, hb8⟩
                    have b8 := HB5.out.trans ((below_from HB7.out hb8 HB7.out.size).mono HB5.out.size)
                    clear hb8
                    go_wp2_with fail
                    go_ret
                    exact ⟨rfl, b8⟩
                  · have dy : (y == x) = false := by rw [beq_eq_false_iff_ne]; exact hyx
                    have HNk2 : Hid (∀ j, j < k + 1 → ∀ hj : j < cs.length, cs[j] ≠ x) := fun j hj hj2 => by
                      by_cases e : j = k
                      · subst e; rw [← hy]; exact hyx
                      · exact HNk.out j (by omega) hj2
                    clear hyx hy hcs hc2 hco hI hJ j1 j2 f1 f2 hb2 hbo
                    go_wp2_with fail
                    go_quiet (fail)
                    go_wp2_with fail
                    go_roundg g2
                    case measure => omega
                    case rel => exact ⟨k + 1, by omega, by go_num, by omega, HNk2, Lib.hid (HS.out.below (below_drewN (Below.refl _ _) _))⟩
                · have hkc : ¬ ((k : Int) < (cs.length : Int)) := by omega
                  have dk : decide ((k : Int) < (cs.length : Int)) = false := by simp; omega
                  have HNo2 : Hid (∀ j, j < i + 1 → ∀ hj : j < vs.length, x ∉ vs[j].2) := fun j hj hj2 => by
                    by_cases e : j = i
                    · subst e
                      intro hm
                      rw [← HCS.out] at hm
                      obtain ⟨q, hq, e2⟩ := List.getElem_of_mem hm
                      exact HNk.out q (by omega) hq e2
                    · exact HNo.out j (by omega) hj2
                  clear hcs hI hJ j1 j2 f1 f2 hkc
                  go_wp2_with fail
                  go_roundg g1
                  case measure => omega
                  case rel => exact ⟨i + 1, trivial, by omega, by go_num, by omega, HNo2, HS⟩
            · exfalso
              obtain ⟨v, hv, hxv⟩ := inner_some HP.out HXO.out
              obtain ⟨j, hj, e⟩ := List.getElem_of_mem hv
              exact HNo.out j (by omega) hj (by rw [e]; exact hxv)
end Go.Proofs.Ytnccpifdajcejaa
