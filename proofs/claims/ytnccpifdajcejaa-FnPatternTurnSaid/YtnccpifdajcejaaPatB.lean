/- The reference's PatternValid and PatternCreases. No condition but sizes. -/
import Derived.Test.YtnccpifdajcejaaPatA
namespace Go.Proofs.Ytnccpifdajcejaa
open Go.RowKit

theorem vtxB_bd {v : Vx} (h : vtxB v = true) : acB v.1 = true ∧ v.2.length = v.1.length ∧ v.2.length ≤ 10 ∧ 2 ≤ v.2.length ∧ ∀ x ∈ v.2, 0 ≤ x ∧ x ≤ 9 := by
  unfold vtxB at h
  simp only [Bool.and_eq_true, decide_eq_true_eq] at h
  obtain ⟨⟨h1, h2⟩, h3⟩ := h
  have ha := h1
  unfold acB at ha
  simp only [Bool.and_eq_true] at ha
  have hp := avB_parts ha.1
  exact ⟨h1, h2, by omega, by omega, ((crB_iff _).1 h3).1⟩

set_option maxHeartbeats 2000000 in
theorem spec_l6pVertex (A1 A2 : Option Addr) (c1 c2 : Nat) (xs cs : List Int) (w : World) (h1 : Ints w A1 xs) (h2 : Ints w A2 cs) (l1 : xs.length ≤ c1) (m1 : c1 ≤ maxLen) (l2 : cs.length ≤ c2) (m2 : c2 ≤ maxLen) :
    Calls Try.prog 50 #[.agg #[.slice A1 xs.length c1, .slice A2 cs.length c2]] w fun e w' => e = .returned (.bool (vtxB (xs, cs))) ∧ Below w.heap.size w w' := by
  obtain ⟨w1, hw1⟩ : ∃ w1, w1 = w.alloc (.cells #[.slice A1 xs.length c1, .slice A2 cs.length c2] 30) := ⟨_, rfl⟩
  have hb1 : Below w.heap.size w w1 := by rw [hw1]; exact (Below.refl _ _).alloc (Nat.le_refl _) _
  have hblk : Blk w1 w.heap.size 30 #[.slice A1 xs.length c1, .slice A2 cs.length c2] := by rw [hw1]; exact Blk.new w _ _
  have e0 := hblk.cell 0
  have e1 := hblk.cell 1
  have HB := Lib.hid hb1
  have I1 := Lib.hid (h1.below hb1)
  have I2 := Lib.hid (h2.below hb1)
  unfold maxLen at m1 m2
  go_enter Try.func50, Try.ntmps50
  go_wp2_with fail
  rw [← hw1]
  clear hw1 hb1 hblk h1 h2
  go_wp2_with fail
  refine (spec_AnglesCloses A1 c1 xs w1 I1.out (by unfold maxLen; omega)).mono ?_
  rintro e w' ⟨rfl, rfl⟩
  cases ha : acB xs with
  | false =>
    have hfin : vtxB (xs, cs) = false := by unfold vtxB; rw [ha]; rfl
    have HF := Lib.hid hfin
    clear ha hfin
    go_wp2_with fail
    go_ret
    exact ⟨ret_bool HF.out.symm, HB.out⟩
  | true =>
    by_cases hl : cs.length = xs.length
    · have dl : ((cs.length : Int) != (xs.length : Int)) = false := by rw [bne_eq_false_iff_eq]; omega
      have hl10 : cs.length ≤ 10 := by
        unfold acB at ha
        simp only [Bool.and_eq_true] at ha
        have := avB_parts ha.1
        omega
      have hfin : vtxB (xs, cs) = crB cs := by unfold vtxB; rw [ha]; simp [hl]
      have HF := Lib.hid hfin
      clear ha hfin hl
      go_wp2_with fail
      go_loopg [3] (cs.length + 1) (fun g s3 wr => ∃ (i : Nat), i ≤ cs.length ∧ s3 = .int .i64 i ∧ cs.length - i < g ∧ Hid (∃ m, w1.drewN m = wr) ∧ Hid (crGo (cs.take i) (cs.drop i) = crB cs))
      case atStart => exact ⟨0, Nat.zero_le _, rfl, by omega, ⟨0, rfl⟩, rfl⟩
      case round =>
        obtain ⟨i, hi, rfl, hg, HW, HC⟩ := hrel
        have e1w : wr.cell? ⟨w.heap.size, 1, none⟩ = some (.slice A2 cs.length c2) := by
          obtain ⟨m, hm⟩ := HW.out
          rw [← hm]; exact e1
        have I2w : Ints wr A2 cs := by
          obtain ⟨m, hm⟩ := HW.out
          rw [← hm]; exact I2.out
        have HBw : Hid (Below w.heap.size w wr) := by
          obtain ⟨m, hm⟩ := HW.out
          rw [← hm]; exact below_drewN HB.out m
        have hdn : ∀ n, Hid (∃ m, w1.drewN m = wr.drewN n) := fun n => by
          obtain ⟨m, hm⟩ := HW.out
          exact ⟨m + n, by rw [← hm, World.drewN_drewN]⟩
        have HDN := Lib.hid hdn
        have I2' := Lib.hid I2w
        clear I2w hdn
        cases gk with
        | zero => omega
        | succ g =>
        by_cases hlt : i < cs.length
        · obtain ⟨b, off, y, rfl, hbw, HX, hcy, hym⟩ := I2'.out.at_ hlt
          have hgo : crGo (cs.take i) (y :: cs.drop (i + 1)) = crB cs := by rw [← HX.out]; exact HC.out
          have hcut : Ints wr (some ⟨b, off, none⟩) (cs.take i) := by have := I2'.out.cut 0 i; simpa using this
          have htl : (cs.take i).length = i := by rw [List.length_take]; omega
          have j1 : (i : Int) < (cs.length : Int) := by omega
          have j0 : (0 : Int) ≤ (i : Int) := by omega
          have j2 : (i : Int) ≤ (c2 : Int) := by omega
          by_cases hin : 0 ≤ y ∧ y ≤ 9
          · have hq : ∀ W : World, Calls Try.prog 49 #[.int .i64 y, .int .i64 0, .int .i64 9] W fun e w' => e = .returned (.bool true) ∧ W = w' := fun W => by
              have := spec_l6In y 0 9 W
              rwa [inB_yes hin.1 hin.2] at this
            have HQ := Lib.hid hq
            have g1 : ¬ y < 0 := by omega
            have g2 : ¬ 9 < y := by omega
            by_cases ym : y ∈ cs.take i
            · have hh : ∀ n : Nat, Calls Try.prog 75 #[.slice (some ⟨b, off, none⟩) i c2, .int .i64 y] (wr.drewN n) fun e w' => e = .returned (.bool true) ∧ wr.drewN n = w' := fun n => by
                have := spec_l2Has (some ⟨b, off, none⟩) c2 (cs.take i) y (wr.drewN n) hcut (by unfold maxLen; omega)
                rwa [htl, decide_eq_true ym] at this
              have HH := Lib.hid hh
              have hfin : crB cs = false := by rw [← hgo, crGo, if_neg g1, if_neg g2, if_pos ym]
              have HFin := Lib.hid hfin
              clear hq hh hfin ym hgo hcut htl hym hin
              go_wp2_with fail
              go_quiet ((first | (go_at_call 49; exact quietl (HQ.out _)) | (go_at_call 75; exact quietl (HH.out _))))
              go_wp2_with fail
              go_ret
              exact ⟨ret_bool (by rw [HF.out, HFin.out]), below_drewN HBw.out _⟩
            · have hh : ∀ n : Nat, Calls Try.prog 75 #[.slice (some ⟨b, off, none⟩) i c2, .int .i64 y] (wr.drewN n) fun e w' => e = .returned (.bool false) ∧ wr.drewN n = w' := fun n => by
                have := spec_l2Has (some ⟨b, off, none⟩) c2 (cs.take i) y (wr.drewN n) hcut (by unfold maxLen; omega)
                rwa [htl, decide_eq_false ym] at this
              have HH := Lib.hid hh
              have hcg : crGo (cs.take (i + 1)) (cs.drop (i + 1)) = crB cs := by
                have htk : cs.take (i + 1) = cs.take i ++ [y] := by
                  rw [List.take_succ_eq_append_getElem hlt]
                  congr 2
                  have h3 := List.drop_eq_getElem_cons hlt
                  rw [HX.out] at h3
                  injection h3 with h3
                  exact h3.symm
                rw [htk, ← hgo, crGo, if_neg g1, if_neg g2, if_neg ym]
              have HCG := Lib.hid hcg
              clear hq hh hcg ym hgo hcut htl hym hin
              go_wp2_with fail
              go_quiet ((first | (go_at_call 49; exact quietl (HQ.out _)) | (go_at_call 75; exact quietl (HH.out _))))
              go_wp2_with fail
              go_roundg g
              case measure => omega
              case rel => exact ⟨i + 1, by omega, by go_num, by omega, HDN.out _, HCG⟩
          · have hin2 : inB y 0 9 = false := by
              unfold inB
              rw [Bool.and_eq_false_iff, decide_eq_false_iff_not, decide_eq_false_iff_not]
              omega
            have hq : ∀ W : World, Calls Try.prog 49 #[.int .i64 y, .int .i64 0, .int .i64 9] W fun e w' => e = .returned (.bool false) ∧ W = w' := fun W => by
              have := spec_l6In y 0 9 W
              rwa [hin2] at this
            have HQ := Lib.hid hq
            have hfin : crB cs = false := by
              rw [← hgo, crGo]
              by_cases g1 : y < 0
              · rw [if_pos g1]
              · rw [if_neg g1, if_pos (by omega)]
            have HFin := Lib.hid hfin
            clear hq hfin hgo hcut htl hym hin hin2
            go_wp2_with fail
            go_quiet ((first | (go_at_call 49; exact quietl (HQ.out _))))
            go_wp2_with fail
            go_ret
            exact ⟨ret_bool (by rw [HF.out, HFin.out]), below_drewN HBw.out _⟩
        · obtain rfl : i = cs.length := by omega
          have hfin : crB cs = true := by rw [← HC.out, List.drop_length]; rfl
          have HFin := Lib.hid hfin
          clear hfin
          go_wp2_with fail
          go_ret
          exact ⟨ret_bool (by rw [HF.out, HFin.out]), HBw.out⟩
    · have dl : ((cs.length : Int) != (xs.length : Int)) = true := by rw [bne_iff_ne]; omega
      have hfin : vtxB (xs, cs) = false := by unfold vtxB; simp [hl]
      have HF := Lib.hid hfin
      clear ha hfin hl
      go_wp2_with fail
      go_ret
      exact ⟨ret_bool HF.out.symm, HB.out⟩

theorem ncr_bd {vs : List Vx} (h : vs.all vtxB = true) : 0 ≤ ncr vs ∧ ncr vs ≤ 10 := by
  rw [List.all_eq_true] at h
  have h1 := (ncGo_le 0 vs).1
  refine ⟨h1, ?_⟩
  rcases ncGo_is 0 vs with e | ⟨v, hv, x, hx, e⟩
  · unfold ncr; rw [e]; decide
  · have := (vtxB_bd (h v hv)).2.2.2.2 x hx
    unfold ncr; rw [e]; omega
def allGo : List Vx → Bool
  | [] => true
  | v :: r => if vtxB v = true then allGo r else false
theorem allGo_eq (vs : List Vx) : vs.all vtxB = allGo vs := by
  induction vs with
  | nil => rfl
  | cons v r ih =>
    rw [List.all_cons, allGo, ih]
    cases vtxB v <;> rfl
theorem usesOk_no {vs : List Vx} {n k : Nat} (hk : k < n) (h : (decide (1 ≤ useN vs k) && decide (useN vs k ≤ 2)) = false) : usesOk vs n = false := by
  induction n with
  | zero => omega
  | succ n ih =>
    rw [usesOk]
    by_cases e : k = n
    · rw [← e, h, Bool.and_false]
    · rw [ih (by omega), Bool.false_and]

set_option maxHeartbeats 2000000 in
theorem spec_PatternValid (A : Option Addr) (cap : Nat) (vs : List Vx) (w : World) (h : Verts w A vs) (hl : vs.length ≤ maxLen) :
    Calls Try.prog 16 #[.slice A vs.length cap] w fun e w' => e = .returned (.bool (patB vs)) ∧ Below w.heap.size w w' := by
  unfold maxLen at hl
  by_cases hin : 1 ≤ vs.length ∧ vs.length ≤ 3
  · have hq : Calls Try.prog 49 #[.int .i64 vs.length, .int .i64 1, .int .i64 3] w fun e w' => e = .returned (.bool true) ∧ w = w' := by
      have := spec_l6In (vs.length : Int) 1 3 w
      rwa [inB_yes (by omega) (by omega)] at this
    have HQ := Lib.hid hq
    have hfin : patB vs = (allGo vs && usesOk vs (ncr vs).toNat) := by
      unfold patB; rw [decide_eq_true hin.1, decide_eq_true hin.2, ← allGo_eq]; rfl
    have HF := Lib.hid hfin
    obtain ⟨hin1, hin2⟩ := hin
    clear hq hfin
    go_enter Try.func16, Try.ntmps16
    go_wp2_with fail
    refine HQ.out.mono ?_
    rintro e w' ⟨rfl, rfl⟩
    go_wp2_with fail
    go_loopg [3] (vs.length + 1) (fun g s3 wr => ∃ (k : Nat), k ≤ vs.length ∧ s3 = .int .i64 k ∧ vs.length - k < g ∧ Hid (allGo (vs.drop k) = allGo vs) ∧ Hid (Below w.heap.size w wr))
    case atStart => exact ⟨0, Nat.zero_le _, rfl, by omega, rfl, Below.refl _ _⟩
    case round =>
      obtain ⟨k, hk, rfl, hg, HA, HB⟩ := hrel
      cases gk with
      | zero => omega
      | succ g =>
      by_cases hlt : k < vs.length
      · obtain ⟨b, off, A1, c1, A2, c2, rfl, hb, r1, r2, i1, l1, m1, i2, l2, m2⟩ := (h.below HB.out).at_ hlt
        have hd := List.drop_eq_getElem_cons hlt
        have k1 : (k : Int) < (vs.length : Int) := by omega
        have k0 : (0 : Int) ≤ (k : Int) := by omega
        have hcall : ∀ W : World, Ints W A1 vs[k].1 → Ints W A2 vs[k].2 → Calls Try.prog 50 #[.agg #[.slice A1 vs[k].1.length c1, .slice A2 vs[k].2.length c2]] W fun e w' => e = .returned (.bool (vtxB vs[k])) ∧ Below W.heap.size W w' := fun W p1 p2 => spec_l6pVertex A1 A2 c1 c2 vs[k].1 vs[k].2 W p1 p2 l1 m1 l2 m2
        have HCALL := Lib.hid hcall
        have I1 := Lib.hid i1
        have I2 := Lib.hid i2
        have hgo : allGo vs = if vtxB vs[k] = true then allGo (vs.drop (k + 1)) else false := by rw [← HA.out, hd, allGo]
        have HGO := Lib.hid hgo
        have hz := HB.out.size
        clear hd hcall i1 i2 hgo
        go_wp2_with fail
        refine (HCALL.out wr I1.out I2.out).mono ?_
        rintro e w2 ⟨rfl, hb2⟩
        have HB2 := Lib.hid (HB.out.trans (hb2.mono hz))
        clear hb2
        cases hv : vtxB vs[k] with
        | false =>
          have hfin : allGo vs = false := by rw [HGO.out, hv]; rfl
          have HFin := Lib.hid hfin
          clear hv hfin
          go_wp2_with fail
          go_ret
          exact ⟨ret_bool (by rw [HF.out, HFin.out]; rfl), HB2.out⟩
        | true =>
          have hfin : allGo (vs.drop (k + 1)) = allGo vs := by rw [HGO.out, hv, if_pos rfl]
          have HFin := Lib.hid hfin
          clear hv hfin
          go_wp2_with fail
          go_roundg g
          case measure => omega
          case rel => exact ⟨k + 1, by omega, by go_num, by omega, HFin, HB2⟩
      · obtain rfl : k = vs.length := by omega
        have hall : allGo vs = true := by rw [← HA.out, List.drop_length]; rfl
        have hbd := ncr_bd (by rw [allGo_eq]; exact hall : vs.all vtxB = true)
        obtain ⟨n, hn⟩ : ∃ n, n = (ncr vs).toNat := ⟨_, rfl⟩
        have hn2 : ncr vs = (n : Int) := by omega
        have hn10 : n ≤ 10 := by omega
        have hfin : patB vs = usesOk vs n := by rw [HF.out, hall, hn]; rfl
        have hvx : ∀ v ∈ vs, v.2.length ≤ 1000000 ∧ ∀ x ∈ v.2, 0 ≤ x ∧ x ≤ 9 := fun v hv => by
          rw [← allGo_eq, List.all_eq_true] at hall
          have := vtxB_bd (hall v hv)
          exact ⟨by omega, this.2.2.2.2⟩
        have hcr : ∀ W : World, Verts W A vs → Calls Try.prog 51 #[.slice A vs.length cap] W fun e w' => e = .returned (.int .i64 n) ∧ W = w' := fun W hW => by
          have := spec_l6pCreases A cap vs W hW (by omega) hvx
          rwa [hn2] at this
        have hus : ∀ (W : World) (z : Int), Verts W A vs → Calls Try.prog 52 #[.slice A vs.length cap, .int .i64 z] W fun e w' => e = .returned (.int .i64 (useN vs z : Int)) ∧ W = w' := fun W z hW => spec_l6pUses A cap vs z W hW (by omega)
        have HCR := Lib.hid hcr
        have HUS := Lib.hid hus
        have HF2 := Lib.hid hfin
        have HV := Lib.hid (h.below HB.out)
        clear hall hbd hn hn2 hfin hvx hcr hus HA
        go_wp2_with fail
        go_loop [4] (fun s4 => ∃ (j : Nat), j ≤ n ∧ s4 = .int .i64 j ∧ Hid (usesOk vs j = true)) (fun s4 => n - (intOf s4).toNat)
        case atStart => exact ⟨0, Nat.zero_le _, rfl, rfl⟩
        case round =>
          obtain ⟨j, hj, rfl, HU⟩ := hrel
          by_cases hjn : j < n
          · have dj : decide ((j : Int) < (n : Int)) = true := by simp; omega
            obtain ⟨u, hu⟩ : ∃ u, u = useN vs (j : Int) := ⟨_, rfl⟩
            have HUu := Lib.hid hu
            clear hu
            by_cases hub : 1 ≤ u ∧ u ≤ 2
            · have hq2 : ∀ W : World, Calls Try.prog 49 #[.int .i64 u, .int .i64 1, .int .i64 2] W fun e w' => e = .returned (.bool true) ∧ W = w' := fun W => by
                have := spec_l6In (u : Int) 1 2 W
                rwa [inB_yes (by omega) (by omega)] at this
              have HQ2 := Lib.hid hq2
              have hu3 : usesOk vs (j + 1) = true := by rw [usesOk, HU.out, ← HUu.out, decide_eq_true hub.1, decide_eq_true hub.2]; rfl
              have HU3 := Lib.hid hu3
              clear hq2 hu3 hub
              go_wp2_with fail
              refine (HCR.out wr HV.out).mono ?_
              rintro e w' ⟨rfl, rfl⟩
              go_wp2_with fail
              refine (HUS.out wr j HV.out).mono ?_
              rintro e w' ⟨rfl, rfl⟩
              rw [← HUu.out]
              go_wp2_with fail
              refine (HQ2.out wr).mono ?_
              rintro e w' ⟨rfl, rfl⟩
              go_wp2_with fail
              go_round
              case rel => exact ⟨j + 1, by omega, by go_num, HU3⟩
              case measure => simp [intOf]; omega
            · have hin3 : inB (u : Int) 1 2 = false := by
                unfold inB
                rw [Bool.and_eq_false_iff, decide_eq_false_iff_not, decide_eq_false_iff_not]
                omega
              have hq2 : ∀ W : World, Calls Try.prog 49 #[.int .i64 u, .int .i64 1, .int .i64 2] W fun e w' => e = .returned (.bool false) ∧ W = w' := fun W => by
                have := spec_l6In (u : Int) 1 2 W
                rwa [hin3] at this
              have HQ2 := Lib.hid hq2
              have hu3 : usesOk vs n = false := usesOk_no hjn (by
                rw [← HUu.out, Bool.and_eq_false_iff, decide_eq_false_iff_not, decide_eq_false_iff_not]
                omega)
              have HU3 := Lib.hid hu3
              clear hq2 hu3 hub hin3
              go_wp2_with fail
              refine (HCR.out wr HV.out).mono ?_
              rintro e w' ⟨rfl, rfl⟩
              go_wp2_with fail
              refine (HUS.out wr j HV.out).mono ?_
              rintro e w' ⟨rfl, rfl⟩
              rw [← HUu.out]
              go_wp2_with fail
              refine (HQ2.out wr).mono ?_
              rintro e w' ⟨rfl, rfl⟩
              go_wp2_with fail
              go_ret
              exact ⟨ret_bool (by rw [HF2.out, HU3.out]), HB.out⟩
          · obtain rfl : j = n := by omega
            have dj : decide ((j : Int) < (j : Int)) = false := by simp
            go_wp2_with fail
            refine (HCR.out wr HV.out).mono ?_
            rintro e w' ⟨rfl, rfl⟩
            go_wp2_with fail
            go_ret
            exact ⟨ret_bool (by rw [HF2.out, HU.out]), HB.out⟩
  · have hin3 : inB (vs.length : Int) 1 3 = false := by
      unfold inB
      rw [Bool.and_eq_false_iff, decide_eq_false_iff_not, decide_eq_false_iff_not]
      omega
    have hq2 : Calls Try.prog 49 #[.int .i64 vs.length, .int .i64 1, .int .i64 3] w fun e w' => e = .returned (.bool false) ∧ w = w' := by
      have := spec_l6In (vs.length : Int) 1 3 w
      rwa [hin3] at this
    have HQ := Lib.hid hq2
    have hfin : patB vs = false := by
      unfold patB
      by_cases h1 : 1 ≤ vs.length
      · rw [decide_eq_false (p := vs.length ≤ 3) (fun h3 => hin ⟨h1, h3⟩)]; simp
      · rw [decide_eq_false (p := 1 ≤ vs.length) h1]; simp
    have HF := Lib.hid hfin
    clear hq2 hfin hin hin3
    go_enter Try.func16, Try.ntmps16
    go_wp2_with fail
    refine HQ.out.mono ?_
    rintro e w' ⟨rfl, rfl⟩
    go_wp2_with fail
    go_ret
    exact ⟨ret_bool HF.out.symm, Below.refl _ _⟩
end Go.Proofs.Ytnccpifdajcejaa
