/- A sheet folded by a letter: the reference's. No condition but sizes. -/
import Derived.Test.YtkdlipbegdiaaaaGreatDoorEzBP17
namespace Go.Proofs.YtkdlipbegdiaaaaGreatDoor
open Go.RowKit
set_option maxHeartbeats 4000000 in
set_option maxRecDepth 100000 in
theorem spec_l4Fold_82 (v : Value) (S : Sh) (H : Nat) (w : World) (h : GridV w v S) (hD : S.2.1 = 2 * H) (hH : 0 < H) (hr0 : 0 < S.1) (hc0 : 0 < S.2.1) (hr : S.1 ≤ 32) (hc : S.2.1 ≤ 32) (hlen : S.2.2.length = S.1 * S.2.1) (hs : ∀ x ∈ S.2.2, x.length ≤ 500 ∧ x ≠ []) :
    Calls Tryz.prog 170 #[v, .int .u8 82] w fun e w' => (∃ v', e = .returned v' ∧ GridV w' v' (foldC S 82)) ∧ Below w.heap.size w w' := by
  obtain ⟨b0, off0, cg, rfl⟩ := h.form hr0
  obtain ⟨F, hF⟩ : ∃ F : Nat → Nat → List Cl, F = fun i j => putS (shAt S i (stay j H false)) (shAt S i (moved j H false)) (highB 82) (underB 82) := ⟨_, rfl⟩
  have HFin : Hid (foldC S 82 = (S.1, H, gridTo H F S.1 0)) := by
    show _ = _
    have e0 : foldC S 82 = foldW S false false := rfl
    rw [e0, gridTo_end, hF]
    unfold foldW
    have e2 : S.2.1 / 2 = H := by omega
    rw [e2]
    rfl
  have HMem : Hid (∀ i j, i < S.1 → j < S.2.1 → (shAt S i j).length ≤ 500) := fun i j hi hj => (hs _ (shAt_mem hlen hi hj)).1
  have HNE : Hid (∀ i j, i < S.1 → j < H → F i j ≠ []) := by
    show ∀ i j, _
    intro i j hi hj
    rw [hF]
    exact putS_ne (hs _ (shAt_mem hlen hi (by rw [hD]; exact stay_lt false hj))).2
  have HG := Lib.hid h
  obtain ⟨kq1, kq2⟩ := half2 hD
  obtain ⟨_, _, _, _, _, hb0, _, z1, _, _⟩ := h.at_ (i := 0) (j := 0) hr0 hc0
  obtain ⟨R, hR⟩ : ∃ R, R = S.1 := ⟨_, rfl⟩
  obtain ⟨C, hCC⟩ : ∃ C, C = S.2.1 := ⟨_, rfl⟩
  have HAT : Hid (∀ (W : World) (i j : Nat), Below w.heap.size w W → i < R → j < C → ∃ b2 o2 c2 A3 c3, b0 < W.heap.size ∧ b2 < W.heap.size ∧ W.cell? ⟨b0, off0 + i, none⟩ = some (.slice (some ⟨b2, o2, none⟩) C c2) ∧ W.cell? ⟨b2, o2 + j, none⟩ = some (.slice A3 (shAt S i j).length c3) ∧ RowV W A3 (clL (shAt S i j))) := by
    show ∀ (W : World) (i j : Nat), _
    intro W i j hW hi hj
    rw [hCC]
    exact (HG.out.below hW).at_ (by rw [← hR]; exact hi) (by rw [← hCC]; exact hj)
  rw [← hR] at hr hr0 HMem HFin HNE ⊢
  rw [← hCC] at hc hc0 HMem z1
  rw [← hCC] at hD kq1 kq2
  have HRR := Lib.hid hR
  have HCC := Lib.hid hCC
  have HFF := Lib.hid hF
  have HD := Lib.hid hD
  rw [Nat.add_zero] at z1
  have hlt2 : R ≤ 32 := by omega
  have hlt3 : H ≤ 32 := by omega
  have hk0 : (0 : Int) < (R : Int) := by omega
  clear hs hlen h hF hR hCC hD
  go_enter Tryz.func170, Tryz.ntmps170
  go_wp2_with fail
  obtain ⟨w1, hw1⟩ : ∃ w1, w1 = w.alloc (.cells #[] 177) := ⟨_, rfl⟩
  have HB1 : Hid (Below w.heap.size w w1) := by show Below _ _ _; rw [hw1]; exact (Below.refl _ _).alloc (Nat.le_refl _) _
  have HO1 : Hid (OwnG w1 w.heap.size (.slice (some ⟨w.heap.size, 0, none⟩) 0 0) 0 []) := by
    show OwnG _ _ _ _ _
    rw [hw1]
    exact World.ownsRow_lit w #[] 0 (Nat.le_refl _) (by unfold maxLen; omega) rfl
  rw [← hw1]
  clear hw1
  refine (spec_l4HighL 82 w1).mono ?_
  rintro e _ ⟨rfl, rfl⟩
  rw [show highB 82 = false from rfl]
  go_wp2_with fail
  go_loopg [7, 11] (R + 1) (fun gg s7 s8 wr => ∃ (i : Nat) (vs : List Value), i ≤ R ∧ s8 = .int .i64 i ∧ R - i < gg ∧ Hid (Below w.heap.size w wr) ∧ Hid (OwnG wr w.heap.size s7 vs.length vs) ∧ Hid (GrdR wr s7.ownBlock vs (nestTo H F i)))
  case atStart => exact ⟨0, [], Nat.zero_le _, rfl, by omega, HB1, HO1, GrdR.nil _ _⟩
  case round =>
    clear HB1 HO1 z1
    obtain ⟨i, vs, hi, rfl, hg, HB, HO, HV⟩ := hrel
    cases gk with
    | zero => omega
    | succ g1 =>
    obtain ⟨wo, hwo⟩ : ∃ wo, wo = wr := ⟨_, rfl⟩
    subst hwo
    obtain ⟨A7, c7, rfl, _, _, _⟩ := own_formX HO.out
    by_cases hlt : i < R
    · have hi1 : i < R := hlt
      have HP0 : Hid (Below wo.heap.size wo (wo.alloc (.cells #[] 127))) := (Below.refl _ _).alloc (Nat.le_refl _) _
      have HR0 : Hid (OwnR (wo.alloc (.cells #[] 127)) wo.heap.size (.slice (some ⟨wo.heap.size, 0, none⟩) 0 0) 0 []) := World.ownsRow_lit wo #[] 0 (Nat.le_refl _) (by unfold maxLen; omega) rfl
      have hvl : vs.length ≤ 100 := by rw [HV.out.1, nestTo_len]; omega
      go_wp2_with fail
      obtain ⟨wp, hwp⟩ : ∃ wp, wp = wo.alloc (.cells #[] 127) := ⟨_, rfl⟩
      rw [← hwp] at HP0 HR0 ⊢
      clear hwp
      go_loopg [12, 13] (H + 1) (fun gg s9 s10 wr => ∃ (j : Nat) (us : List Value), j ≤ H ∧ s10 = .int .i64 j ∧ H - j < gg ∧ Hid (Below wo.heap.size wo wr) ∧ Hid (OwnR wr wo.heap.size s9 us.length us) ∧ Hid (StkR wr us ((List.range j).map (F i))) ∧ Hid (Apt s9 us) ∧ Hid (∀ v ∈ us, ∀ g, v.ownBlock = some g → wo.heap.size ≤ g))
      case atStart => exact ⟨0, [], Nat.zero_le _, rfl, by omega, HP0, HR0, StkR.nil _, Apt.nil _, fun v hv => by cases hv⟩
      case round =>
        clear HP0 HR0
        obtain ⟨j, us, hj, rfl, hg, HBi, HOi, HVi, HAi, HLi⟩ := hrel
        cases gk with
        | zero => omega
        | succ g2 =>
        obtain ⟨A9, c9, rfl, _, _, _⟩ := own_formX HOi.out
        by_cases hjt : j < H
        · obtain ⟨p1, hp1⟩ : ∃ p, p = stay j H false := ⟨_, rfl⟩
          obtain ⟨p2, hp2⟩ : ∃ p, p = moved j H false := ⟨_, rfl⟩
          have hb1 : p1 < C := by rw [hp1, HD.out]; exact stay_lt false hjt
          have hb2 : p2 < C := by rw [hp2, HD.out]; exact moved_lt false hjt
          have q1 : (p1 : Int) = (j : Int) := by rw [hp1]; unfold stay; simp; try omega
          have q2 : (p2 : Int) = (C : Int) - 1 - (j : Int) := by rw [hp2]; unfold moved; have := HD.out; simp; try omega
          have hFij : F i j = putS (shAt S i p1) (shAt S i p2) (highB 82) (underB 82) := by rw [HFF.out, hp1, hp2]
          obtain ⟨b2, o2, c2, A3, c3, hl0, hl2, x1', x2', x3'⟩ := HAT.out wo i p1 HB.out hi1 hb1
          obtain ⟨b2', o2', c2', A3', c3', _, hl2', y1', y2', y3'⟩ := HAT.out wo i p2 HB.out hi1 hb2
          have huu := x1'.symm.trans y1'
          cases huu
          have x1 := (HBi.out.cell (p := ⟨b0, off0 + i, none⟩) hl0).trans x1'
          have y1 := (HBi.out.cell (p := ⟨b0, off0 + i, none⟩) hl0).trans y1'
          have x2 := (HBi.out.cell (p := ⟨b2, o2 + p1, none⟩) hl2).trans x2'
          have y2 := (HBi.out.cell (p := ⟨b2, o2 + p2, none⟩) hl2').trans y2'
          have x3 := x3'.below HBi.out
          have y3 := y3'.below HBi.out
          clear x1' y1' x2' y2' x3' y3'
          obtain ⟨T1, hT1⟩ : ∃ T, T = shAt S i p1 := ⟨_, rfl⟩
          obtain ⟨T2, hT2⟩ : ∃ T, T = shAt S i p2 := ⟨_, rfl⟩
          have hl1 : T1.length ≤ 500 := by rw [hT1]; exact HMem.out _ _ hi1 hb1
          have hl2x : T2.length ≤ 500 := by rw [hT2]; exact HMem.out _ _ hi1 hb2
          rw [← hT1] at x2 x3 hFij
          rw [← hT2] at y2 y3 hFij
          have HP : Hid (∀ W : World, Below wr.heap.size wr W → Calls Tryz.prog 184 #[.slice A3 T1.length c3, .slice A3' T2.length c3', .int .u8 82] W fun e w' => (∃ v, e = .returned v ∧ OwnC w' W.heap.size v (F i j).length (clL (F i j))) ∧ Below W.heap.size W w') := by
            show ∀ W : World, _
            intro W hW
            rw [hFij]
            exact spec_l4Put A3 A3' c3 c3' T1 T2 82 W (x3.below hW) (y3.below hW) (by omega) (by omega)
          have kw1 : IntKind.i64.wrap ((j : Int)) = (j : Int) := IntWalk.i64_in _ (by omega)
          have kw2 : IntKind.i64.wrap ((C : Int) - 1 - (j : Int)) = (C : Int) - 1 - (j : Int) := IntWalk.i64_in _ (by omega)
          have kwH : IntKind.i64.wrap (H : Int) = (H : Int) := IntWalk.i64_in _ (by omega)
          have kw3 : IntKind.i64.wrap ((C : Int) - 1) = (C : Int) - 1 := IntWalk.i64_in _ (by omega)
          have kh2 : (j : Int) ≤ (C : Int) - 1 := by omega
          have ke1 : ((j : Int)).toNat = p1 := by omega
          have ke2 : ((C : Int) - 1 - (j : Int)).toNat = p2 := by omega
          have kf1 : (0 : Int) ≤ (j : Int) := by omega
          have kf2 : (0 : Int) ≤ (C : Int) - 1 - (j : Int) := by omega
          have kg1 : (j : Int) < (C : Int) := by omega
          have kg2 : (C : Int) - 1 - (j : Int) < (C : Int) := by omega
          have kj0 : (0 : Int) ≤ (i : Int) := by omega
          have kj1 : (i : Int) < (R : Int) := by omega
          have hul : us.length ≤ 100 := by rw [HVi.out.1]; simp; omega
          obtain rfl : j = p1 := by omega
          clear hT1 hT2 hp1 hp2 hFij x3 y3 q1 q2
          go_wp2_with fail
          go_region_held3 (fun W => W.cell? ⟨b0, off0 + i, none⟩ = some (.slice (some ⟨b2, o2, none⟩) C c2) ∧ W.cell? ⟨b0, off0 + i, none⟩ = some (.slice (some ⟨b2, o2, none⟩) C c2) ∧ W.cell? ⟨b2, o2 + j, none⟩ = some (.slice A3 T1.length c3) ∧ W.cell? ⟨b2, o2 + p2, none⟩ = some (.slice A3' T2.length c3'))
            (first
              | exact ⟨x1, y1, x2, y2⟩
              | exact ⟨(hb8.cell (p := ⟨b0, off0 + i, none⟩) hl0).trans ((hbq.cell (p := ⟨b0, off0 + i, none⟩) hl0).trans x1), (hb8.cell (p := ⟨b0, off0 + i, none⟩) hl0).trans ((hbq.cell (p := ⟨b0, off0 + i, none⟩) hl0).trans y1), (hb8.cell (p := ⟨b2, o2 + j, none⟩) hl2).trans ((hbq.cell (p := ⟨b2, o2 + j, none⟩) hl2).trans x2), (hb8.cell (p := ⟨b2, o2 + p2, none⟩) hl2').trans ((hbq.cell (p := ⟨b2, o2 + p2, none⟩) hl2').trans y2)⟩
              | exact ⟨(hbq.cell (p := ⟨b0, off0 + i, none⟩) hl0).trans x1, (hbq.cell (p := ⟨b0, off0 + i, none⟩) hl0).trans y1, (hbq.cell (p := ⟨b2, o2 + j, none⟩) hl2).trans x2, (hbq.cell (p := ⟨b2, o2 + p2, none⟩) hl2').trans y2⟩
              | exact ⟨(hbp.cell (p := ⟨b0, off0 + i, none⟩) hl0).trans x1, (hbp.cell (p := ⟨b0, off0 + i, none⟩) hl0).trans y1, (hbp.cell (p := ⟨b2, o2 + j, none⟩) hl2).trans x2, (hbp.cell (p := ⟨b2, o2 + p2, none⟩) hl2').trans y2⟩)
            (first
              | (have _hz := hbx.size; refine step_appR (by rfl) _ _ (by rfl) wo.heap.size _ us.length us (some ⟨w5.heap.size, 0, none⟩) 1 1 [Value.slice A5 (F i j).length c5] (by rfl) (by rfl) HOW.out rfl (fun e => by cases e) HNW.out.news (by intro u hu; simp only [List.mem_cons, List.not_mem_nil, or_false] at hu; subst hu; rfl) HZW.out (by omega) ?_; intro v8 w8 ho8 hg8 hb8 hm8 hr8; obtain ⟨A8, c8, e8, _⟩ := own_formX ho8; subst e8)
              | (go_simp; go_at_call 184; refine (HP.out _ (below_drewN (Below.refl _ _) _)).mono ?_; rintro e w5 ⟨⟨v5, rfl, ho5⟩, hbx⟩; obtain ⟨A5, c5, e5, _, _, _⟩ := own_formX ho5; subst e5; have hbw : Below wr.heap.size wr w5 := below_from (below_drewN (Below.refl _ _) 1) hbx (Nat.le_refl _); have hbp := hbw.mono HBi.out.size; have hba : Below wr.heap.size wr (w5.alloc (.cells #[Value.slice A5 (F i j).length c5] 127)) := hbw.alloc hbw.size _; have hbq := hba.mono HBi.out.size; have HOW := Lib.hid (own_belowX HOi.out hba); have HNW := Lib.hid (RowV.lit w5 [Value.slice A5 (F i j).length c5] 127); have HZW : Hid (wo.heap.size ≤ (w5.alloc (.cells #[Value.slice A5 (F i j).length c5] 127)).heap.size) := Nat.le_trans HBi.out.size hba.size))
          all_goals
            have hcl : ((List.range j).map (F i)) ++ [F i j] = (List.range (j + 1)).map (F i) := by rw [List.range_succ, List.map_append]; rfl
            have hslW : SlC (w5.alloc (.cells #[Value.slice A5 (F i j).length c5] 127)) (.slice A5 (F i j).length c5) (F i j) := (SlC.of_own ho5).below ((Below.refl _ _).alloc (Nat.le_refl _) _)
            have hlo5 : ∀ g, (Value.slice A5 (F i j).length c5).ownBlock = some g → wr.heap.size ≤ g := fun g e => (ho5.lt g e).1
            have hvW := (HVi.out.below hba).snoc hslW
            have haW := HAi.out.snoc (v := .slice A5 (F i j).length c5) (fun g e he => by have h1 := hlo5 g e; have h2 := (HOi.out.lt g he).2; omega)
            have hv9 := hvW.grown haW hg8
            have hp9 := haW.moved hvW (by
              intro X hX
              rw [hcl] at hX
              obtain ⟨j', hj', rfl⟩ := List.mem_map.1 hX
              rw [List.mem_range] at hj'
              exact HNE.out i j' hi1 (by omega)) hm8
            rw [hcl] at hv9
            have HV9 := Lib.hid hv9
            have HP9 := Lib.hid hp9
            have HO9 : Hid (OwnR w8 wo.heap.size (.slice A8 (us.length + 1) c8) (us ++ [Value.slice A5 (F i j).length c5]).length (us ++ [Value.slice A5 (F i j).length c5])) := by
              show OwnR _ _ _ _ _
              rw [List.length_append]; exact ho8
            have HB9 := Lib.hid (hbq.trans hb8)
            have HB9' : Hid (Below wo.heap.size wo w8) := HBi.out.trans HB9.out
            have HL9 : Hid (∀ v ∈ us ++ [Value.slice A5 (F i j).length c5], ∀ g, v.ownBlock = some g → wo.heap.size ≤ g) := by
              show ∀ v ∈ _, _
              intro v hv g e
              rcases List.mem_append.1 hv with hv | hv
              · exact HLi.out v hv g e
              · rw [List.mem_singleton] at hv; subst hv
                exact Nat.le_trans HBi.out.size (hlo5 g e)
            clear hcl hslW hlo5 hvW haW hv9 hp9 ho8 hg8 hb8 hm8 hr8 ho5 hbx hbw hbp hba hbq
            go_wp2_with fail
            go_roundg g2
            case measure => omega
            case rel => exact ⟨j + 1, _, by omega, by go_num, by omega, HB9', HO9, HV9, HP9, HL9⟩
        · obtain rfl : j = H := by omega
          have hal : Below wr.heap.size wr (wr.alloc (.cells #[Value.slice A9 us.length c9] 177)) := (Below.refl _ _).alloc (Nat.le_refl _) _
          have hbA := HBi.out.trans (hal.mono HBi.out.size)
          have HOA := Lib.hid (own_belowX HO.out hbA)
          have HNA := Lib.hid (RowV.lit wr [Value.slice A9 us.length c9] 177)
          have HBA := Lib.hid (HB.out.trans (hbA.mono HB.out.size))
          have hdr : DeepR (wr.alloc (.cells #[Value.slice A9 us.length c9] 177)) (Value.slice A7 vs.length c7).ownBlock (.slice A9 us.length c9) ((List.range j).map (F i)) := by
            obtain ⟨A, c, e, hrr, h1, h2⟩ := own_formX HOi.out
            cases e
            refine ⟨⟨A9, c9, us, by rw [← HVi.out.1], hrr.below hal, HVi.out.below hal, by rw [← HVi.out.1]; exact h1, h2, fun v hv g e he => ?_⟩, fun g e he => ?_⟩
            · have q1 := HLi.out v hv g e
              have q2 := (HO.out.lt g he).2
              omega
            · have q1 := (HOi.out.lt g e).1
              have q2 := (HO.out.lt g he).2
              omega
          have HVA := Lib.hid ((HV.out.below hbA).snoc hdr)
          clear hal hbA hdr HO HV HVi HAi HLi HOi
          go_wp2_with (at_builtin; go_loud (refine wpList_appG (by rfl) _ _ (by rfl) w.heap.size _ vs.length vs _ 1 _ [Value.slice A9 us.length c9] (by rfl) (by rfl) HOA.out rfl (fun e => by cases e) HNA.out.news (by intro u hu; simp only [List.mem_cons, List.not_mem_nil, or_false] at hu; subst hu; rfl) HBA.out.size (by omega) ?_))
          intro v8 w8 ho8 hg8 hb8 hm8 hr8
          obtain ⟨A8, c8, e8, _⟩ := own_formX ho8
          subst e8
          have hcl : nestTo j F i ++ [(List.range j).map (F i)] = nestTo j F (i + 1) := by rw [nestTo_succ]
          have hne : ∀ Ss ∈ nestTo j F i ++ [(List.range j).map (F i)], Ss ≠ [] ∧ ∀ X ∈ Ss, X ≠ [] := by
            intro X hX
            rw [hcl] at hX
            unfold nestTo at hX
            obtain ⟨i', hi', rfl⟩ := List.mem_map.1 hX
            rw [List.mem_range] at hi'
            refine ⟨fun e => ?_, fun Y hY => ?_⟩
            · have := congrArg List.length e; simp at this; omega
            · obtain ⟨j', hj', rfl⟩ := List.mem_map.1 hY
              rw [List.mem_range] at hj'
              exact HNE.out i' j' (by omega) hj'
          have hv11 := HVA.out.appended hne hg8 hm8
          rw [hcl] at hv11
          have HV11 := Lib.hid hv11
          have HO9 : Hid (OwnG w8 w.heap.size (.slice A8 (vs.length + 1) c8) (vs ++ [Value.slice A9 us.length c9]).length (vs ++ [Value.slice A9 us.length c9])) := by
            show OwnG _ _ _ _ _
            rw [List.length_append]; exact ho8
          have HB9 := Lib.hid (HBA.out.trans hb8)
          clear hcl hne hv11 ho8 hg8 hb8 hm8 hr8 HOA HNA HBA HVA
          go_wp2_with fail
          go_roundg g1
          case measure => omega
          case rel => exact ⟨i + 1, _, by omega, by go_num, by omega, HB9, HO9, HV11⟩
    · obtain rfl : i = R := by omega
      have hfin : GridV wo (.slice A7 vs.length c7) (foldC S 82) := by
        rw [HFin.out]
        obtain ⟨A, c, e, hrr, h1, h2⟩ := own_formX HO.out
        cases e
        have hvl : vs.length = i := by rw [HV.out.1, nestTo_len]
        refine ⟨A7, c7, vs, by rw [hvl], hrr, ?_, by rw [hvl] at h1; exact h1, h2⟩
        rw [nest_grid]
        exact HV.out.free
      have HFI := Lib.hid hfin
      clear hfin
      go_wp2_with fail
      go_ret
      exact ⟨⟨_, rfl, HFI.out⟩, HB.out⟩
set_option maxHeartbeats 4000000 in
set_option maxRecDepth 100000 in
theorem spec_l4Fold_76 (v : Value) (S : Sh) (H : Nat) (w : World) (h : GridV w v S) (hD : S.2.1 = 2 * H) (hH : 0 < H) (hr0 : 0 < S.1) (hc0 : 0 < S.2.1) (hr : S.1 ≤ 32) (hc : S.2.1 ≤ 32) (hlen : S.2.2.length = S.1 * S.2.1) (hs : ∀ x ∈ S.2.2, x.length ≤ 500 ∧ x ≠ []) :
    Calls Tryz.prog 170 #[v, .int .u8 76] w fun e w' => (∃ v', e = .returned v' ∧ GridV w' v' (foldC S 76)) ∧ Below w.heap.size w w' := by
  obtain ⟨b0, off0, cg, rfl⟩ := h.form hr0
  obtain ⟨F, hF⟩ : ∃ F : Nat → Nat → List Cl, F = fun i j => putS (shAt S i (stay j H true)) (shAt S i (moved j H true)) (highB 76) (underB 76) := ⟨_, rfl⟩
  have HFin : Hid (foldC S 76 = (S.1, H, gridTo H F S.1 0)) := by
    show _ = _
    have e0 : foldC S 76 = foldW S true false := rfl
    rw [e0, gridTo_end, hF]
    unfold foldW
    have e2 : S.2.1 / 2 = H := by omega
    rw [e2]
    rfl
  have HMem : Hid (∀ i j, i < S.1 → j < S.2.1 → (shAt S i j).length ≤ 500) := fun i j hi hj => (hs _ (shAt_mem hlen hi hj)).1
  have HNE : Hid (∀ i j, i < S.1 → j < H → F i j ≠ []) := by
    show ∀ i j, _
    intro i j hi hj
    rw [hF]
    exact putS_ne (hs _ (shAt_mem hlen hi (by rw [hD]; exact stay_lt true hj))).2
  have HG := Lib.hid h
  obtain ⟨kq1, kq2⟩ := half2 hD
  obtain ⟨_, _, _, _, _, hb0, _, z1, _, _⟩ := h.at_ (i := 0) (j := 0) hr0 hc0
  obtain ⟨R, hR⟩ : ∃ R, R = S.1 := ⟨_, rfl⟩
  obtain ⟨C, hCC⟩ : ∃ C, C = S.2.1 := ⟨_, rfl⟩
  have HAT : Hid (∀ (W : World) (i j : Nat), Below w.heap.size w W → i < R → j < C → ∃ b2 o2 c2 A3 c3, b0 < W.heap.size ∧ b2 < W.heap.size ∧ W.cell? ⟨b0, off0 + i, none⟩ = some (.slice (some ⟨b2, o2, none⟩) C c2) ∧ W.cell? ⟨b2, o2 + j, none⟩ = some (.slice A3 (shAt S i j).length c3) ∧ RowV W A3 (clL (shAt S i j))) := by
    show ∀ (W : World) (i j : Nat), _
    intro W i j hW hi hj
    rw [hCC]
    exact (HG.out.below hW).at_ (by rw [← hR]; exact hi) (by rw [← hCC]; exact hj)
  rw [← hR] at hr hr0 HMem HFin HNE ⊢
  rw [← hCC] at hc hc0 HMem z1
  rw [← hCC] at hD kq1 kq2
  have HRR := Lib.hid hR
  have HCC := Lib.hid hCC
  have HFF := Lib.hid hF
  have HD := Lib.hid hD
  rw [Nat.add_zero] at z1
  have hlt2 : R ≤ 32 := by omega
  have hlt3 : H ≤ 32 := by omega
  have hk0 : (0 : Int) < (R : Int) := by omega
  clear hs hlen h hF hR hCC hD
  go_enter Tryz.func170, Tryz.ntmps170
  go_wp2_with fail
  obtain ⟨w1, hw1⟩ : ∃ w1, w1 = w.alloc (.cells #[] 177) := ⟨_, rfl⟩
  have HB1 : Hid (Below w.heap.size w w1) := by show Below _ _ _; rw [hw1]; exact (Below.refl _ _).alloc (Nat.le_refl _) _
  have HO1 : Hid (OwnG w1 w.heap.size (.slice (some ⟨w.heap.size, 0, none⟩) 0 0) 0 []) := by
    show OwnG _ _ _ _ _
    rw [hw1]
    exact World.ownsRow_lit w #[] 0 (Nat.le_refl _) (by unfold maxLen; omega) rfl
  rw [← hw1]
  clear hw1
  refine (spec_l4HighL 76 w1).mono ?_
  rintro e _ ⟨rfl, rfl⟩
  rw [show highB 76 = false from rfl]
  go_wp2_with fail
  go_loopg [7, 11] (R + 1) (fun gg s7 s8 wr => ∃ (i : Nat) (vs : List Value), i ≤ R ∧ s8 = .int .i64 i ∧ R - i < gg ∧ Hid (Below w.heap.size w wr) ∧ Hid (OwnG wr w.heap.size s7 vs.length vs) ∧ Hid (GrdR wr s7.ownBlock vs (nestTo H F i)))
  case atStart => exact ⟨0, [], Nat.zero_le _, rfl, by omega, HB1, HO1, GrdR.nil _ _⟩
  case round =>
    clear HB1 HO1 z1
    obtain ⟨i, vs, hi, rfl, hg, HB, HO, HV⟩ := hrel
    cases gk with
    | zero => omega
    | succ g1 =>
    obtain ⟨wo, hwo⟩ : ∃ wo, wo = wr := ⟨_, rfl⟩
    subst hwo
    obtain ⟨A7, c7, rfl, _, _, _⟩ := own_formX HO.out
    by_cases hlt : i < R
    · have hi1 : i < R := hlt
      have HP0 : Hid (Below wo.heap.size wo (wo.alloc (.cells #[] 127))) := (Below.refl _ _).alloc (Nat.le_refl _) _
      have HR0 : Hid (OwnR (wo.alloc (.cells #[] 127)) wo.heap.size (.slice (some ⟨wo.heap.size, 0, none⟩) 0 0) 0 []) := World.ownsRow_lit wo #[] 0 (Nat.le_refl _) (by unfold maxLen; omega) rfl
      have hvl : vs.length ≤ 100 := by rw [HV.out.1, nestTo_len]; omega
      go_wp2_with fail
      obtain ⟨wp, hwp⟩ : ∃ wp, wp = wo.alloc (.cells #[] 127) := ⟨_, rfl⟩
      rw [← hwp] at HP0 HR0 ⊢
      clear hwp
      go_loopg [12, 13] (H + 1) (fun gg s9 s10 wr => ∃ (j : Nat) (us : List Value), j ≤ H ∧ s10 = .int .i64 j ∧ H - j < gg ∧ Hid (Below wo.heap.size wo wr) ∧ Hid (OwnR wr wo.heap.size s9 us.length us) ∧ Hid (StkR wr us ((List.range j).map (F i))) ∧ Hid (Apt s9 us) ∧ Hid (∀ v ∈ us, ∀ g, v.ownBlock = some g → wo.heap.size ≤ g))
      case atStart => exact ⟨0, [], Nat.zero_le _, rfl, by omega, HP0, HR0, StkR.nil _, Apt.nil _, fun v hv => by cases hv⟩
      case round =>
        clear HP0 HR0
        obtain ⟨j, us, hj, rfl, hg, HBi, HOi, HVi, HAi, HLi⟩ := hrel
        cases gk with
        | zero => omega
        | succ g2 =>
        obtain ⟨A9, c9, rfl, _, _, _⟩ := own_formX HOi.out
        by_cases hjt : j < H
        · obtain ⟨p1, hp1⟩ : ∃ p, p = stay j H true := ⟨_, rfl⟩
          obtain ⟨p2, hp2⟩ : ∃ p, p = moved j H true := ⟨_, rfl⟩
          have hb1 : p1 < C := by rw [hp1, HD.out]; exact stay_lt true hjt
          have hb2 : p2 < C := by rw [hp2, HD.out]; exact moved_lt true hjt
          have q1 : (p1 : Int) = (H : Int) + (j : Int) := by rw [hp1]; unfold stay; simp; try omega
          have q2 : (p2 : Int) = (H : Int) - 1 - (j : Int) := by rw [hp2]; unfold moved; have := HD.out; simp; try omega
          have hFij : F i j = putS (shAt S i p1) (shAt S i p2) (highB 76) (underB 76) := by rw [HFF.out, hp1, hp2]
          obtain ⟨b2, o2, c2, A3, c3, hl0, hl2, x1', x2', x3'⟩ := HAT.out wo i p1 HB.out hi1 hb1
          obtain ⟨b2', o2', c2', A3', c3', _, hl2', y1', y2', y3'⟩ := HAT.out wo i p2 HB.out hi1 hb2
          have huu := x1'.symm.trans y1'
          cases huu
          have x1 := (HBi.out.cell (p := ⟨b0, off0 + i, none⟩) hl0).trans x1'
          have y1 := (HBi.out.cell (p := ⟨b0, off0 + i, none⟩) hl0).trans y1'
          have x2 := (HBi.out.cell (p := ⟨b2, o2 + p1, none⟩) hl2).trans x2'
          have y2 := (HBi.out.cell (p := ⟨b2, o2 + p2, none⟩) hl2').trans y2'
          have x3 := x3'.below HBi.out
          have y3 := y3'.below HBi.out
          clear x1' y1' x2' y2' x3' y3'
          obtain ⟨T1, hT1⟩ : ∃ T, T = shAt S i p1 := ⟨_, rfl⟩
          obtain ⟨T2, hT2⟩ : ∃ T, T = shAt S i p2 := ⟨_, rfl⟩
          have hl1 : T1.length ≤ 500 := by rw [hT1]; exact HMem.out _ _ hi1 hb1
          have hl2x : T2.length ≤ 500 := by rw [hT2]; exact HMem.out _ _ hi1 hb2
          rw [← hT1] at x2 x3 hFij
          rw [← hT2] at y2 y3 hFij
          have HP : Hid (∀ W : World, Below wr.heap.size wr W → Calls Tryz.prog 184 #[.slice A3 T1.length c3, .slice A3' T2.length c3', .int .u8 76] W fun e w' => (∃ v, e = .returned v ∧ OwnC w' W.heap.size v (F i j).length (clL (F i j))) ∧ Below W.heap.size W w') := by
            show ∀ W : World, _
            intro W hW
            rw [hFij]
            exact spec_l4Put A3 A3' c3 c3' T1 T2 76 W (x3.below hW) (y3.below hW) (by omega) (by omega)
          have kw1 : IntKind.i64.wrap ((H : Int) + (j : Int)) = (H : Int) + (j : Int) := IntWalk.i64_in _ (by omega)
          have kw2 : IntKind.i64.wrap ((H : Int) - 1 - (j : Int)) = (H : Int) - 1 - (j : Int) := IntWalk.i64_in _ (by omega)
          have kwH : IntKind.i64.wrap (H : Int) = (H : Int) := IntWalk.i64_in _ (by omega)
          have kw3 : IntKind.i64.wrap ((H : Int) - 1) = (H : Int) - 1 := IntWalk.i64_in _ (by omega)
          have kh2 : (j : Int) ≤ (H : Int) - 1 := by omega
          have ke1 : ((H : Int) + (j : Int)).toNat = p1 := by omega
          have ke2 : ((H : Int) - 1 - (j : Int)).toNat = p2 := by omega
          have kf1 : (0 : Int) ≤ (H : Int) + (j : Int) := by omega
          have kf2 : (0 : Int) ≤ (H : Int) - 1 - (j : Int) := by omega
          have kg1 : (H : Int) + (j : Int) < (C : Int) := by omega
          have kg2 : (H : Int) - 1 - (j : Int) < (C : Int) := by omega
          have kj0 : (0 : Int) ≤ (i : Int) := by omega
          have kj1 : (i : Int) < (R : Int) := by omega
          have hul : us.length ≤ 100 := by rw [HVi.out.1]; simp; omega
          clear hT1 hT2 hp1 hp2 hFij x3 y3 q1 q2
          go_wp2_with fail
          go_region_held3 (fun W => W.cell? ⟨b0, off0 + i, none⟩ = some (.slice (some ⟨b2, o2, none⟩) C c2) ∧ W.cell? ⟨b0, off0 + i, none⟩ = some (.slice (some ⟨b2, o2, none⟩) C c2) ∧ W.cell? ⟨b2, o2 + p1, none⟩ = some (.slice A3 T1.length c3) ∧ W.cell? ⟨b2, o2 + p2, none⟩ = some (.slice A3' T2.length c3'))
            (first
              | exact ⟨x1, y1, x2, y2⟩
              | exact ⟨(hb8.cell (p := ⟨b0, off0 + i, none⟩) hl0).trans ((hbq.cell (p := ⟨b0, off0 + i, none⟩) hl0).trans x1), (hb8.cell (p := ⟨b0, off0 + i, none⟩) hl0).trans ((hbq.cell (p := ⟨b0, off0 + i, none⟩) hl0).trans y1), (hb8.cell (p := ⟨b2, o2 + p1, none⟩) hl2).trans ((hbq.cell (p := ⟨b2, o2 + p1, none⟩) hl2).trans x2), (hb8.cell (p := ⟨b2, o2 + p2, none⟩) hl2').trans ((hbq.cell (p := ⟨b2, o2 + p2, none⟩) hl2').trans y2)⟩
              | exact ⟨(hbq.cell (p := ⟨b0, off0 + i, none⟩) hl0).trans x1, (hbq.cell (p := ⟨b0, off0 + i, none⟩) hl0).trans y1, (hbq.cell (p := ⟨b2, o2 + p1, none⟩) hl2).trans x2, (hbq.cell (p := ⟨b2, o2 + p2, none⟩) hl2').trans y2⟩
              | exact ⟨(hbp.cell (p := ⟨b0, off0 + i, none⟩) hl0).trans x1, (hbp.cell (p := ⟨b0, off0 + i, none⟩) hl0).trans y1, (hbp.cell (p := ⟨b2, o2 + p1, none⟩) hl2).trans x2, (hbp.cell (p := ⟨b2, o2 + p2, none⟩) hl2').trans y2⟩)
            (first
              | (have _hz := hbx.size; refine step_appR (by rfl) _ _ (by rfl) wo.heap.size _ us.length us (some ⟨w5.heap.size, 0, none⟩) 1 1 [Value.slice A5 (F i j).length c5] (by rfl) (by rfl) HOW.out rfl (fun e => by cases e) HNW.out.news (by intro u hu; simp only [List.mem_cons, List.not_mem_nil, or_false] at hu; subst hu; rfl) HZW.out (by omega) ?_; intro v8 w8 ho8 hg8 hb8 hm8 hr8; obtain ⟨A8, c8, e8, _⟩ := own_formX ho8; subst e8)
              | (go_simp; go_at_call 184; refine (HP.out _ (below_drewN (Below.refl _ _) _)).mono ?_; rintro e w5 ⟨⟨v5, rfl, ho5⟩, hbx⟩; obtain ⟨A5, c5, e5, _, _, _⟩ := own_formX ho5; subst e5; have hbw : Below wr.heap.size wr w5 := below_from (below_drewN (Below.refl _ _) 1) hbx (Nat.le_refl _); have hbp := hbw.mono HBi.out.size; have hba : Below wr.heap.size wr (w5.alloc (.cells #[Value.slice A5 (F i j).length c5] 127)) := hbw.alloc hbw.size _; have hbq := hba.mono HBi.out.size; have HOW := Lib.hid (own_belowX HOi.out hba); have HNW := Lib.hid (RowV.lit w5 [Value.slice A5 (F i j).length c5] 127); have HZW : Hid (wo.heap.size ≤ (w5.alloc (.cells #[Value.slice A5 (F i j).length c5] 127)).heap.size) := Nat.le_trans HBi.out.size hba.size))
          all_goals
            have hcl : ((List.range j).map (F i)) ++ [F i j] = (List.range (j + 1)).map (F i) := by rw [List.range_succ, List.map_append]; rfl
            have hslW : SlC (w5.alloc (.cells #[Value.slice A5 (F i j).length c5] 127)) (.slice A5 (F i j).length c5) (F i j) := (SlC.of_own ho5).below ((Below.refl _ _).alloc (Nat.le_refl _) _)
            have hlo5 : ∀ g, (Value.slice A5 (F i j).length c5).ownBlock = some g → wr.heap.size ≤ g := fun g e => (ho5.lt g e).1
            have hvW := (HVi.out.below hba).snoc hslW
            have haW := HAi.out.snoc (v := .slice A5 (F i j).length c5) (fun g e he => by have h1 := hlo5 g e; have h2 := (HOi.out.lt g he).2; omega)
            have hv9 := hvW.grown haW hg8
            have hp9 := haW.moved hvW (by
              intro X hX
              rw [hcl] at hX
              obtain ⟨j', hj', rfl⟩ := List.mem_map.1 hX
              rw [List.mem_range] at hj'
              exact HNE.out i j' hi1 (by omega)) hm8
            rw [hcl] at hv9
            have HV9 := Lib.hid hv9
            have HP9 := Lib.hid hp9
            have HO9 : Hid (OwnR w8 wo.heap.size (.slice A8 (us.length + 1) c8) (us ++ [Value.slice A5 (F i j).length c5]).length (us ++ [Value.slice A5 (F i j).length c5])) := by
              show OwnR _ _ _ _ _
              rw [List.length_append]; exact ho8
            have HB9 := Lib.hid (hbq.trans hb8)
            have HB9' : Hid (Below wo.heap.size wo w8) := HBi.out.trans HB9.out
            have HL9 : Hid (∀ v ∈ us ++ [Value.slice A5 (F i j).length c5], ∀ g, v.ownBlock = some g → wo.heap.size ≤ g) := by
              show ∀ v ∈ _, _
              intro v hv g e
              rcases List.mem_append.1 hv with hv | hv
              · exact HLi.out v hv g e
              · rw [List.mem_singleton] at hv; subst hv
                exact Nat.le_trans HBi.out.size (hlo5 g e)
            clear hcl hslW hlo5 hvW haW hv9 hp9 ho8 hg8 hb8 hm8 hr8 ho5 hbx hbw hbp hba hbq
            go_wp2_with fail
            go_roundg g2
            case measure => omega
            case rel => exact ⟨j + 1, _, by omega, by go_num, by omega, HB9', HO9, HV9, HP9, HL9⟩
        · obtain rfl : j = H := by omega
          have hal : Below wr.heap.size wr (wr.alloc (.cells #[Value.slice A9 us.length c9] 177)) := (Below.refl _ _).alloc (Nat.le_refl _) _
          have hbA := HBi.out.trans (hal.mono HBi.out.size)
          have HOA := Lib.hid (own_belowX HO.out hbA)
          have HNA := Lib.hid (RowV.lit wr [Value.slice A9 us.length c9] 177)
          have HBA := Lib.hid (HB.out.trans (hbA.mono HB.out.size))
          have hdr : DeepR (wr.alloc (.cells #[Value.slice A9 us.length c9] 177)) (Value.slice A7 vs.length c7).ownBlock (.slice A9 us.length c9) ((List.range j).map (F i)) := by
            obtain ⟨A, c, e, hrr, h1, h2⟩ := own_formX HOi.out
            cases e
            refine ⟨⟨A9, c9, us, by rw [← HVi.out.1], hrr.below hal, HVi.out.below hal, by rw [← HVi.out.1]; exact h1, h2, fun v hv g e he => ?_⟩, fun g e he => ?_⟩
            · have q1 := HLi.out v hv g e
              have q2 := (HO.out.lt g he).2
              omega
            · have q1 := (HOi.out.lt g e).1
              have q2 := (HO.out.lt g he).2
              omega
          have HVA := Lib.hid ((HV.out.below hbA).snoc hdr)
          clear hal hbA hdr HO HV HVi HAi HLi HOi
          go_wp2_with (at_builtin; go_loud (refine wpList_appG (by rfl) _ _ (by rfl) w.heap.size _ vs.length vs _ 1 _ [Value.slice A9 us.length c9] (by rfl) (by rfl) HOA.out rfl (fun e => by cases e) HNA.out.news (by intro u hu; simp only [List.mem_cons, List.not_mem_nil, or_false] at hu; subst hu; rfl) HBA.out.size (by omega) ?_))
          intro v8 w8 ho8 hg8 hb8 hm8 hr8
          obtain ⟨A8, c8, e8, _⟩ := own_formX ho8
          subst e8
          have hcl : nestTo j F i ++ [(List.range j).map (F i)] = nestTo j F (i + 1) := by rw [nestTo_succ]
          have hne : ∀ Ss ∈ nestTo j F i ++ [(List.range j).map (F i)], Ss ≠ [] ∧ ∀ X ∈ Ss, X ≠ [] := by
            intro X hX
            rw [hcl] at hX
            unfold nestTo at hX
            obtain ⟨i', hi', rfl⟩ := List.mem_map.1 hX
            rw [List.mem_range] at hi'
            refine ⟨fun e => ?_, fun Y hY => ?_⟩
            · have := congrArg List.length e; simp at this; omega
            · obtain ⟨j', hj', rfl⟩ := List.mem_map.1 hY
              rw [List.mem_range] at hj'
              exact HNE.out i' j' (by omega) hj'
          have hv11 := HVA.out.appended hne hg8 hm8
          rw [hcl] at hv11
          have HV11 := Lib.hid hv11
          have HO9 : Hid (OwnG w8 w.heap.size (.slice A8 (vs.length + 1) c8) (vs ++ [Value.slice A9 us.length c9]).length (vs ++ [Value.slice A9 us.length c9])) := by
            show OwnG _ _ _ _ _
            rw [List.length_append]; exact ho8
          have HB9 := Lib.hid (HBA.out.trans hb8)
          clear hcl hne hv11 ho8 hg8 hb8 hm8 hr8 HOA HNA HBA HVA
          go_wp2_with fail
          go_roundg g1
          case measure => omega
          case rel => exact ⟨i + 1, _, by omega, by go_num, by omega, HB9, HO9, HV11⟩
    · obtain rfl : i = R := by omega
      have hfin : GridV wo (.slice A7 vs.length c7) (foldC S 76) := by
        rw [HFin.out]
        obtain ⟨A, c, e, hrr, h1, h2⟩ := own_formX HO.out
        cases e
        have hvl : vs.length = i := by rw [HV.out.1, nestTo_len]
        refine ⟨A7, c7, vs, by rw [hvl], hrr, ?_, by rw [hvl] at h1; exact h1, h2⟩
        rw [nest_grid]
        exact HV.out.free
      have HFI := Lib.hid hfin
      clear hfin
      go_wp2_with fail
      go_ret
      exact ⟨⟨_, rfl, HFI.out⟩, HB.out⟩
end Go.Proofs.YtkdlipbegdiaaaaGreatDoor
