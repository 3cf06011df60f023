/- A sheet folded by a letter, the stack of a text: the reference's. No condition but sizes. Levels, creases and corners of a text: the reference's. No condition but sizes. The program's AnglesBack, FoldsBalance, FoldsSwap. No condition but sizes. What the texts of words stand on, from the texts of rings. No condition. Words of folds as texts: all words of so many folds, sorted, ranked. No program, no condition. -/
import Derived.Test.YtkdlipbegdiaaaaGreatDoorEzBP18
import Derived.Test.YtkdlipbegdiaaaaGreatDoorEzBP19
import Derived.Test.YtkdlipbegdiaaaaGreatDoorEzBP20
import Derived.Test.YtkdlipbegdiaaaaGreatDoorEzBP21
import Derived.Test.YtkdlipbegdiaaaaGreatDoorEzBP5
import Derived.Laws.OwnMore
import Derived.Test.YtkdlipbegdiaaaaGreatDoorEzBP7
import Derived.Test.YtkdlipbegdiaaaaGreatDoorEzBP13
import Derived.Lib.ConvBytes
import Derived.Test.YtkdlipbegdiaaaaGreatDoorEzBP3
import Derived.Test.YtkdlipbegdiaaaaGreatDoorEzBP0
import Derived.Test.YtkdlipbegdiaaaaGreatDoorEzBP6
import Derived.Test.YtkdlipbegdiaaaaGreatDoorEzBP2
namespace Go.Proofs.YtkdlipbegdiaaaaGreatDoor
open Go.RowKit
/-- the stack at a place of a grid, as it lies -/
theorem GridV.sl_ {w : World} {b off c : Nat} {S : Sh} (h : GridV w (.slice (some ⟨b, off, none⟩) S.1 c) S) {i j : Nat} (hi : i < S.1) (hj : j < S.2.1) :
    ∃ b2 o2 c2 A3 c3, b < w.heap.size ∧ b2 < w.heap.size ∧ w.cell? ⟨b, off + i, none⟩ = some (.slice (some ⟨b2, o2, none⟩) S.2.1 c2) ∧ w.cell? ⟨b2, o2 + j, none⟩ = some (.slice A3 (shAt S i j).length c3) ∧ SlC w (.slice A3 (shAt S i j).length c3) (shAt S i j) := by
  obtain ⟨A, c', vs, e, hr, hg, _, _⟩ := h
  cases e
  have hln : vs.length = S.1 := by rw [hg.1]; unfold nest; exact nestTo_len _ _ _
  obtain ⟨u, hu⟩ : ∃ u, vs[i]? = some u := ⟨_, List.getElem?_eq_getElem (by omega)⟩
  have hG : (nest S)[i]? = some ((List.range S.2.1).map (shAt S i)) := by unfold nest nestTo; simp [hi]
  obtain ⟨⟨A2, c2, us, rfl, hr2, hs2, _, _, _⟩, _⟩ := hg.2 i u _ hu hG
  have hl2 : ((List.range S.2.1).map (shAt S i)).length = S.2.1 := by simp
  rw [hl2] at hu
  obtain ⟨v, hv⟩ : ∃ v, us[j]? = some v := ⟨_, List.getElem?_eq_getElem (by rw [hs2.1, hl2]; exact hj)⟩
  have hsl := hs2.2 j v (shAt S i j) hv (by simp [hj])
  obtain ⟨A3, c3, rfl, hr3⟩ := sl_len hsl
  obtain ⟨b', off', e', hb, hc⟩ := hr (show vs ≠ [] from fun e => by rw [e] at hu; simp at hu)
  cases e'
  obtain ⟨b2, o2, rfl, hb2, hc2⟩ := hr2 (show us ≠ [] from fun e => by rw [e] at hv; simp at hv)
  exact ⟨b2, o2, c2, A3, c3, hb, hb2, hc i _ hu, hc2 j _ hv, hsl⟩
theorem spec_l4Fold (v : Value) (S : Sh) (c : UInt8) (w : World) (h : GridV w v S) (hl : (wideL c || highB c) = true) (hC : highB c = false → S.2.1 % 2 = 0) (hR : highB c = true → S.1 % 2 = 0) (hr0 : 0 < S.1) (hc0 : 0 < S.2.1) (hr : S.1 ≤ 32) (hc : S.2.1 ≤ 32) (hlen : S.2.2.length = S.1 * S.2.1) (hs : ∀ x ∈ S.2.2, x.length ≤ 500 ∧ x ≠ []) :
    Calls Tryz.prog 170 #[v, .int .u8 (c.toNat : Int)] w fun e w' => (∃ v', e = .returned v' ∧ GridV w' v' (foldC S c)) ∧ Below w.heap.size w w' := by
  rcases letter_cases hl with rfl | rfl | rfl | rfl | rfl | rfl | rfl | rfl
  · have h2 := hC rfl
    exact spec_l4Fold_82 v S (S.2.1 / 2) w h (by omega) (by omega) hr0 hc0 hr hc hlen hs
  · have h2 := hC rfl
    exact spec_l4Fold_76 v S (S.2.1 / 2) w h (by omega) (by omega) hr0 hc0 hr hc hlen hs
  · have h2 := hC rfl
    exact spec_l4Fold_114 v S (S.2.1 / 2) w h (by omega) (by omega) hr0 hc0 hr hc hlen hs
  · have h2 := hC rfl
    exact spec_l4Fold_108 v S (S.2.1 / 2) w h (by omega) (by omega) hr0 hc0 hr hc hlen hs
  · have h2 := hR rfl
    exact spec_l4Fold_85 v S (S.1 / 2) w h (by omega) (by omega) hr0 hc0 hr hc hlen hs
  · have h2 := hR rfl
    exact spec_l4Fold_68 v S (S.1 / 2) w h (by omega) (by omega) hr0 hc0 hr hc hlen hs
  · have h2 := hR rfl
    exact spec_l4Fold_117 v S (S.1 / 2) w h (by omega) (by omega) hr0 hc0 hr hc hlen hs
  · have h2 := hR rfl
    exact spec_l4Fold_100 v S (S.1 / 2) w h (by omega) (by omega) hr0 hc0 hr hc hlen hs
set_option maxHeartbeats 4000000 in
set_option maxRecDepth 100000 in
theorem spec_l4Stack (s : ByteArray) (w : World) (hv : shB s.data.toList = true) :
    Calls Tryz.prog 145 #[.string s] w fun e w' => (∃ v, e = .returned v ∧ SlC w' v (stackT s.data.toList)) ∧ Below w.heap.size w w' := by
  obtain ⟨h5, hall⟩ := shB_parts hv
  rw [size_listX] at h5
  obtain ⟨l, hl⟩ : ∃ l, l = s.data.toList := ⟨_, rfl⟩
  have hll : l.length = s.size := by rw [hl]; exact size_listX s
  obtain ⟨R, hR⟩ : ∃ R, R = rowsT l := ⟨_, rfl⟩
  obtain ⟨C, hC⟩ : ∃ C, C = colsT l := ⟨_, rfl⟩
  have hR32 : R ≤ 32 := by rw [hR]; exact rowsT_le (by omega)
  have hC32 : C ≤ 32 := by rw [hC]; exact colsT_le (by omega)
  have hR0 : 0 < R := by rw [hR]; exact rowsT_pos l
  have hC0 : 0 < C := by rw [hC]; exact colsT_pos l
  have HZ2 : Hid (∀ W : World, Calls Tryz.prog 169 #[.string s] W fun e w' => e = .returned (.tuple #[.int .i64 R, .int .i64 C, .bool true]) ∧ W = w') := by
    show ∀ W : World, _
    intro W
    have := spec_SheetSize s W (by omega)
    rw [sizeO_yes hv, ← hl, ← hR, ← hC] at this
    exact this
  have HRC := Lib.hid (And.intro hR hC)
  have HL := Lib.hid hl
  have HLL := Lib.hid hll
  have HAL := Lib.hid hall
  obtain ⟨F, hF⟩ : ∃ F : Nat → Nat → List Cl, F = fun i j => [(i, j, true, true)] := ⟨_, rfl⟩
  have HFin : Hid (newSh R C = (R, C, gridTo C F R 0)) := by
    show _ = _
    rw [gridTo_end, hF]; rfl
  have HNE : Hid (∀ i j, F i j ≠ []) := by
    show ∀ i j, _
    intro i j
    rw [hF]; simp
  have HFF := Lib.hid hF
  clear hv hall hl hR hC hll hF
  go_enter Tryz.func145, Tryz.ntmps145
  go_wp2_with fail
  refine (HZ2.out w).mono ?_
  rintro e _ ⟨rfl, rfl⟩
  have HB1 : Hid (Below w.heap.size w (w.alloc (.cells #[] 177))) := (Below.refl _ _).alloc (Nat.le_refl _) _
  have HO1 : Hid (OwnG (w.alloc (.cells #[] 177)) w.heap.size (.slice (some ⟨w.heap.size, 0, none⟩) 0 0) 0 []) := World.ownsRow_lit w #[] 0 (Nat.le_refl _) (by unfold maxLen; omega) rfl
  go_wp2_with fail
  obtain ⟨w1, hw1⟩ : ∃ w1, w1 = w.alloc (.cells #[] 177) := ⟨_, rfl⟩
  rw [← hw1] at HB1 HO1 ⊢
  clear hw1
  go_loopg [6, 7] (R + 1) (fun gg s7 s8 wr => ∃ (i : Nat) (vs : List Value), i ≤ R ∧ s8 = .int .i64 i ∧ R - i < gg ∧ Hid (Below w.heap.size w wr) ∧ Hid (OwnG wr w.heap.size s7 vs.length vs) ∧ Hid (GrdR wr s7.ownBlock vs (nestTo C F i)))
  case atStart => exact ⟨0, [], Nat.zero_le _, rfl, by omega, HB1, HO1, GrdR.nil _ _⟩
  case round =>
    clear HB1 HO1
    obtain ⟨i, vs, hi, rfl, hg, HB, HO, HV⟩ := hrel
    cases gk with
    | zero => omega
    | succ g1 =>
    obtain ⟨wo, hwo⟩ : ∃ wo, wo = wr := ⟨_, rfl⟩
    subst hwo
    obtain ⟨A7, c7, rfl, hr7, hl7, hm7⟩ := own_formX HO.out
    by_cases hlt : i < R
    · have HP0 : Hid (Below wo.heap.size wo (wo.alloc (.cells #[] 127))) := (Below.refl _ _).alloc (Nat.le_refl _) _
      have HR0 : Hid (OwnR (wo.alloc (.cells #[] 127)) wo.heap.size (.slice (some ⟨wo.heap.size, 0, none⟩) 0 0) 0 []) := World.ownsRow_lit wo #[] 0 (Nat.le_refl _) (by unfold maxLen; omega) rfl
      have hvl : vs.length ≤ 100 := by rw [HV.out.1, nestTo_len]; omega
      clear hr7 hl7 hm7
      go_wp2_with fail
      obtain ⟨wp, hwp⟩ : ∃ wp, wp = wo.alloc (.cells #[] 127) := ⟨_, rfl⟩
      rw [← hwp] at HP0 HR0 ⊢
      clear hwp
      go_loopg [8, 9] (C + 1) (fun gg s9 s10 wr => ∃ (j : Nat) (us : List Value), j ≤ C ∧ s10 = .int .i64 j ∧ C - j < gg ∧ Hid (Below wo.heap.size wo wr) ∧ Hid (OwnR wr wo.heap.size s9 us.length us) ∧ Hid (StkR wr us ((List.range j).map (F i))) ∧ Hid (Apt s9 us) ∧ Hid (∀ v ∈ us, ∀ g, v.ownBlock = some g → wo.heap.size ≤ g))
      case atStart => exact ⟨0, [], Nat.zero_le _, rfl, by omega, HP0, HR0, StkR.nil _, Apt.nil _, fun v hv => by cases hv⟩
      case round =>
        clear HP0 HR0
        obtain ⟨j, us, hj, rfl, hg, HBi, HOi, HVi, HAi, HLi⟩ := hrel
        cases gk with
        | zero => omega
        | succ g2 =>
        obtain ⟨A9, c9, rfl, _, _, _⟩ := own_formX HOi.out
        by_cases hjt : j < C
        · have hul : us.length ≤ 100 := by rw [HVi.out.1]; simp; omega
          have hb5 : Below wr.heap.size wr (wr.alloc (.cells #[.int .i64 i, .int .i64 j, .bool true, .bool true] 131)) := (Below.refl _ _).alloc (Nat.le_refl _) _
          have hlit : RowV (wr.alloc (.cells #[.int .i64 i, .int .i64 j, .bool true, .bool true] 131)) (some ⟨wr.heap.size, 0, none⟩) (clL [(i, j, true, true)]) := RowV.lit wr (clL [(i, j, true, true)]) 131
          have hba := hb5.alloc hb5.size (.cells #[Value.slice (some ⟨wr.heap.size, 0, none⟩) 1 1] 127)
          have hslW : SlC ((wr.alloc (.cells #[.int .i64 i, .int .i64 j, .bool true, .bool true] 131)).alloc (.cells #[Value.slice (some ⟨wr.heap.size, 0, none⟩) 1 1] 127)) (.slice (some ⟨wr.heap.size, 0, none⟩) 1 1) (F i j) := by
            rw [HFF.out]
            exact ⟨_, 1, rfl, hlit.alloc _, Nat.le_refl _, by unfold maxLen; omega⟩
          have hnw : RowV ((wr.alloc (.cells #[.int .i64 i, .int .i64 j, .bool true, .bool true] 131)).alloc (.cells #[Value.slice (some ⟨wr.heap.size, 0, none⟩) 1 1] 127)) (some ⟨wr.heap.size + 1, 0, none⟩) [Value.slice (some ⟨wr.heap.size, 0, none⟩) 1 1] := by
            have h := RowV.lit (wr.alloc (.cells #[.int .i64 i, .int .i64 j, .bool true, .bool true] 131)) [Value.slice (some ⟨wr.heap.size, 0, none⟩) 1 1] 127
            have e : (wr.alloc (.cells #[.int .i64 i, .int .i64 j, .bool true, .bool true] 131)).heap.size = wr.heap.size + 1 := by simp
            rw [e] at h; exact h
          have HNW := Lib.hid hnw
          have HOW := Lib.hid (own_belowX HOi.out hba)
          have HZW := Lib.hid (Nat.le_trans HBi.out.size hba.size)
          have HSL := Lib.hid hslW
          have HBA := Lib.hid hba
          clear hb5 hlit hslW hnw hba
          go_wp2_with (at_builtin; go_loud (refine wpList_appR (by rfl) _ _ (by rfl) wo.heap.size _ us.length us (some ⟨wr.heap.size + 1, 0, none⟩) 1 1 [Value.slice (some ⟨wr.heap.size, 0, none⟩) 1 1] (by rfl) (by rfl) HOW.out rfl (fun e => by cases e) HNW.out.news (by intro u hu; simp only [List.mem_cons, List.not_mem_nil, or_false] at hu; subst hu; rfl) HZW.out (by omega) ?_))
          intro v8 w8 ho8 hg8 hb8 hm8 hr8
          obtain ⟨A8, c8, e8, _⟩ := own_formX ho8
          subst e8
          have hcl : ((List.range j).map (F i)) ++ [F i j] = (List.range (j + 1)).map (F i) := by rw [List.range_succ, List.map_append]; rfl
          have hvW := (HVi.out.below HBA.out).snoc HSL.out
          have haW := HAi.out.snoc (v := .slice (some ⟨wr.heap.size, 0, none⟩) 1 1) (fun g e he => by cases e; have h2 : wr.heap.size < wr.heap.size := (HOi.out.lt _ he).2; exact Nat.lt_irrefl _ h2)
          have hv9 := hvW.grown haW hg8
          have hp9 := haW.moved hvW (by
            intro X hX
            rw [hcl] at hX
            obtain ⟨j', hj', rfl⟩ := List.mem_map.1 hX
            exact HNE.out i j') hm8
          rw [hcl] at hv9
          have HV9 := Lib.hid hv9
          have HP9 := Lib.hid hp9
          have HO9 : Hid (OwnR w8 wo.heap.size (.slice A8 (us.length + 1) c8) (us ++ [Value.slice (some ⟨wr.heap.size, 0, none⟩) 1 1]).length (us ++ [Value.slice (some ⟨wr.heap.size, 0, none⟩) 1 1])) := by
            show OwnR _ _ _ _ _
            rw [List.length_append]; exact ho8
          have HB9 : Hid (Below wo.heap.size wo w8) := (HBi.out.trans (HBA.out.mono HBi.out.size)).trans hb8
          have HL9 : Hid (∀ v ∈ us ++ [Value.slice (some ⟨wr.heap.size, 0, none⟩) 1 1], ∀ g, v.ownBlock = some g → wo.heap.size ≤ g) := by
            show ∀ v ∈ _, _
            intro v hv g e
            rcases List.mem_append.1 hv with hv | hv
            · exact HLi.out v hv g e
            · rw [List.mem_singleton] at hv; subst hv
              cases e
              exact HBi.out.size
          clear hcl hvW haW hv9 hp9 ho8 hg8 hb8 hm8 hr8 HOW HNW HZW HSL HBA
          go_wp2_with fail
          go_roundg g2
          case measure => omega
          case rel => exact ⟨j + 1, _, by omega, by go_num, by omega, HB9, HO9, HV9, HP9, HL9⟩
        · obtain rfl : j = C := by omega
          have hal : Below wr.heap.size wr (wr.alloc (.cells #[Value.slice A9 us.length c9] 177)) := (Below.refl _ _).alloc (Nat.le_refl _) _
          have hbA := HBi.out.trans (hal.mono HBi.out.size)
          have HOA := Lib.hid (own_belowX HO.out hbA)
          have HNA := Lib.hid (RowV.lit wr [Value.slice A9 us.length c9] 177)
          have HBA := Lib.hid (HB.out.trans (hbA.mono HB.out.size))
          have hdr : DeepR (wr.alloc (.cells #[Value.slice A9 us.length c9] 177)) (Value.slice A7 vs.length c7).ownBlock (.slice A9 us.length c9) ((List.range j).map (F i)) := by
            obtain ⟨A, c, e, hrr, h1, h2⟩ := own_formX HOi.out
            cases e
            refine ⟨⟨A9, c9, us, by rw [← HVi.out.1], hrr.below hal, HVi.out.below hal, by rw [← HVi.out.1]; exact h1, h2, fun v hv g e he => ?_⟩, fun g e he => ?_⟩
            · have q1 := HLi.out v hv g e
              have q2 := (HO.out.lt g he).2
              omega
            · have q1 := (HOi.out.lt g e).1
              have q2 := (HO.out.lt g he).2
              omega
          have HVA := Lib.hid ((HV.out.below hbA).snoc hdr)
          clear hal hbA hdr HO HV HVi HAi HLi HOi
          go_wp2_with (at_builtin; go_loud (refine wpList_appG (by rfl) _ _ (by rfl) w.heap.size _ vs.length vs _ 1 _ [Value.slice A9 us.length c9] (by rfl) (by rfl) HOA.out rfl (fun e => by cases e) HNA.out.news (by intro u hu; simp only [List.mem_cons, List.not_mem_nil, or_false] at hu; subst hu; rfl) HBA.out.size (by omega) ?_))
          intro v8 w8 ho8 hg8 hb8 hm8 hr8
          obtain ⟨A8, c8, e8, _⟩ := own_formX ho8
          subst e8
          have hcl : nestTo j F i ++ [(List.range j).map (F i)] = nestTo j F (i + 1) := by rw [nestTo_succ]
          have hne : ∀ Ss ∈ nestTo j F i ++ [(List.range j).map (F i)], Ss ≠ [] ∧ ∀ X ∈ Ss, X ≠ [] := by
            intro X hX
            rw [hcl] at hX
            unfold nestTo at hX
            obtain ⟨i', hi', rfl⟩ := List.mem_map.1 hX
            rw [List.mem_range] at hi'
            refine ⟨fun e => ?_, fun Y hY => ?_⟩
            · have := congrArg List.length e; simp at this; omega
            · obtain ⟨j', hj', rfl⟩ := List.mem_map.1 hY
              rw [List.mem_range] at hj'
              exact HNE.out i' j'
          have hv11 := HVA.out.appended hne hg8 hm8
          rw [hcl] at hv11
          have HV11 := Lib.hid hv11
          have HO9 : Hid (OwnG w8 w.heap.size (.slice A8 (vs.length + 1) c8) (vs ++ [Value.slice A9 us.length c9]).length (vs ++ [Value.slice A9 us.length c9])) := by
            show OwnG _ _ _ _ _
            rw [List.length_append]; exact ho8
          have HB9 := Lib.hid (HBA.out.trans hb8)
          clear hcl hne hv11 ho8 hg8 hb8 hm8 hr8 HOA HNA HBA HVA
          go_wp2_with fail
          go_roundg g1
          case measure => omega
          case rel => exact ⟨i + 1, _, by omega, by go_num, by omega, HB9, HO9, HV11⟩
    · obtain rfl : i = R := by omega
      have hgrid : GridV wo (.slice A7 vs.length c7) (newSh i C) := by
        rw [HFin.out]
        have hvl : vs.length = i := by rw [HV.out.1, nestTo_len]
        refine ⟨A7, c7, vs, by rw [hvl], hr7, ?_, by rw [hvl] at hl7; exact hl7, hm7⟩
        rw [nest_grid]
        exact HV.out.free
      have HGR := Lib.hid hgrid
      clear hgrid hr7 hl7 hm7 HV HO
      go_wp2_with fail
      go_loopg [6, 10] (s.size + 1) (fun gg s6 s10 wr => ∃ (k : Nat) (S : Sh), k ≤ s.size ∧ s10 = .int .i64 k ∧ s.size - k < gg ∧ Hid (Below w.heap.size w wr) ∧ Hid (GridV wr s6 S) ∧ Hid (S = foldAll (newSh i C) (l.take k)) ∧ Hid (ShK S (l.drop k) (2 ^ k)))
      case atStart => exact ⟨0, newSh i C, Nat.zero_le _, rfl, by omega, HB, HGR, rfl, by show ShK _ _ _; rw [HRC.out.1, HRC.out.2]; exact ShK.new l⟩
      case round =>
        clear HB HGR
        obtain ⟨k, S, hk, rfl, hg, HB, HM, HS, HK⟩ := hrel
        cases gk with
        | zero => omega
        | succ g1 =>
        have hp : 2 ^ k ≤ 32 := pow5 (by omega)
        have hs10 : 0 < S.1 := by rw [HK.out.rows]; exact rowsT_pos _
        have hs20 : 0 < S.2.1 := by rw [HK.out.cols]; exact colsT_pos _
        obtain ⟨bg, og, cg, rfl⟩ := HM.out.form hs10
        by_cases hlt : k < s.size
        · have k1 : (k : Int) < (s.size : Int) := by omega
          have k0 : (0 : Int) ≤ (k : Int) := by omega
          have hd : l.drop k = s[k] :: l.drop (k + 1) := by
            rw [HL.out, List.drop_eq_getElem_cons (by rw [size_listX]; exact hlt)]; rfl
          have htk : l.take (k + 1) = l.take k ++ [s[k]] := by rw [HL.out]; exact byte_takeX hlt
          have hlet := HAL.out s[k] (byte_memX hlt)
          have hK := HK.out
          rw [hd] at hK
          obtain ⟨hK2, hw2, hh2⟩ := hK.step hlet
          have hr32 : S.1 ≤ 32 := by rw [hK.rows]; exact rowsT_le (by rw [← hd, List.length_drop, HLL.out]; omega)
          have hc32 : S.2.1 ≤ 32 := by rw [hK.cols]; exact colsT_le (by rw [← hd, List.length_drop, HLL.out]; omega)
          have HF := Lib.hid (spec_l4Fold (.slice (some ⟨bg, og, none⟩) S.1 cg) S s[k] wr HM.out hlet hw2 hh2 hs10 hs20 hr32 hc32 hK.inv.1 (fun x hx => by
            have := hK.inv.2 x hx
            exact ⟨by omega, fun e => by rw [e] at this; have h0 := Nat.two_pow_pos k; simp at this; omega⟩))
          have HK2 : Hid (ShK (foldC S s[k]) (l.drop (k + 1)) (2 ^ (k + 1))) := by show ShK _ _ _; rw [Nat.pow_succ, Nat.mul_comm]; exact hK2
          have HS2 : Hid (foldC S s[k] = foldAll (newSh i C) (l.take (k + 1))) := by
            show _ = _
            rw [htk, HS.out]
            unfold foldAll
            rw [List.foldl_append]; rfl
          clear hd htk hlet hK hK2 hw2 hh2 hr32 hc32 HM HS HK hs10 hs20
          go_wp2_with fail
          refine HF.out.mono ?_
          rintro e w3 ⟨⟨v3, rfl, hM3⟩, hb3⟩
          have HM3 := Lib.hid hM3
          have HB3 := Lib.hid (HB.out.trans (hb3.mono HB.out.size))
          clear hM3 hb3 HF HB
          go_wp2_with fail
          go_roundg g1
          case measure => omega
          case rel => exact ⟨k + 1, _, by omega, by go_num, by omega, HB3, HM3, HS2, HK2⟩
        · obtain rfl : k = s.size := by omega
          have hK := HK.out
          rw [List.drop_of_length_le (by rw [HLL.out]; exact Nat.le_refl _)] at hK
          have hr1 : S.1 = 1 := hK.rows
          have hc1 : S.2.1 = 1 := hK.cols
          have HT : Hid (shAt S 0 0 = stackT s.data.toList) := by
            show _ = _
            rw [HS.out, List.take_of_length_le (by rw [HLL.out]; exact Nat.le_refl _), HRC.out.1, HRC.out.2, HL.out]; rfl
          obtain ⟨b2, o2, c2, A3, c3, hlb, hl2, x1, x2, hsl⟩ := HM.out.sl_ (i := 0) (j := 0) hs10 hs20
          rw [HT.out] at x2 hsl
          rw [hr1]
          rw [hc1] at x1
          rw [Nat.add_zero] at x1 x2
          have HSL := Lib.hid hsl
          clear hK hr1 hc1 hsl HM HS HK hs10 hs20
          go_wp2_with fail
          go_ret
          exact ⟨⟨_, rfl, HSL.out⟩, HB.out⟩
end Go.Proofs.YtkdlipbegdiaaaaGreatDoor
namespace Go.Proofs.YtkdlipbegdiaaaaGreatDoor
open Go.RowKit
/-- the stack of a text, empty where there is none -/
def stkO (l : List UInt8) : List Cl := if shB l then stackT l else []
theorem stkO_yes {l : List UInt8} (h : shB l = true) : stkO l = stackT l := by unfold stkO; rw [if_pos h]
theorem stkO_no {l : List UInt8} (h : shB l = false) : stkO l = [] := by unfold stkO; rw [if_neg (by rw [h]; decide)]
theorem stkO_len (l : List UInt8) : (stkO l).length ≤ 32 := by
  cases h : shB l with
  | true =>
    obtain ⟨q1, q2⟩ := shB_parts h
    rw [stkO_yes h, stackT_len q2]
    exact pow5 q1
  | false => rw [stkO_no h]; simp
set_option maxHeartbeats 400000 in
theorem spec_SheetStack (s : ByteArray) (w : World) (hs : s.size ≤ 1000) :
    Calls Tryz.prog 117 #[.string s] w fun e w' => (∃ v, e = .returned (.tuple #[v, .bool (shB s.data.toList)]) ∧ SlC w' v (stkO s.data.toList)) ∧ Below w.heap.size w w' := by
  have HV := Lib.hid (spec_SheetValid s w hs)
  cases hv : shB s.data.toList with
  | false =>
    rw [hv] at HV
    rw [stkO_no hv]
    clear hv
    go_enter Tryz.func117, Tryz.ntmps117
    go_wp2_with fail
    refine HV.out.mono ?_
    rintro e _ ⟨rfl, rfl⟩
    go_wp2_with fail
    go_ret2
    exact ⟨⟨_, rfl, _, 0, rfl, RowV.nil _ _, Nat.le_refl _, by unfold maxLen; omega⟩, (Below.refl _ _).alloc (Nat.le_refl _) _⟩
  | true =>
    rw [hv] at HV
    rw [stkO_yes hv]
    have HS := Lib.hid (fun W : World => spec_l4Stack s W hv)
    clear hv
    go_enter Tryz.func117, Tryz.ntmps117
    go_wp2_with fail
    refine HV.out.mono ?_
    rintro e _ ⟨rfl, rfl⟩
    go_wp2_with fail
    refine (HS.out w).mono ?_
    rintro e w1 ⟨⟨v, rfl, h⟩, hb⟩
    go_wp2_with fail
    go_ret2
    exact ⟨⟨_, rfl, h⟩, hb⟩
end Go.Proofs.YtkdlipbegdiaaaaGreatDoor
namespace Go.Proofs.YtkdlipbegdiaaaaGreatDoor
open Go.RowKit
/-- the bytes bs at the head of a block that the call made -/
structure BRow (w : World) (B b : Nat) (bs : List UInt8) : Prop where
  lo : B ≤ b
  row : ∃ cs : Array Value, w.heap[b]? = some (.cells cs 5 (cs.size, cs.size + 1)) ∧ bs.length ≤ cs.size ∧ ∀ (j : Nat) (c : UInt8), bs[j]? = some c → cs[j]? = some (Value.int .u8 (c.toNat : Int))
theorem BRow.cell {w : World} {B b : Nat} {bs : List UInt8} (h : BRow w B b bs) {j : Nat} (hj : j < bs.length) : w.cell? ⟨b, j, none⟩ = some (.int .u8 (bs[j].toNat : Int)) := by
  obtain ⟨cs, h1, h2, h3⟩ := h.row
  rw [cell_of_row w b j cs 5 _ h1]
  exact h3 j _ (List.getElem?_eq_getElem hj)
theorem BRow.frozen {w : World} {B b : Nat} {bs : List UInt8} (h : BRow w B b bs) {j : Nat} (hj : j < bs.length) : w.frozen? ⟨b, j, none⟩ = false := by
  obtain ⟨cs, h1, h2, h3⟩ := h.row
  simp [World.frozen?, h1]
  omega
theorem BRow.set {w : World} {B b : Nat} {bs : List UInt8} (h : BRow w B b bs) (j : Nat) (c : UInt8) : BRow (w.setCell ⟨b, j, none⟩ (.int .u8 (c.toNat : Int))) B b (bs.set j c) := by
  obtain ⟨cs, h1, h2, h3⟩ := h.row
  refine ⟨h.lo, cs.setIfInBounds j (.int .u8 (c.toNat : Int)), ?_, by simpa using h2, fun k d hk => ?_⟩
  · simp [World.setCell, Array.getElem?_modify, h1]
  · rw [List.getElem?_set] at hk
    rw [Array.getElem?_setIfInBounds]
    by_cases e : j = k
    · subst e
      rw [if_pos rfl] at hk ⊢
      by_cases hl : j < bs.length
      · rw [if_pos hl] at hk
        rw [if_pos (by omega), Option.some.inj hk]
      · rw [if_neg hl] at hk; cases hk
    · rw [if_neg e] at hk ⊢
      exact h3 k d hk
def swTo (l : List UInt8) (k : Nat) : List UInt8 := (l.take k).map swB ++ l.drop k
theorem swTo_len (l : List UInt8) (k : Nat) : (swTo l k).length = l.length := by unfold swTo; simp; omega
theorem swTo_at {l : List UInt8} {k : Nat} (h : k < l.length) : (swTo l k)[k]? = some l[k] := by
  unfold swTo
  rw [List.getElem?_append_right (by simp; omega), List.length_map, List.length_take, Nat.min_eq_left (by omega), Nat.sub_self, List.drop_eq_getElem_cons h]; rfl
theorem swTo_succ {l : List UInt8} {k : Nat} (h : k < l.length) : (swTo l k).set k (swB l[k]) = swTo l (k + 1) := by
  unfold swTo
  rw [List.set_append_right _ _ (by simp; omega), List.length_map, List.length_take, Nat.min_eq_left (by omega), Nat.sub_self, List.drop_eq_getElem_cons h, List.set_cons_zero, List.take_succ_eq_append_getElem h, List.map_append, List.append_assoc]
  rfl
theorem swTo_same {l : List UInt8} {k : Nat} (h : k < l.length) (e : swB l[k] = l[k]) : swTo l (k + 1) = swTo l k := by
  rw [← swTo_succ h, e]
  apply List.ext_getElem?
  intro i
  rw [List.getElem?_set]
  split
  · next e2 =>
    subst e2
    rw [if_pos (by rw [swTo_len]; exact h), swTo_at h]
  · rfl
theorem BRow.text {w : World} {B b cp : Nat} {bs : List UInt8} {n : Nat} (h : BRow w B b bs) (hn : bs.length = n) : (convert 22 9 (.slice (some ⟨b, 0, none⟩) n cp)).run Tryz.prog w = .ok (.string (bts bs)) w := by
  subst hn
  refine run_convert_bytes_back w 22 9 5 ⟨b, 0, none⟩ cp bs Tryz.underlying22 Tryz.underlying5 Tryz.underlying9 fun j hj => ?_
  rw [Addr.add_lit, Nat.zero_add]
  exact h.cell hj
set_option maxHeartbeats 1000000 in
set_option maxRecDepth 100000 in
theorem impl_FoldsSwap (s : ByteArray) (w : World) (hs : s.size ≤ 1000) :
    Calls Tryz.prog 192 #[.string s] w fun e w' => e = .returned (.string (swT s)) ∧ Below w.heap.size w w' := by
  go_enter Tryz.func192, Tryz.ntmps192
  go_wp2_with fail
  have HR := Lib.hid (Lib.run_convert_string_bytes (P := Tryz.prog) w 9 22 5 s Tryz.underlying9 Tryz.underlying22 Tryz.underlying5)
  rw [HR.out]
  have hB : Below w.heap.size w (Lib.bytesWorld w 5 s) := ⟨rfl, rfl, rfl, by rw [Lib.bytesWorld_size]; omega, fun k hk => Lib.bytesWorld_at_old w 5 s k hk⟩
  have hR : BRow (Lib.bytesWorld w 5 s) w.heap.size w.heap.size s.data.toList := by
    refine ⟨Nat.le_refl _, _, Lib.bytesWorld_at_new w 5 s, ?_, ?_⟩
    · rw [size_list]; simp [Lib.bytesCells]
    · intro j c hj
      have := Lib.bytesWorld_cell w 5 s j (by have := (List.getElem?_eq_some_iff.1 hj).1; rwa [size_list] at this)
      rw [cell_of_row _ _ j _ _ _ (Lib.bytesWorld_at_new w 5 s)] at this
      rw [this, List.getD_eq_getElem?_getD, hj]; rfl
  have HBw := Lib.hid hB
  have HRw := Lib.hid hR
  generalize Lib.bytesWorld w 5 s = w1 at HBw HRw ⊢
  generalize grownCap w s.size 0 5 = cp
  clear hB hR HR
  go_wp2_with fail
  go_loopg [4, 5, 10] (s.size + 1) (fun g s4 s5 s10 wr => ∃ (k : Nat), k ≤ s.size ∧ s10 = .int .i64 k ∧ s.size - k < g ∧ Hid (BRow wr w.heap.size w.heap.size (swTo s.data.toList k)) ∧ Hid (Below w.heap.size w wr))
  case atStart => exact ⟨0, Nat.zero_le _, rfl, by omega, HRw, HBw⟩
  case round =>
    clear HBw HRw
    obtain ⟨k, hk, rfl, hg, HR, HB⟩ := hrel
    cases gk with
    | zero => omega
    | succ g =>
    by_cases hlt : k < s.size
    · have hl : k < s.data.toList.length := by rw [size_list]; exact hlt
      have hl2 : k < (swTo s.data.toList k).length := by rw [swTo_len]; exact hl
      have c1 := HR.out.cell hl2
      have hat : (swTo s.data.toList k)[k] = s[k] := by
        have := swTo_at hl
        rw [List.getElem?_eq_getElem hl2] at this
        exact Option.some.inj this
      rw [hat] at c1
      have f1 := HR.out.frozen hl2
      have i1 : (k : Int) < (s.size : Int) := by omega
      have st86 := HR.out.set k 86
      have st77 := HR.out.set k 77
      have hb86 := HB.out.trans (below_set wr k (.int .u8 86) (Nat.le_refl w.heap.size))
      have hb77 := HB.out.trans (below_set wr k (.int .u8 77) (Nat.le_refl w.heap.size))
      have hsk : s.data.toList[k] = s[k] := rfl
      by_cases m1 : s[k] = 77
      · have e1 : ((s[k].toNat : Int) == 77) = true := by rw [m1]; rfl
        have S := Lib.hid (show BRow (wr.setCell ⟨w.heap.size, k, none⟩ (.int .u8 86)) w.heap.size w.heap.size (swTo s.data.toList (k + 1)) from by
          rw [← swTo_succ hl, hsk, m1]; exact st86)
        have HB2 := Lib.hid hb86
        clear m1 st86 st77 hb86 hb77 hsk HR HB hat
        go_wp2_with fail
        go_roundg g
        case measure => omega
        case rel => exact ⟨k + 1, by omega, by go_num, by omega, S, HB2⟩
      · have n1 : s[k].toNat ≠ 77 := fun e => m1 (UInt8.toNat_inj.1 (by rw [e]; rfl))
        have e1 : ((s[k].toNat : Int) == 77) = false := by rw [beq_eq_false_iff_ne]; omega
        by_cases m2 : s[k] = 86
        · have e2 : ((s[k].toNat : Int) == 86) = true := by rw [m2]; rfl
          have S := Lib.hid (show BRow (wr.setCell ⟨w.heap.size, k, none⟩ (.int .u8 77)) w.heap.size w.heap.size (swTo s.data.toList (k + 1)) from by
            rw [← swTo_succ hl, hsk, m2]; exact st77)
          have HB2 := Lib.hid hb77
          clear m1 m2 n1 st86 st77 hb86 hb77 hsk HR HB hat
          go_wp2_with fail
          go_roundg g
          case measure => omega
          case rel => exact ⟨k + 1, by omega, by go_num, by omega, S, HB2⟩
        · have n2 : s[k].toNat ≠ 86 := fun e => m2 (UInt8.toNat_inj.1 (by rw [e]; rfl))
          have e2 : ((s[k].toNat : Int) == 86) = false := by rw [beq_eq_false_iff_ne]; omega
          have S := Lib.hid (show BRow wr w.heap.size w.heap.size (swTo s.data.toList (k + 1)) from by
            rw [swTo_same hl (by rw [hsk]; unfold swB; rw [if_neg m1, if_neg m2])]; exact HR.out)
          clear m1 m2 n1 n2 st86 st77 hb86 hb77 hsk HR hat
          go_wp2_with fail
          go_roundg g
          case measure => omega
          case rel => exact ⟨k + 1, by omega, by go_num, by omega, S, HB⟩
    · obtain rfl : k = s.size := by omega
      have hfin : swTo s.data.toList s.size = s.data.toList.map swB := by
        unfold swTo
        rw [List.take_of_length_le (by rw [size_list]; exact Nat.le_refl _), List.drop_of_length_le (by rw [size_list]; exact Nat.le_refl _), List.append_nil]
      have hcv := HR.out.text (cp := cp) (n := s.size) (by rw [swTo_len, size_list])
      rw [hfin, show bts (s.data.toList.map swB) = swT s from rfl] at hcv
      clear hfin
      go_wp2_with fail
      go_ret
      exact ⟨rfl, HB.out⟩
end Go.Proofs.YtkdlipbegdiaaaaGreatDoor
namespace Go.Proofs.YtkdlipbegdiaaaaGreatDoor
open Go.RowKit
/-- a text as its bytes -/
abbrev Tx := List UInt8
end Go.Proofs.YtkdlipbegdiaaaaGreatDoor
namespace Go.Proofs.YtkdlipbegdiaaaaGreatDoor
/-- the other side of a text -/
def othL (l : List UInt8) : List UInt8 := (l.reverse).map swB
theorem othL_len (l : List UInt8) : (othL l).length = l.length := by simp [othL]
end Go.Proofs.YtkdlipbegdiaaaaGreatDoor
