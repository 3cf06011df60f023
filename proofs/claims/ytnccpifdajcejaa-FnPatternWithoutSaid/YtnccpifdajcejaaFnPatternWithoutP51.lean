/- The reference's l6pOther and PatternWithout. No condition but sizes. -/
import Derived.Test.YtnccpifdajcejaaPushV
import Derived.Test.YtnccpifdajcejaaPatK
import Derived.Test.YtnccpifdajcejaaFnPatternWithoutP48
namespace Go.Proofs.Ytnccpifdajcejaa
open Go.RowKit

/-- lists in blocks from H on -/
def FreshL (H : Nat) (L : List Value) : Prop := ∀ u ∈ L, ∀ g, u.ownBlock = some g → H ≤ g
/-- a list of vertices in a row of the call's own -/
def VRowOf (w : World) (rs : List Vx) (e : Ending) (w' : World) : Prop :=
  ∃ v L, e = .returned v ∧ OwnX w' w.heap.size v rs.length L ∧ VCell w' v.ownBlock rs L ∧ Below w.heap.size w w' ∧ FreshL w.heap.size L
theorem mapI_take {cs : List Int} {f : Nat → Int} {k : Nat} (h : k < cs.length) : (cs.take (k + 1)).map (fun c => f c.toNat) = (cs.take k).map (fun c => f c.toNat) ++ [f cs[k].toNat] := by
  rw [List.take_succ_eq_append_getElem h, List.map_append]; rfl
theorem mapV_take {vs : List Vx} {f : Nat → Int} {k : Nat} (h : k < vs.length) : (vs.take (k + 1)).map (renV f) = (vs.take k).map (renV f) ++ [(vs[k].1, vs[k].2.map fun c => f c.toNat)] := by
  rw [List.take_succ_eq_append_getElem h, List.map_append]; rfl

set_option maxHeartbeats 2000000 in
set_option maxRecDepth 100000 in
theorem spec_l6pOther (A AN : Option Addr) (cap cN : Nat) (vs : List Vx) (ns : List Int) (f : Nat → Int) (w : World) (h : Verts w A vs) (hN : Ints w AN ns) (hl : vs.length ≤ 1000) (hnl : ns.length ≤ 1000)
    (hv : ∀ v ∈ vs, v.1.length ≤ 1000 ∧ v.2.length ≤ 1000 ∧ ∀ c ∈ v.2, 0 ≤ c ∧ ns[c.toNat]? = some (f c.toNat)) :
    Calls Try.prog 55 #[.slice A vs.length cap, .slice AN ns.length cN] w (VRowOf w (vs.map (renV f))) := by
  have HV := Lib.hid hv
  clear hv
  obtain ⟨w1, hw1⟩ : ∃ w1, w1 = w.alloc (.cells #[] 30) := ⟨_, rfl⟩
  have HB1 : Hid (Below w.heap.size w w1) := by show Below _ _ _; rw [hw1]; exact (Below.refl _ _).alloc (Nat.le_refl _) _
  have HO1 : Hid (OwnX w1 w.heap.size (.slice (some ⟨w.heap.size, 0, none⟩) 0 0) 0 []) := by show OwnX _ _ _ _ _; rw [hw1]; exact World.ownsRow_lit w #[] 0 (Nat.le_refl _) (by unfold maxLen; omega) rfl
  have HW1 := Lib.hid hw1
  clear hw1
  go_enter Try.func55, Try.ntmps55
  go_wp2_with fail
  rw [← HW1.out]
  go_loopg [5, 6, 7, 8] (vs.length + 1) (fun gg s5 s6 s7 s8 wr => ∃ (k : Nat) (L : List Value), s7 = s7 ∧ s8 = s8 ∧ k ≤ vs.length ∧ s6 = .int .i64 k ∧ vs.length - k < gg ∧ Hid (OwnX wr w.heap.size s5 k L) ∧ Hid (VCell wr s5.ownBlock ((vs.take k).map (renV f)) L) ∧ Hid (Below w.heap.size w wr) ∧ Hid (FreshL w.heap.size L))
  case atStart => exact ⟨0, [], rfl, rfl, Nat.zero_le _, rfl, by omega, HO1, VCell.nil _ _, HB1, fun u hu => by cases hu⟩
  case round =>
    clear HO1 HB1 HW1
    obtain ⟨k, L, _, _, hk, rfl, hg, HO, HC, HB, HFL⟩ := hrel
    cases gk with
    | zero => omega
    | succ gg =>
    obtain ⟨row, hrow⟩ : ∃ row, row = u5 := ⟨_, rfl⟩
    rw [← hrow] at HO HC ⊢
    clear hrow
    by_cases hlt : k < vs.length
    · obtain ⟨b, off, A1, c1, A2, c2, rfl, hb, r1, r2, i1, l1, m1, i2, l2, m2⟩ := h.at_ hlt
      obtain ⟨z1, z2, z3⟩ := HV.out vs[k] (List.getElem_mem hlt)
      have HT := Lib.hid (mapV_take (f := f) hlt)
      obtain ⟨xs, hxs⟩ : ∃ xs, xs = vs[k].1 := ⟨_, rfl⟩
      obtain ⟨cs, hcs⟩ : ∃ cs, cs = vs[k].2 := ⟨_, rfl⟩
      rw [← hxs] at r1 i1 l1 z1 HT
      rw [← hcs] at r2 i2 l2 z2 z3 HT
      have HI1 := Lib.hid i1
      have HI2 := Lib.hid i2
      have HZ := Lib.hid z3
      have R1 := Lib.hid r1
      have R2 := Lib.hid r2
      have k1 : (k : Int) < (vs.length : Int) := by omega
      have k0 : (0 : Int) ≤ (k : Int) := by omega
      have hsz := HB.out.size
      obtain ⟨w2, hw2⟩ : ∃ w2, w2 = wr.alloc (.cells #[] 3) := ⟨_, rfl⟩
      have HB2 : Hid (Below wr.heap.size wr w2) := by show Below _ _ _; rw [hw2]; exact (Below.refl _ _).alloc (Nat.le_refl _) _
      have HO2 : Hid (Own w2 wr.heap.size (.slice (some ⟨wr.heap.size, 0, none⟩) 0 0) ((cs.take 0).map fun c => f c.toNat)) := by show Own _ _ _ _; rw [hw2]; exact own_empty wr (Nat.le_refl _)
      have HW2 := Lib.hid hw2
      clear hxs hcs r1 r2 i1 i2 z3 hw2
      go_wp2_with fail
      rw [← HW2.out]
      obtain ⟨wA, rfl⟩ : ∃ wA, wA = wr := ⟨_, rfl⟩
      go_loopg [7, 8] (cs.length + 1) (fun gg s7 s8 wr => ∃ (j : Nat), j ≤ cs.length ∧ s8 = .int .i64 j ∧ cs.length - j < gg ∧ Hid (Own wr wA.heap.size s7 ((cs.take j).map fun c => f c.toNat)) ∧ Hid (Below wA.heap.size wA wr))
      case atStart => exact ⟨0, Nat.zero_le _, rfl, by omega, HO2, HB2⟩
      case round =>
        clear HO2 HB2 HW2
        obtain ⟨j, hj, rfl, hgj, HOj, HBj⟩ := hrel
        cases gk with
        | zero => omega
        | succ gj =>
        have hbw : Below w.heap.size w wr := HB.out.trans (HBj.out.mono hsz)
        have r1 := (hbw.cell (p := ⟨b, off + k * 2, none⟩) hb).trans R1.out
        have r2 := (hbw.cell (p := ⟨b, off + k * 2 + 1, none⟩) hb).trans R2.out
        have HBW := Lib.hid hbw
        clear hbw
        by_cases hjl : j < cs.length
        · obtain ⟨m, hm⟩ : ∃ m : Nat, cs[j] = (m : Int) := ⟨cs[j].toNat, by have := HZ.out cs[j] (List.getElem_mem hjl); omega⟩
          have hnm : ns[m]? = some (f m) := by have := (HZ.out cs[j] (List.getElem_mem hjl)).2; rw [hm] at this; simpa using this
          have hml : m < ns.length := (List.getElem?_eq_some_iff.1 hnm).1
          obtain ⟨b2, off2, rfl, hb2, hc2⟩ := (HI2.out.below HBW.out) (by intro e; subst e; simp at hjl)
          have r3 := hc2 j cs[j] (List.getElem?_eq_getElem hjl)
          rw [hm] at r3
          obtain ⟨bN, offN, rfl, hbN, hcN⟩ := (hN.below HBW.out) (by intro e; subst e; simp at hml)
          have r4 := hcN m _ hnm
          have HT2 : Hid ((cs.take (j + 1)).map (fun c => f c.toNat) = (cs.take j).map (fun c => f c.toNat) ++ [f m]) := by
            show _ = _
            rw [mapI_take hjl, hm]; rfl
          obtain ⟨z, hz⟩ : ∃ z, z = f m := ⟨_, rfl⟩
          rw [← hz] at r4 HT2
          have j1 : (j : Int) < (cs.length : Int) := by omega
          have j0 : (0 : Int) ≤ (j : Int) := by omega
          have m0 : (0 : Int) ≤ (m : Int) := by omega
          have m1 : (m : Int) < (ns.length : Int) := by omega
          have hszj := HBj.out.size
          have hln : ((cs.take j).map fun c => f c.toNat).length ≤ 1000 := by rw [List.length_map, List.length_take]; omega
          obtain ⟨ys, hys⟩ : ∃ ys, ys = (cs.take j).map fun c => f c.toNat := ⟨_, rfl⟩
          rw [← hys] at HOj hln HT2
          have hown := HOj.out
          clear hm hc2 hcN hnm hz hys
          go_wp2_with (at_builtin; go_loud (refine wpList_push (W := wr) rfl _ _ rfl wA.heap.size _ _ z (by rfl) (by rfl) hown hszj (by omega) ?_))
          intro v' w4 hown4 hgr4 hb4
          rw [← HT2.out] at hown4
          have HO4 := Lib.hid hown4
          have HB4 := Lib.hid (HBj.out.trans hb4)
          clear hown hown4 hgr4 hb4 r1 r2 r3 r4 hln HOj HBj HBW
          go_wp2_with fail
          go_roundg gj
          case measure => omega
          case rel => exact ⟨j + 1, by omega, by go_num, by omega, HO4, HB4⟩
        · obtain rfl : j = cs.length := by omega
          have hoc := HOj.out
          rw [List.take_length] at hoc
          obtain ⟨A6, c6, rfl, _, _, _⟩ := hoc.form
          rw [List.length_map] at hoc ⊢
          have HOC := Lib.hid hoc
          obtain ⟨w5, hw5⟩ : ∃ w5, w5 = wr.alloc (.cells #[] 3) := ⟨_, rfl⟩
          have hb5 : Below wr.heap.size wr w5 := by rw [hw5]; exact (Below.refl _ _).alloc (Nat.le_refl _) _
          have ho5 : Own w5 wr.heap.size (.slice (some ⟨wr.heap.size, 0, none⟩) 0 0) [] := by rw [hw5]; exact own_empty wr (Nat.le_refl _)
          have hi5 := (HI1.out.below HBW.out).below hb5
          have r1' := cell_alloc (.cells #[] 3) r1
          have HW5 := Lib.hid hw5
          have hs5 := hb5.size
          clear hw5 hoc
          go_wp2_with (at_builtin; go_loud (rw [← HW5.out]; refine wpList_app (by rfl) _ _ (by rfl) wr.heap.size _ [] xs _ _ (by rfl) xs.length rfl (by rfl) ho5 hi5 hs5 (by simp; omega) ?_))
          intro v7 w7 ho7 hg7 hb7
          have hb57 : Below wr.heap.size wr w7 := hb5.trans hb7
          obtain ⟨A7, c7, rfl, _, _, _⟩ := ho7.form
          have hv7 : Own w7 wA.heap.size (.slice A6 cs.length c6) (cs.map fun c => f c.toNat) := by
            have := own_below2' HOC.out hb57
            exact this
          have hbA : Below wA.heap.size wA w7 := HBj.out.trans (hb57.mono HBj.out.size)
          have hoX : OwnX w7 w.heap.size row k L := own_below2' HO.out hbA
          have hql : ∀ q, row.ownBlock = some q → q < wA.heap.size := fun q hq => (HO.out.lt q hq).2
          have fU : IntsF w7 row.ownBlock (.slice A7 xs.length c7) xs := IntsF.of_new ho7 (fun q hq => Nat.lt_of_lt_of_le (hql q hq) HBj.out.size)
          have fV : IntsF w7 row.ownBlock (.slice A6 cs.length c6) (cs.map fun c => f c.toNat) := by
            have hv7' : Own w7 wA.heap.size (.slice A6 (cs.map fun c => f c.toNat).length c6) (cs.map fun c => f c.toNat) := by rw [List.length_map]; exact hv7
            have := IntsF.of_new hv7' hql
            rwa [List.length_map] at this
          have hC7 : VCell w7 row.ownBlock ((vs.take k).map (renV f)) L := HC.out.below hbA
          have hz7 : w.heap.size ≤ w7.heap.size := Nat.le_trans hsz hbA.size
          have hfl : FreshL w.heap.size (L ++ [.slice A7 xs.length c7, .slice A6 cs.length c6]) := by
            intro u hu g hg
            rcases List.mem_append.1 hu with h1 | h1
            · exact HFL.out u h1 g hg
            · simp only [List.mem_cons, List.not_mem_nil, or_false] at h1
              rcases h1 with rfl | rfl
              · have := (ho7.lt g hg).1; have := HBj.out.size; omega
              · have := (hv7.lt g hg).1; omega
          have HFL2 := Lib.hid hfl
          have HBA := Lib.hid hbA
          have HFU := Lib.hid fU
          have HFV := Lib.hid fV
          have HC7 := Lib.hid hC7
          have HB7 := Lib.hid (HB.out.trans (hbA.mono hsz))
          clear hfl ho7 hg7 hb7 hb57 hv7 hbA hql fU fV hC7 ho5 hi5 r1' hb5 hs5 r1 r2
          go_wp2_with (at_builtin; go_loud (refine wpList_pushV (W := w7) rfl _ _ rfl w.heap.size _ k L _ _ (by rfl) (by rfl) hoX (by rfl) (by rfl) hz7 (by omega) ?_))
          intro v8 w8 ho8 hg8 hb8 hm8 _
          have HO8 := Lib.hid ho8
          have hc8 := HC7.out.push HFU.out HFV.out hg8 hm8
          rw [← HT.out] at hc8
          have HC8 := Lib.hid hc8
          have HB8 := Lib.hid (HB7.out.trans hb8)
          clear ho8 hg8 hb8 hm8 hc8 hoX HC HO HB
          go_wp2_with fail
          go_roundg gg
          case measure => omega
          case rel => exact ⟨k + 1, _, trivial, trivial, by omega, by go_num, by omega, HO8, HC8, HB8, HFL2⟩
    · obtain rfl : k = vs.length := by omega
      have hc := HC.out
      rw [List.take_length] at hc
      have HC2 := Lib.hid hc
      clear hc
      go_wp2_with fail
      go_ret
      exact ⟨_, L, rfl, by rw [List.length_map]; exact HO.out, HC2.out, HB.out, HFL.out⟩
set_option maxHeartbeats 2000000 in
set_option maxRecDepth 100000 in
theorem spec_PatternWithout (A : Option Addr) (cap : Nat) (vs : List Vx) (z : Int) (w : World) (h : Verts w A vs) (hcap : vs.length ≤ cap) (hcm : cap ≤ maxLen) :
    Calls Try.prog 32 #[.slice A vs.length cap, .int .i64 z] w (VertRes w (woR vs z) (withoutB vs z)) := by
  have hl : vs.length ≤ maxLen := Nat.le_trans hcap hcm
  have hno : withoutB vs z = false → ∀ w1 : World, Below w.heap.size w w1 → VertRes w (woR vs z) (withoutB vs z) (.returned (.tuple #[.slice (some ⟨w1.heap.size, 0, none⟩) 0 0, .bool false])) (w1.alloc (.cells #[] 30)) := by
    intro hb w1 hbel
    exact VertRes.none (by unfold woR; rw [hb]; rfl) hb hbel
  have HNo := Lib.hid hno
  clear hno
  go_enter Try.func32, Try.ntmps32
  go_wp2_with fail
  refine (spec_PatternValid A cap vs w h hl).mono ?_
  rintro e w1 ⟨rfl, hb1⟩
  cases hp : patB vs with
  | false =>
    have hw : withoutB vs z = false := by unfold withoutB; rw [hp]; rfl
    have HB := Lib.hid hb1
    have HW := Lib.hid hw
    clear hp hw hb1
    go_wp2_with fail
    go_ret2
    exact HNo.out HW.out w1 HB.out
  | true =>
    obtain ⟨p1, p3, hall, huse, n0, n10⟩ := patB_parts hp
    obtain ⟨n, hn⟩ : ∃ n, n = (ncr vs).toNat := ⟨_, rfl⟩
    have hWB : withoutB vs z = (decide (0 ≤ z) && decide (z < vs.length) && decide (vs.length ≠ 1)) := by unfold withoutB; rw [hp]; rfl
    have HWB := Lib.hid hWB
    have HB := Lib.hid hb1
    have HN := Lib.hid hn
    have HAll := Lib.hid hall
    clear hp hb1 hn hall huse hWB
    by_cases c1 : 0 ≤ z ∧ z ≤ (vs.length : Int) - 1
    · have hin : inB z 0 ((vs.length : Int) - 1) = true := by unfold inB; simp [c1.1, c1.2]
      have HIn := Lib.hid hin
      clear hin
      by_cases c3 : vs.length = 1
      · have d3 : ((vs.length : Int) == 1) = true := by rw [beq_iff_eq]; omega
        have hw : withoutB vs z = false := by rw [HWB.out, decide_eq_true c1.1, decide_eq_true (by omega), decide_eq_false (by omega)]; rfl
        have HW := Lib.hid hw
        clear hw c3
        go_wp2_with fail
        refine (spec_l6In _ _ _ w1).mono ?_
        rintro e w' ⟨rfl, rfl⟩
        rw [HIn.out]
        go_wp2_with fail
        go_ret2
        exact HNo.out HW.out w1 HB.out
      · have d3 : ((vs.length : Int) == 1) = false := by rw [beq_eq_false_iff_ne]; omega
        have hw : withoutB vs z = true := by rw [HWB.out, decide_eq_true c1.1, decide_eq_true (by omega), decide_eq_true c3]; rfl
        obtain ⟨at_, hat⟩ : ∃ at_ : Nat, z = (at_ : Int) := ⟨z.toNat, by omega⟩
        subst hat
        have hal : at_ < vs.length := by omega
        have hwo : woR vs (at_ : Int) = withoutL vs at_ := by unfold woR; rw [hw, if_pos rfl]; rfl
        have HWO := Lib.hid hwo
        have HW := Lib.hid hw
        clear hw hwo HNo HWB
        obtain ⟨b, off, _, _, _, _, rfl, hb, _, _, _, _, _, _, _, _⟩ := h.at_ hal
        have hv1 := h.below HB.out
        obtain ⟨L1, hL1, hc1⟩ := (show Verts w1 (some ⟨b, off, none⟩) (vs.take at_) from by have := hv1.cut 0 at_; simpa using this).cells (some w1.heap.size) (fun g e => by cases e; exact Nat.le_refl _)
        obtain ⟨L2, hL2, hc2⟩ := (show Verts w1 (some ⟨b, off + (at_ + 1) * 2, none⟩) (vs.drop (at_ + 1)) from by
          have := hv1.cut (at_ + 1) (vs.length - (at_ + 1))
          rwa [List.take_of_length_le (by simp)] at this).cells (some w1.heap.size) (fun g e => by cases e; exact Nat.le_refl _)
        have hb' : b < w1.heap.size := Nat.lt_of_lt_of_le hb HB.out.size
        have n1 : ∀ W : World, Below w1.heap.size w1 W → ∀ a, some (⟨b, off, none⟩ : Addr) = some a → ∀ j u, L1[j]? = some u → W.cell? (a.add j) = some u := by
          intro W hW a e j u hj
          cases e
          rw [Addr.add_lit]
          exact (hW.cell (p := ⟨b, off + j, none⟩) hb').trans (hc1 j u hj)
        have n2 : ∀ W : World, Below w1.heap.size w1 W → ∀ a, some (⟨b, off + (at_ + 1) * 2, none⟩ : Addr) = some a → ∀ j u, L2[j]? = some u → W.cell? (a.add j) = some u := by
          intro W hW a e j u hj
          cases e
          rw [Addr.add_lit]
          exact (hW.cell (p := ⟨b, off + (at_ + 1) * 2 + j, none⟩) hb').trans (hc2 j u hj)
        have s1 : L1.length = at_ * 2 := by rw [hL1.1, List.length_take]; omega
        have s2 : L2.length = (vs.length - (at_ + 1)) * 2 := by rw [hL2.1, List.length_drop]
        have HN1 := Lib.hid n1
        have HN2 := Lib.hid n2
        have HS1 := Lib.hid s1
        have HS2 := Lib.hid s2
        have HO1 := Lib.hid hL1.one
        have HO2 := Lib.hid hL2.one
        have HL1 := Lib.hid hL1
        have HL2 := Lib.hid hL2
        have k0 : (0 : Int) ≤ (at_ : Int) := by omega
        have k1 : (at_ : Int) ≤ (cap : Int) := by omega
        have k2 : (at_ : Int) + 1 ≤ (vs.length : Int) := by omega
        have k3 : (vs.length : Int) ≤ (cap : Int) := by omega
        have k4 : (at_ : Int) ≤ (vs.length : Int) := by omega
        unfold maxLen at hcm
        have kw : IntKind.i64.wrap ((at_ : Int) + 1) = (at_ : Int) + 1 := IntWalk.i64_in _ (by omega)
        have kt : ((at_ : Int) + 1).toNat = at_ + 1 := by omega
        have kz : (0 : Int) ≤ (at_ : Int) + 1 := by omega
        clear n1 n2 s1 s2 hc1 hc2 hL1 hL2
        go_wp2_with fail
        refine (spec_l6In _ _ _ w1).mono ?_
        rintro e w' ⟨rfl, rfl⟩
        rw [HIn.out]
        by_cases hcz : cap = at_ + 1
        · have hlz : vs.length = at_ + 1 := by omega
          have k5 : (at_ : Int) ≤ (at_ : Int) + 1 := by omega
          have k6 : (vs.length : Int) ≤ (at_ : Int) + 1 := by omega
          have k7 : at_ ≤ at_ + 1 := by omega
          have k8 : (at_ : Int) ≤ ((at_ + 1 : Nat) : Int) := by omega
          have hnil : L2 = [] := List.eq_nil_of_length_eq_zero (by rw [HS2.out]; omega)
          have HN2' : Hid (∀ W : World, ∀ a, some (⟨b, off, none⟩ : Addr) = some a → ∀ j u, L2[j]? = some u → W.cell? (a.add j) = some u) := fun W a e j u hj => by rw [hnil] at hj; simp at hj
          clear hnil hlz
          go_wp2_with fail
          go_region_held3 (fun w' => True) (trivial) (first
            | (have _z := hownA.1; refine step_appV (by rfl) _ _ (by rfl) w1.heap.size _ at_ L1 _ (vs.length - (at_ + 1)) _ L2 (by rfl) (by rfl) hownA HS2.out (fun e => by cases e) (HN2'.out _) HO2.out hbA.size (by omega) ?_; intro vB wB hownB hgB hbB hmB hrB)
            | (refine step_appV (by rfl) _ _ (by rfl) w1.heap.size _ 0 [] _ at_ _ L1 (by rfl) (by rfl) (World.ownsRow_lit (w1.drewN _) #[] 0 (Nat.le_refl _) (by unfold maxLen; omega) rfl) HS1.out (fun e => by cases e) (HN1.out _ ((below_drewN (Below.refl _ _) _).alloc (Nat.le_refl _) _)) HO1.out (Nat.le_of_lt (by simp)) (by omega) ?_; intro vA wA hA0 hgA hbA' hmA hrA; have hownA : OwnX wA w1.heap.size vA at_ L1 := (by simpa using hA0); have hbA : Below w1.heap.size w1 wA := ((below_drewN (Below.refl _ _) _).alloc (Nat.le_refl _) _).trans hbA'))
          all_goals subst hcz
          all_goals
            have hrsl : (vs.take at_ ++ vs.drop (at_ + 1)).length = vs.length - 1 := by simp; omega
            have hrse : vs.eraseIdx at_ = vs.take at_ ++ vs.drop (at_ + 1) := List.eraseIdx_eq_take_drop_succ ..
            obtain ⟨rs, hrs⟩ : ∃ rs, rs = vs.eraseIdx at_ := ⟨_, rfl⟩
            have hrl : rs.length = vs.length - 1 := by rw [hrs, hrse, hrsl]
            have hBA : Below w1.heap.size w1 wB := hbA.trans hbB
            have hoB : OwnX wB w1.heap.size vB (vs.length - 1) (L1 ++ L2) := by
              have := hownB
              rwa [show at_ + (vs.length - (at_ + 1)) = vs.length - 1 from by omega] at this
            have hqB : ∀ q, vB.ownBlock = some q → w1.heap.size ≤ q := fun q hq => (hoB.lt q hq).1
            have hcB : VCell wB vB.ownBlock rs (L1 ++ L2) := by
              rw [hrs, hrse]
              exact (HL1.out.app HL2.out).imp fun V xs hi => IntsF.of_old hi.intsV hBA hqB
            obtain ⟨AR, cR, rfl, hRc, hRm⟩ := hoB.form
            have hVR : Verts wB AR rs := hcB.verts hoB hrl
            have hvr : ∀ v ∈ rs, v ∈ vs := fun v hv => by rw [hrs] at hv; exact List.mem_of_mem_eraseIdx hv
            have hvb : ∀ v ∈ rs, v.1.length ≤ 1000 ∧ v.2.length ≤ 1000 ∧ ∀ c ∈ v.2, 0 ≤ c ∧ (wNum rs n)[c.toNat]? = some ((fun c => (numW rs c : Int)) c.toNat) := by
              intro v hv
              have h1 := vtxB_bd (List.all_eq_true.1 HAll.out v (hvr v hv))
              refine ⟨by omega, by omega, fun c hc => ?_⟩
              have h2 := (h1.2.2.2.2 c hc).1
              have h3 := (ncGo_le 0 vs).2 v (hvr v hv) c hc
              have h4 := HN.out
              unfold ncr at h4
              exact ⟨h2, wNum_get (by omega)⟩
            have hres : withoutL vs at_ = rs.map (renV fun c => (numW rs c : Int)) := by unfold withoutL; rw [hrs]
            have hvx : ∀ v ∈ vs, v.2.length ≤ 1000000 ∧ ∀ x ∈ v.2, 0 ≤ x ∧ x ≤ 9 := fun v hv => by
              have h1 := vtxB_bd (List.all_eq_true.1 HAll.out v hv)
              exact ⟨by omega, h1.2.2.2.2⟩
            have hB2 : Below w.heap.size w wB := HB.out.trans (hBA.mono HB.out.size)
            have HVR := Lib.hid hVR
            have HVB := Lib.hid hvb
            have HRes := Lib.hid hres
            have HVX := Lib.hid hvx
            have HB2 := Lib.hid hB2
            have HRL := Lib.hid hrl
            have hcl : ∀ W : World, Below w.heap.size w W → Calls Try.prog 51 #[.slice (some ⟨b, off, none⟩) vs.length (at_ + 1)] W fun e w' => e = .returned (.int .i64 n) ∧ W = w' := fun W hW => by
              have h1 := spec_l6pCreases (some ⟨b, off, none⟩) (at_ + 1) vs W (h.below hW) (by omega) HVX.out
              have h2 : ncr vs = (n : Int) := by have := HN.out; omega
              rwa [h2] at h1
            have HCL := Lib.hid hcl
            obtain ⟨w5, hw5⟩ : ∃ w5, w5 = wB.alloc (.cells #[] 3) := ⟨_, rfl⟩
            have HB5 : Hid (Below wB.heap.size wB w5) := by show Below _ _ _; rw [hw5]; exact (Below.refl _ _).alloc (Nat.le_refl _) _
            have HO5 : Hid (Own w5 wB.heap.size (.slice (some ⟨wB.heap.size, 0, none⟩) 0 0) (wNum rs 0)) := by show Own _ _ _ _; rw [hw5]; exact own_empty wB (Nat.le_refl _)
            have HW5 := Lib.hid hw5
            have hn10 : n ≤ 10 := by have := HN.out; omega
            clear HN2' hrsl hrse hrs hBA hownB hoB hqB hcB hVR hvr hvb hres hvx hB2 hcl hw5 hbA' hmA hmB hrA hrB hgA hgB hownA HN1 HN2 HO1 HO2 hA0 hbA hbB HL1 HL2 HS1 HS2 hrl kw kt hv1
            go_wp2_with fail
            rw [← HW5.out]
            go_loopg [7, 8, 9] (n + 1) (fun gg s7 s8 s9 wr => ∃ (j q : Nat), j ≤ n ∧ s9 = .int .i64 j ∧ s8 = .int .i64 q ∧ Hid (q = numW rs j) ∧ n - j < gg ∧ Hid (Own wr wB.heap.size s7 (wNum rs j)) ∧ Hid (Below wB.heap.size wB wr))
            case atStart => exact ⟨0, 0, Nat.zero_le _, rfl, rfl, rfl, by omega, HO5, HB5⟩
            case round =>
              clear HO5 HB5 HW5
              obtain ⟨j, q, hj, rfl, rfl, HQ, hg, HO, HBx⟩ := hrel
              cases gk with
              | zero => omega
              | succ gg =>
              have hzB := HB2.out.size
              have hbw : Below w.heap.size w wr := HB2.out.trans (HBx.out.mono hzB)
              have HBW := Lib.hid hbw
              clear hbw
              by_cases hlt : j < n
              · have j1 : (j : Int) < (n : Int) := by omega
                have hqle : q ≤ 10 := by have := HQ.out; have := numW_le rs j; omega
                have hown := HO.out
                have hln : (wNum rs j).length ≤ 10 := by rw [wNum_len]; omega
                have HT := Lib.hid (wNum_succ rs j)
                have hq := HQ.out
                rw [← hq] at HT
                have hsz := HBx.out.size
                obtain ⟨u, hu⟩ : ∃ u, u = useN rs (j : Int) := ⟨_, rfl⟩
                have HU := Lib.hid hu
                have hcu : ∀ W : World, Below wB.heap.size wB W → Calls Try.prog 52 #[.slice AR (vs.length - 1) cR, .int .i64 j] W fun e w' => e = .returned (.int .i64 (u : Int)) ∧ W = w' := fun W hW => by
                  have h1 := spec_l6pUses AR cR rs (j : Int) W (HVR.out.below hW) (by rw [HRL.out]; omega)
                  rw [HRL.out, ← hu] at h1
                  exact h1
                have HCU := Lib.hid hcu
                clear hq hu hcu
                go_wp2_with fail
                refine (HCL.out wr HBW.out).mono ?_
                rintro e w' ⟨rfl, rfl⟩
                go_wp2_with (at_builtin; go_loud (refine wpList_push (W := wr) rfl _ _ rfl wB.heap.size _ _ (q : Int) (by rfl) (by rfl) hown hsz (by omega) ?_))
                intro v' w4 hown4 hgr4 hb4
                rw [← HT.out] at hown4
                have HO4 := Lib.hid hown4
                have HB4 := Lib.hid (HBx.out.trans hb4)
                clear hown hown4 hgr4 hb4 hln HO HBx HBW
                go_wp2_with fail
                refine (HCU.out w4 HB4.out).mono ?_
                rintro e w' ⟨rfl, rfl⟩
                by_cases hu0 : 0 < u
                · have du : decide ((0 : Int) < (u : Int)) = true := by simp; omega
                  have HQ2 : Hid (q + 1 = numW rs (j + 1)) := by show _ = _; rw [numW, if_pos (by rw [← HU.out]; exact hu0), HQ.out]
                  go_wp2_with fail
                  go_roundg gg
                  case measure => omega
                  case rel => exact ⟨j + 1, q + 1, by omega, by go_num, by go_num, HQ2, by omega, HO4, HB4⟩
                · have du : decide ((0 : Int) < (u : Int)) = false := by simp; omega
                  have HQ2 : Hid (q = numW rs (j + 1)) := by show _ = _; rw [numW, if_neg (by rw [← HU.out]; exact hu0), HQ.out]; rfl
                  go_wp2_with fail
                  go_roundg gg
                  case measure => omega
                  case rel => exact ⟨j + 1, q, by omega, by go_num, rfl, HQ2, by omega, HO4, HB4⟩
              · obtain rfl : j = n := by omega
                obtain ⟨AN, cN, rfl, hNI, _, _⟩ := HO.out.form
                have hco : Calls Try.prog 55 #[.slice AR (vs.length - 1) cR, .slice AN j cN] wr (VRowOf wr (rs.map (renV fun c => (numW rs c : Int)))) := by
                  have h1 := spec_l6pOther AR AN cR cN rs (wNum rs j) (fun c => (numW rs c : Int)) wr (HVR.out.below HBx.out) hNI (by rw [HRL.out]; omega) (by rw [wNum_len]; omega) HVB.out
                  rw [HRL.out, wNum_len] at h1
                  exact h1
                have HCO := Lib.hid hco
                rw [wNum_len]
                clear hNI hco
                go_wp2_with fail
                refine (HCL.out wr HBW.out).mono ?_
                rintro e w' ⟨rfl, rfl⟩
                go_wp2_with fail
                refine HCO.out.mono ?_
                rintro e w6 ⟨v6, L6, rfl, ho6, hc6, hb6, _⟩
                have hml : (rs.map (renV fun c => (numW rs c : Int))).length = vs.length - 1 := by rw [List.length_map]; exact HRL.out
                rw [hml] at ho6
                obtain ⟨A6, c6, rfl, h61, h62⟩ := ho6.form
                have hv6 := hc6.verts ho6 hml
                have HV6 := Lib.hid hv6
                have HML := Lib.hid hml
                have HB6 := Lib.hid (HBW.out.trans (hb6.mono HBW.out.size))
                clear ho6 hc6 hb6 hv6 hml
                go_wp2_with fail
                go_ret2
                exact ⟨A6, c6, by rw [HWO.out, HW.out, HRes.out, HML.out]; rfl, by rw [HWO.out, HRes.out]; exact HV6.out, by rw [HWO.out, HRes.out, HML.out]; exact h61, h62, HB6.out⟩
        · have hcz2 : ¬ cap = at_ + 1 := hcz
          go_wp2_with fail
          go_region_held3 (fun w' => True) (trivial) (first
            | (have _z := hownA.1; refine step_appV (by rfl) _ _ (by rfl) w1.heap.size _ at_ L1 _ (vs.length - (at_ + 1)) _ L2 (by rfl) (by rfl) hownA HS2.out (fun e => by cases e) (HN2.out _ hbA) HO2.out hbA.size (by omega) ?_; intro vB wB hownB hgB hbB hmB hrB)
            | (refine step_appV (by rfl) _ _ (by rfl) w1.heap.size _ 0 [] _ at_ _ L1 (by rfl) (by rfl) (World.ownsRow_lit (w1.drewN _) #[] 0 (Nat.le_refl _) (by unfold maxLen; omega) rfl) HS1.out (fun e => by cases e) (HN1.out _ ((below_drewN (Below.refl _ _) _).alloc (Nat.le_refl _) _)) HO1.out (Nat.le_of_lt (by simp)) (by omega) ?_; intro vA wA hA0 hgA hbA' hmA hrA; have hownA : OwnX wA w1.heap.size vA at_ L1 := (by simpa using hA0); have hbA : Below w1.heap.size w1 wA := ((below_drewN (Below.refl _ _) _).alloc (Nat.le_refl _) _).trans hbA'))
          all_goals
            have hrsl : (vs.take at_ ++ vs.drop (at_ + 1)).length = vs.length - 1 := by simp; omega
            have hrse : vs.eraseIdx at_ = vs.take at_ ++ vs.drop (at_ + 1) := List.eraseIdx_eq_take_drop_succ ..
            obtain ⟨rs, hrs⟩ : ∃ rs, rs = vs.eraseIdx at_ := ⟨_, rfl⟩
            have hrl : rs.length = vs.length - 1 := by rw [hrs, hrse, hrsl]
            have hBA : Below w1.heap.size w1 wB := hbA.trans hbB
            have hoB : OwnX wB w1.heap.size vB (vs.length - 1) (L1 ++ L2) := by
              have := hownB
              rwa [show at_ + (vs.length - (at_ + 1)) = vs.length - 1 from by omega] at this
            have hqB : ∀ q, vB.ownBlock = some q → w1.heap.size ≤ q := fun q hq => (hoB.lt q hq).1
            have hcB : VCell wB vB.ownBlock rs (L1 ++ L2) := by
              rw [hrs, hrse]
              exact (HL1.out.app HL2.out).imp fun V xs hi => IntsF.of_old hi.intsV hBA hqB
            obtain ⟨AR, cR, rfl, hRc, hRm⟩ := hoB.form
            have hVR : Verts wB AR rs := hcB.verts hoB hrl
            have hvr : ∀ v ∈ rs, v ∈ vs := fun v hv => by rw [hrs] at hv; exact List.mem_of_mem_eraseIdx hv
            have hvb : ∀ v ∈ rs, v.1.length ≤ 1000 ∧ v.2.length ≤ 1000 ∧ ∀ c ∈ v.2, 0 ≤ c ∧ (wNum rs n)[c.toNat]? = some ((fun c => (numW rs c : Int)) c.toNat) := by
              intro v hv
              have h1 := vtxB_bd (List.all_eq_true.1 HAll.out v (hvr v hv))
              refine ⟨by omega, by omega, fun c hc => ?_⟩
              have h2 := (h1.2.2.2.2 c hc).1
              have h3 := (ncGo_le 0 vs).2 v (hvr v hv) c hc
              have h4 := HN.out
              unfold ncr at h4
              exact ⟨h2, wNum_get (by omega)⟩
            have hres : withoutL vs at_ = rs.map (renV fun c => (numW rs c : Int)) := by unfold withoutL; rw [hrs]
            have hvx : ∀ v ∈ vs, v.2.length ≤ 1000000 ∧ ∀ x ∈ v.2, 0 ≤ x ∧ x ≤ 9 := fun v hv => by
              have h1 := vtxB_bd (List.all_eq_true.1 HAll.out v hv)
              exact ⟨by omega, h1.2.2.2.2⟩
            have hB2 : Below w.heap.size w wB := HB.out.trans (hBA.mono HB.out.size)
            have HVR := Lib.hid hVR
            have HVB := Lib.hid hvb
            have HRes := Lib.hid hres
            have HVX := Lib.hid hvx
            have HB2 := Lib.hid hB2
            have HRL := Lib.hid hrl
            have hcl : ∀ W : World, Below w.heap.size w W → Calls Try.prog 51 #[.slice (some ⟨b, off, none⟩) vs.length cap] W fun e w' => e = .returned (.int .i64 n) ∧ W = w' := fun W hW => by
              have h1 := spec_l6pCreases (some ⟨b, off, none⟩) cap vs W (h.below hW) (by omega) HVX.out
              have h2 : ncr vs = (n : Int) := by have := HN.out; omega
              rwa [h2] at h1
            have HCL := Lib.hid hcl
            obtain ⟨w5, hw5⟩ : ∃ w5, w5 = wB.alloc (.cells #[] 3) := ⟨_, rfl⟩
            have HB5 : Hid (Below wB.heap.size wB w5) := by show Below _ _ _; rw [hw5]; exact (Below.refl _ _).alloc (Nat.le_refl _) _
            have HO5 : Hid (Own w5 wB.heap.size (.slice (some ⟨wB.heap.size, 0, none⟩) 0 0) (wNum rs 0)) := by show Own _ _ _ _; rw [hw5]; exact own_empty wB (Nat.le_refl _)
            have HW5 := Lib.hid hw5
            have hn10 : n ≤ 10 := by have := HN.out; omega
            clear hrsl hrse hrs hBA hownB hoB hqB hcB hVR hvr hvb hres hvx hB2 hcl hw5 hbA' hmA hmB hrA hrB hgA hgB hownA HN1 HN2 HO1 HO2 hA0 hbA hbB HL1 HL2 HS1 HS2 hrl kw kt hv1
            go_wp2_with fail
            rw [← HW5.out]
            go_loopg [7, 8, 9] (n + 1) (fun gg s7 s8 s9 wr => ∃ (j q : Nat), j ≤ n ∧ s9 = .int .i64 j ∧ s8 = .int .i64 q ∧ Hid (q = numW rs j) ∧ n - j < gg ∧ Hid (Own wr wB.heap.size s7 (wNum rs j)) ∧ Hid (Below wB.heap.size wB wr))
            case atStart => exact ⟨0, 0, Nat.zero_le _, rfl, rfl, rfl, by omega, HO5, HB5⟩
            case round =>
              clear HO5 HB5 HW5
              obtain ⟨j, q, hj, rfl, rfl, HQ, hg, HO, HBx⟩ := hrel
              cases gk with
              | zero => omega
              | succ gg =>
              have hzB := HB2.out.size
              have hbw : Below w.heap.size w wr := HB2.out.trans (HBx.out.mono hzB)
              have HBW := Lib.hid hbw
              clear hbw
              by_cases hlt : j < n
              · have j1 : (j : Int) < (n : Int) := by omega
                have hqle : q ≤ 10 := by have := HQ.out; have := numW_le rs j; omega
                have hown := HO.out
                have hln : (wNum rs j).length ≤ 10 := by rw [wNum_len]; omega
                have HT := Lib.hid (wNum_succ rs j)
                have hq := HQ.out
                rw [← hq] at HT
                have hsz := HBx.out.size
                obtain ⟨u, hu⟩ : ∃ u, u = useN rs (j : Int) := ⟨_, rfl⟩
                have HU := Lib.hid hu
                have hcu : ∀ W : World, Below wB.heap.size wB W → Calls Try.prog 52 #[.slice AR (vs.length - 1) cR, .int .i64 j] W fun e w' => e = .returned (.int .i64 (u : Int)) ∧ W = w' := fun W hW => by
                  have h1 := spec_l6pUses AR cR rs (j : Int) W (HVR.out.below hW) (by rw [HRL.out]; omega)
                  rw [HRL.out, ← hu] at h1
                  exact h1
                have HCU := Lib.hid hcu
                clear hq hu hcu
                go_wp2_with fail
                refine (HCL.out wr HBW.out).mono ?_
                rintro e w' ⟨rfl, rfl⟩
                go_wp2_with (at_builtin; go_loud (refine wpList_push (W := wr) rfl _ _ rfl wB.heap.size _ _ (q : Int) (by rfl) (by rfl) hown hsz (by omega) ?_))
                intro v' w4 hown4 hgr4 hb4
                rw [← HT.out] at hown4
                have HO4 := Lib.hid hown4
                have HB4 := Lib.hid (HBx.out.trans hb4)
                clear hown hown4 hgr4 hb4 hln HO HBx HBW
                go_wp2_with fail
                refine (HCU.out w4 HB4.out).mono ?_
                rintro e w' ⟨rfl, rfl⟩
                by_cases hu0 : 0 < u
                · have du : decide ((0 : Int) < (u : Int)) = true := by simp; omega
                  have HQ2 : Hid (q + 1 = numW rs (j + 1)) := by show _ = _; rw [numW, if_pos (by rw [← HU.out]; exact hu0), HQ.out]
                  go_wp2_with fail
                  go_roundg gg
                  case measure => omega
                  case rel => exact ⟨j + 1, q + 1, by omega, by go_num, by go_num, HQ2, by omega, HO4, HB4⟩
                · have du : decide ((0 : Int) < (u : Int)) = false := by simp; omega
                  have HQ2 : Hid (q = numW rs (j + 1)) := by show _ = _; rw [numW, if_neg (by rw [← HU.out]; exact hu0), HQ.out]; rfl
                  go_wp2_with fail
                  go_roundg gg
                  case measure => omega
                  case rel => exact ⟨j + 1, q, by omega, by go_num, rfl, HQ2, by omega, HO4, HB4⟩
              · obtain rfl : j = n := by omega
                obtain ⟨AN, cN, rfl, hNI, _, _⟩ := HO.out.form
                have hco : Calls Try.prog 55 #[.slice AR (vs.length - 1) cR, .slice AN j cN] wr (VRowOf wr (rs.map (renV fun c => (numW rs c : Int)))) := by
                  have h1 := spec_l6pOther AR AN cR cN rs (wNum rs j) (fun c => (numW rs c : Int)) wr (HVR.out.below HBx.out) hNI (by rw [HRL.out]; omega) (by rw [wNum_len]; omega) HVB.out
                  rw [HRL.out, wNum_len] at h1
                  exact h1
                have HCO := Lib.hid hco
                rw [wNum_len]
                clear hNI hco
                go_wp2_with fail
                refine (HCL.out wr HBW.out).mono ?_
                rintro e w' ⟨rfl, rfl⟩
                go_wp2_with fail
                refine HCO.out.mono ?_
                rintro e w6 ⟨v6, L6, rfl, ho6, hc6, hb6, _⟩
                have hml : (rs.map (renV fun c => (numW rs c : Int))).length = vs.length - 1 := by rw [List.length_map]; exact HRL.out
                rw [hml] at ho6
                obtain ⟨A6, c6, rfl, h61, h62⟩ := ho6.form
                have hv6 := hc6.verts ho6 hml
                have HV6 := Lib.hid hv6
                have HML := Lib.hid hml
                have HB6 := Lib.hid (HBW.out.trans (hb6.mono HBW.out.size))
                clear ho6 hc6 hb6 hv6 hml
                go_wp2_with fail
                go_ret2
                exact ⟨A6, c6, by rw [HWO.out, HW.out, HRes.out, HML.out]; rfl, by rw [HWO.out, HRes.out]; exact HV6.out, by rw [HWO.out, HRes.out, HML.out]; exact h61, h62, HB6.out⟩
    · have hin : inB z 0 ((vs.length : Int) - 1) = false := by unfold inB; simp only [Bool.and_eq_false_iff, decide_eq_false_iff_not]; omega
      have hw : withoutB vs z = false := by
        rw [HWB.out]
        rcases (show z < 0 ∨ 0 ≤ z by omega) with g | g
        · rw [decide_eq_false (by omega)]; rfl
        · rw [decide_eq_false (p := z < (vs.length : Int)) (by omega), Bool.and_false]; rfl
      have HW := Lib.hid hw
      have HIn := Lib.hid hin
      clear hw hin
      go_wp2_with fail
      refine (spec_l6In _ _ _ w1).mono ?_
      rintro e w' ⟨rfl, rfl⟩
      rw [HIn.out]
      go_wp2_with fail
      go_ret2
      exact HNo.out HW.out w1 HB.out
end Go.Proofs.Ytnccpifdajcejaa
