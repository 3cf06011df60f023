/- The program's renumbered: a vertex of its own with other numbers; slices.Clone of integers. No condition but sizes. The laws' own helpers that mark a list of integers and ask whether it still holds its marks. No condition but sizes. Copies of vertices whose lists are rows of their own, each another one; marking them. No condition but sizes. -/
import Derived.Lib.SliceRun
import Derived.Test.YtnccpifdajcejaaPushV
import Derived.Test.YtnccpifdajcejaaPatK
import Derived.Test.YtnccpifdajcejaaFnPatternWithoutP48
import Derived.Test.YtnccpifdajcejaaVertB
import Derived.Test.YtnccpifdajcejaaLawA
import Derived.Test.YtnccpifdajcejaaFnPatternWithoutP42
import Derived.Test.YtnccpifdajcejaaPush
namespace Go.Proofs.Ytnccpifdajcejaa
open Go.RowKit

set_option maxHeartbeats 1000000 in
set_option maxRecDepth 100000 in
theorem slices_Clone (b off cap : Nat) (xs : List Int) (w : World) (h : Ints w (some ⟨b, off, none⟩) xs) (hl : xs.length ≤ 1000000) :
    Calls Try.prog 76 #[.slice (some ⟨b, off, none⟩) xs.length cap] w fun e w' => ∃ v, e = .returned v ∧ Own w' w.heap.size v xs ∧ Below w.heap.size w w' := by
  obtain ⟨w1, hw1⟩ : ∃ w1, w1 = w.alloc (.cells #[] 3) := ⟨_, rfl⟩
  have hb1 : Below w.heap.size w w1 := by rw [hw1]; exact (Below.refl _ _).alloc (Nat.le_refl _) _
  have ho1 : Own w1 w.heap.size (.slice (some ⟨w.heap.size, 0, none⟩) 0 0) [] := by rw [hw1]; exact own_empty w (Nat.le_refl _)
  have HW := Lib.hid hw1
  clear hw1
  go_enter Try.func76, Try.ntmps76
  go_wp2_with fail
  rw [Lib.run_eql_slice_nil _ _ _ _ _ _ _ _ Try.underlying27]
  go_wp2_with (at_builtin; go_loud (rw [← HW.out]; refine wpList_app (by rfl) _ _ (by rfl) w.heap.size _ [] xs _ _ (by rfl) xs.length rfl (by rfl) ho1 (h.below hb1) hb1.size (by simp; omega) ?_))
  intro v' w2 ho2 hg2 hb2
  go_wp2_with fail
  go_ret
  exact ⟨v', rfl, by simpa using ho2, hb1.trans hb2⟩

theorem map_take_succ {cs : List Int} {f : Int → Int} {k : Nat} (h : k < cs.length) : (cs.take (k + 1)).map f = (cs.take k).map f ++ [f cs[k]] := by
  rw [List.take_succ_eq_append_getElem h, List.map_append]; rfl

set_option maxHeartbeats 2000000 in
set_option maxRecDepth 100000 in
theorem impl_renumbered (A1 A2 AN : Option Addr) (c1 c2 cN : Nat) (xs cs ns : List Int) (f : Nat → Int) (w : World) (h1 : Ints w A1 xs) (h2 : Ints w A2 cs) (hN : Ints w AN ns) (l0 : 0 < xs.length) (l1 : xs.length ≤ 1000) (l2 : cs.length ≤ 1000) (hx : ∀ c ∈ cs, 0 ≤ c ∧ ns[c.toNat]? = some (f c.toNat)) (hnl : ns.length ≤ 1000) :
    Calls Try.prog 54 #[.agg #[.slice A1 xs.length c1, .slice A2 cs.length c2], .slice AN ns.length cN] w fun e w' => ∃ U V, e = .returned (.agg #[U, V]) ∧ Own w' w.heap.size U xs ∧ Own w' w.heap.size V (cs.map fun c => f c.toNat) ∧ (U.ownBlock = none ∨ U.ownBlock ≠ V.ownBlock) ∧ Below w.heap.size w w' := by
  obtain ⟨i0, hi, hz0, hz1, hz2⟩ := info_parts Try.infoInt
  obtain ⟨b1, off1, _, rfl, _, _, _, _⟩ := h1.at_ l0
  obtain ⟨w2, hw2⟩ : ∃ w2, w2 = ((w.alloc (.cells #[.slice (some ⟨b1, off1, none⟩) xs.length c1, .slice A2 cs.length c2] 30)).alloc (.cells #[.slice none 0 0, .slice none 0 0] 30)) := ⟨_, rfl⟩
  have b2 : Below w.heap.size w w2 := by rw [hw2]; exact ((Below.refl _ _).alloc (Nat.le_refl _) _).alloc (by simp) _
  have K0 : Blk w2 w.heap.size 30 #[.slice (some ⟨b1, off1, none⟩) xs.length c1, .slice A2 cs.length c2] := by rw [hw2]; exact (Blk.new w _ _).alloc _
  have K1 : Blk w2 (w.heap.size + 1) 30 #[.slice none 0 0, .slice none 0 0] := by
    rw [hw2]
    have := Blk.new (w.alloc (.cells #[.slice (some ⟨b1, off1, none⟩) xs.length c1, .slice A2 cs.length c2] 30)) 30 #[.slice none 0 0, .slice none 0 0]
    simpa using this
  have s2 : w2.heap.size = w.heap.size + 2 := by rw [hw2]; simp
  have HW := Lib.hid hw2
  have HX := Lib.hid hx
  obtain ⟨w3, hrun, hown3, hg3⟩ := run_make_own (P := Try.prog) w2 w2.heap.size 27 3 i0 (.int .i64 0) 1 Try.underlying27 hi hz0 hz1 .i64 .i64 cs.length (by rw [hz2]; omega) (by unfold maxLen; omega) (Nat.le_refl _)
  have HRun := Lib.hid hrun
  have HS2 := Lib.hid s2
  have HK0 := Lib.hid K0
  have HK1 := Lib.hid K1
  have HI1 := Lib.hid (h1.below b2)
  have HI2 := Lib.hid (h2.below b2)
  have HIN := Lib.hid (hN.below b2)
  have HB2 := Lib.hid b2
  have e01 := K0.cell 1
  clear hw2 hx s2 K0 K1 h1 h2 hN b2
  go_enter Try.func54, Try.ntmps54
  go_wp2_with fail
  rw [← HW.out]
  go_wp2_with fail
  rw [HRun.out]
  have hb3 : Below w2.heap.size w2 w3 := (Below.refl _ _).grown hg3 (Nat.le_refl _) (by intro k hk; cases hk)
  have hown3' : Own w3 w2.heap.size (.slice (some ⟨w2.heap.size, 0, none⟩) 0 cs.length) ((cs.take 0).map fun c => f c.toNat) := hown3
  have hb3' : Below w.heap.size w w3 := HB2.out.trans (hb3.mono HB2.out.size)
  have hk03 := HK0.out.below hb3 HK0.out.lt
  have e01' := hk03.cell 1
  have HO3 := Lib.hid hown3'
  have HB3 := Lib.hid hb3
  clear hi hz0 hz1 hz2 hrun hown3 hown3' hg3 hb3 hk03 e01 hb3'
  go_wp2_with fail
  go_loopg [5, 7, 15] (cs.length + 1) (fun gg s5 s7 s15 wr => ∃ (k : Nat), s7 = s7 ∧ k ≤ cs.length ∧ s15 = .int .i64 k ∧ cs.length - k < gg ∧ Own wr w2.heap.size s5 ((cs.take k).map fun c => f c.toNat) ∧ Hid (Below w2.heap.size w2 wr))
  case atStart => exact ⟨0, rfl, Nat.zero_le _, rfl, by omega, HO3.out, HB3⟩
  case round =>
    clear HO3 HB3 e01'
    obtain ⟨k, _, hk, rfl, hg, hown, HB⟩ := hrel
    cases gk with
    | zero => omega
    | succ gg =>
    by_cases hlt : k < cs.length
    · obtain ⟨m, hm⟩ : ∃ m : Nat, cs[k] = (m : Int) := ⟨cs[k].toNat, by have := HX.out cs[k] (List.getElem_mem hlt); omega⟩
      have hnm : ns[m]? = some (f m) := by have := (HX.out cs[k] (List.getElem_mem hlt)).2; rw [hm] at this; simpa using this
      have hml : m < ns.length := (List.getElem?_eq_some_iff.1 hnm).1
      obtain ⟨b, off, rfl, hb, hc⟩ := (HI2.out.below HB.out) (by intro e; subst e; simp at hlt)
      have r1 := hc k cs[k] (List.getElem?_eq_getElem hlt)
      rw [hm] at r1
      obtain ⟨bN, offN, rfl, hbN, hcN⟩ := (HIN.out.below HB.out) (by intro e; subst e; simp at hml)
      have r2 := hcN m _ hnm
      have HT : Hid ((cs.take (k + 1)).map (fun c => f c.toNat) = (cs.take k).map (fun c => f c.toNat) ++ [f m]) := by
        show _ = _
        rw [map_take_succ hlt, hm]; rfl
      obtain ⟨z, hz⟩ : ∃ z, z = f m := ⟨_, rfl⟩
      rw [← hz] at r2 HT
      have k1 : (k : Int) < (cs.length : Int) := by omega
      have k0 : (0 : Int) ≤ (k : Int) := by omega
      have m0 : (0 : Int) ≤ (m : Int) := by omega
      have m1 : (m : Int) < (ns.length : Int) := by omega
      have hsz := HB.out.size
      have hln : ((cs.take k).map fun c => f c.toNat).length ≤ 1000 := by rw [List.length_map, List.length_take]; omega
      obtain ⟨ys, hys⟩ : ∃ ys, ys = (cs.take k).map fun c => f c.toNat := ⟨_, rfl⟩
      rw [← hys] at hown hln HT
      have HYS := Lib.hid hys
      clear hm hc hcN hnm hz hys
      go_wp2_with (at_builtin; go_loud (refine wpList_push (W := wr) rfl _ _ rfl w2.heap.size _ _ z (by rfl) (by rfl) hown hsz (by omega) ?_))
      intro v' w4 hown4 hgr4 hb4
      rw [← HT.out] at hown4
      have HB4 := Lib.hid (HB.out.trans hb4)
      clear hown hgr4 hb4 r1 r2 hln
      go_wp2_with fail
      go_roundg gg
      case measure => omega
      case rel => exact ⟨k + 1, trivial, by omega, by go_num, by omega, hown4, HB4⟩
    · obtain rfl : k = cs.length := by omega
      rw [List.take_length] at hown
      have hk0 := HK0.out.below HB.out HK0.out.lt
      have hk1 := HK1.out.below HB.out HK1.out.lt
      have e00 := hk0.cell 0
      have hsz := HB.out.size
      have hwr : w.heap.size < wr.heap.size := by have := HS2.out; omega
      have HK1' := Lib.hid hk1
      have hB := HS2.out
      have HS := Lib.hid hB
      obtain ⟨A5, c5, rfl, i5, k5, m5⟩ := hown.form
      have HOwn := Lib.hid hown
      clear hk0 hk1 hB i5 hown
      go_wp2_with fail
      refine (slices_Clone b1 off1 c1 xs wr (HI1.out.below HB.out) (by omega)).mono ?_
      rintro e w4 ⟨U, rfl, oU, hb4⟩
      obtain ⟨A4, c4, rfl, i4, k4, m4⟩ := oU.form
      have hk1' := HK1'.out.below hb4 HK1'.out.lt
      have oV : Own w4 w2.heap.size _ (cs.map fun c => f c.toNat) := own_below2' HOwn.out hb4
      have f0 := hk1'.frozen 0
      have f1 := hk1'.frozen 1
      have g0 := hk1'.cell 0
      have g1 := hk1'.cell 1
      have hs := HS.out
      have hUV : (Value.slice A4 xs.length c4).ownBlock = none ∨ (Value.slice A4 xs.length c4).ownBlock ≠ (Value.slice A5 (cs.map fun c => f c.toNat).length c5).ownBlock := by
        cases hU : (Value.slice A4 xs.length c4).ownBlock with
        | none => exact Or.inl rfl
        | some q =>
          right
          intro e
          have h3 := (oU.lt q hU).1
          have h4 := (HOwn.out.lt q e.symm).2
          omega
      rw [List.length_map] at hUV
      obtain ⟨w5, hw5⟩ : ∃ w5, w5 = (w4.setCell ⟨w.heap.size + 1, 0, none⟩ (Value.slice A4 xs.length c4)).setCell ⟨w.heap.size + 1, 1, none⟩ (Value.slice A5 cs.length c5) := ⟨_, rfl⟩
      have hK5 : Blk w5 (w.heap.size + 1) 30 #[Value.slice A4 xs.length c4, Value.slice A5 cs.length c5] := by
        rw [hw5]; exact (hk1'.set_ 0 _).set_ 1 _
      have d0 := hK5.cell 0
      have d1 := hK5.cell 1
      have oU5 : Own w5 w.heap.size (.slice A4 xs.length c4) xs := by
        rw [hw5]
        exact own_lower' (own_far (own_far oU (by omega) _ _) (by omega) _ _) (by omega)
      have oV5 : Own w5 w.heap.size (.slice A5 cs.length c5) (cs.map fun c => f c.toNat) := by
        rw [hw5]
        have oV' : Own w4 w2.heap.size (.slice A5 cs.length c5) (cs.map fun c => f c.toNat) := by
          have := oV
          rwa [List.length_map] at this
        exact own_lower' (own_far (own_far oV' (by omega) _ _) (by omega) _ _) (by omega)
      have b5 : Below w.heap.size w w5 := by
        rw [hw5]
        exact (((HB2.out.trans (HB.out.mono (by omega))).trans (hb4.mono (by omega))).trans (below_set w4 0 _ (by omega))).trans (below_set _ 1 _ (by omega))
      have HW5 := Lib.hid hw5
      have HD := Lib.hid (show w5.cell? ⟨w.heap.size + 1, 0, none⟩ = some (Value.slice A4 xs.length c4) ∧ w5.cell? ⟨w.heap.size + 1, 1, none⟩ = some (Value.slice A5 cs.length c5) from ⟨d0, d1⟩)
      clear d0 d1 hw5 hK5 hk1' oU oV
      go_wp2_with fail
      rw [← HW5.out]
      refine bodyPost_ret (v := .agg #[Value.slice A4 xs.length c4, Value.slice A5 cs.length c5]) (by simp [results, Try.results54, go_sem, HD.out.1, HD.out.2]) rfl ⟨_, _, rfl, oU5, oV5, hUV, b5⟩
end Go.Proofs.Ytnccpifdajcejaa
namespace Go.Proofs.Ytnccpifdajcejaa
open Go.RowKit

/-- the numbers from k on, n of them -/
def countFrom (k : Int) (n : Nat) : List Int := (List.range n).map fun (i : Nat) => k + (i : Int)
theorem countFrom_len (k : Int) (n : Nat) : (countFrom k n).length = n := by simp [countFrom]
theorem countFrom_get (k : Int) (n i : Nat) (h : i < n) : (countFrom k n)[i]? = some (k + (i : Int)) := by
  simp [countFrom, h]

theorem mark_step {xs : List Int} {k : Int} {j : Nat} (h : j < xs.length) :
    ((countFrom k j ++ xs.drop j).map (Value.int .i64)).set j (.int .i64 (k + (j : Int))) = (countFrom k (j + 1) ++ xs.drop (j + 1)).map (Value.int .i64) := by
  rw [← List.map_set]
  congr 1
  rw [List.set_append_right _ _ (by rw [countFrom_len]; exact Nat.le_refl _), countFrom_len, Nat.sub_self, List.drop_eq_getElem_cons h, List.set_cons_zero]
  simp [countFrom, List.range_succ]

end Go.Proofs.Ytnccpifdajcejaa
namespace Go.Proofs.Ytnccpifdajcejaa
open Go.RowKit

theorem size_set' (w : World) (p : Addr) (v : Value) : (w.setCell p v).heap.size = w.heap.size := by simp
theorem own_below2 {w w' : World} {B : Nat} {e : TypeId} {z n : Nat} {v : Value} {xs : List Value} (h : w.ownsRow B e z v n xs) (hb : Below w.heap.size w w') : w'.ownsRow B e z v n xs :=
  h.kept (row := none) ⟨hb.os, hb.tape, hb.output, hb.size, fun i hi _ => hb.block i hi⟩ (by cases hv : v.ownBlock <;> simp)
/-- the first k vertices lie in the row's cells L, each list a row of its own below H -/
def RowOw (w : World) (g H : Nat) (vs : List Vx) (L : List Value) (k : Nat) : Prop :=
  (∀ i v, i < k → vs[i]? = some v → ∃ U V, L[i * 2]? = some U ∧ L[i * 2 + 1]? = some V ∧ Own w (g + 1) U v.1 ∧ Own w (g + 1) V v.2) ∧
  (∀ i j U V, i < j → j < k * 2 → L[i]? = some U → L[j]? = some V → V.ownBlock = none ∨ V.ownBlock ≠ U.ownBlock) ∧
  (∀ i U q, i < k * 2 → L[i]? = some U → U.ownBlock = some q → q < H)
theorem RowOw.zero (w : World) (g H : Nat) (vs : List Vx) (L : List Value) : RowOw w g H vs L 0 := ⟨fun i v hi => by omega, fun i j U V _ hj => by omega, fun i U q hi => by omega⟩
theorem RowOw.below {w w' : World} {g H : Nat} {vs : List Vx} {L : List Value} {k : Nat} (h : RowOw w g H vs L k) (hb : Below w.heap.size w w') : RowOw w' g H vs L k := by
  refine ⟨fun i v hi hv => ?_, h.2.1, h.2.2⟩
  obtain ⟨U, V, e1, e2, e3, e4⟩ := h.1 i v hi hv
  exact ⟨U, V, e1, e2, own_below2 e3 hb, own_below2 e4 hb⟩
theorem RowOw.far {w : World} {g H : Nat} {vs : List Vx} {L : List Value} {k : Nat} (h : RowOw w g H vs L k) {i : Nat} {u : Value} : RowOw (w.setCell ⟨g, i, none⟩ u) g H vs L k := by
  refine ⟨fun i v hi hv => ?_, h.2.1, h.2.2⟩
  obtain ⟨U, V, e1, e2, e3, e4⟩ := h.1 i v hi hv
  exact ⟨U, V, e1, e2, own_far e3 (by omega) _ _, own_far e4 (by omega) _ _⟩
theorem RowOw.rowTo {w : World} {g H : Nat} {vs : List Vx} {L : List Value} {k : Nat} (h : RowOw w g H vs L k) : RowTo w g vs L k := by
  intro i v hi hv
  obtain ⟨U, V, e1, e2, e3, e4⟩ := h.1 i v hi hv
  exact ⟨U, V, e1, e2, IntsA.of_own e3 (by omega), IntsA.of_own e4 (by omega)⟩
theorem RowOw.next {w : World} {g H : Nat} {vs : List Vx} {L : List Value} {k : Nat} (h : RowOw w g H vs L k) {xs cs : List Int} {U V : Value} (hL : k * 2 + 1 < L.length) (hk : vs[k]? = some (xs, cs)) (hU : Own w H U xs) (hV : Own w H V cs) (hUV : U.ownBlock = none ∨ U.ownBlock ≠ V.ownBlock) (hg : g < H) (hH : H ≤ w.heap.size) :
    RowOw w g w.heap.size vs ((L.set (k * 2) U).set (k * 2 + 1) V) (k + 1) := by
  obtain ⟨h1, h2, h3⟩ := h
  have get : ∀ i X, i < (k + 1) * 2 → ((L.set (k * 2) U).set (k * 2 + 1) V)[i]? = some X → (i < k * 2 ∧ L[i]? = some X) ∨ (i = k * 2 ∧ X = U) ∨ (i = k * 2 + 1 ∧ X = V) := by
    intro i X hi hX
    by_cases e1 : i = k * 2 + 1
    · subst e1
      rw [List.getElem?_set_self (by rw [List.length_set]; omega)] at hX
      exact Or.inr (Or.inr ⟨rfl, (Option.some.inj hX).symm⟩)
    · rw [List.getElem?_set_ne (by omega)] at hX
      by_cases e2 : i = k * 2
      · subst e2
        rw [List.getElem?_set_self (by omega)] at hX
        exact Or.inr (Or.inl ⟨rfl, (Option.some.inj hX).symm⟩)
      · rw [List.getElem?_set_ne (by omega)] at hX
        exact Or.inl ⟨by omega, hX⟩
  refine ⟨fun i v hi hv => ?_, fun i j X Y hij hj hX hY => ?_, fun i X q hi hX hq => ?_⟩
  · by_cases e : i = k
    · subst e
      rw [hk] at hv
      have hv2 := Option.some.inj hv
      subst hv2
      refine ⟨U, V, ?_, ?_, own_lower' hU (by omega), own_lower' hV (by omega)⟩
      · rw [List.getElem?_set_ne (by omega), List.getElem?_set_self (by omega)]
      · rw [List.getElem?_set_self (by rw [List.length_set]; omega)]
    · obtain ⟨X, Y, e1, e2, e3, e4⟩ := h1 i v (by omega) hv
      refine ⟨X, Y, ?_, ?_, e3, e4⟩
      · rw [List.getElem?_set_ne (by omega), List.getElem?_set_ne (by omega)]; exact e1
      · rw [List.getElem?_set_ne (by omega), List.getElem?_set_ne (by omega)]; exact e2
  · have low : ∀ i X, i < k * 2 → L[i]? = some X → ∀ Z : Value, (∀ q, Z.ownBlock = some q → H ≤ q) → Z.ownBlock = none ∨ Z.ownBlock ≠ X.ownBlock := by
      intro i X hi hX Z hZ
      cases hz : Z.ownBlock with
      | none => exact Or.inl rfl
      | some q =>
        right
        intro e
        have a1 := hZ q hz
        have a2 := h3 i X q hi hX e.symm
        omega
    rcases get i X (by omega) hX with ⟨a1, a2⟩ | ⟨a1, a2⟩ | ⟨a1, a2⟩ <;> rcases get j Y hj hY with ⟨b1, b2⟩ | ⟨b1, b2⟩ | ⟨b1, b2⟩
    · exact h2 i j X Y hij b1 a2 b2
    · subst b2; exact low i X a1 a2 _ (fun q hq => (hU.lt q hq).1)
    · subst b2; exact low i X a1 a2 _ (fun q hq => (hV.lt q hq).1)
    · omega
    · omega
    · subst a2 b2
      rcases hUV with e | e
      · cases hy : Y.ownBlock with
        | none => exact Or.inl rfl
        | some q => right; rw [e]; simp
      · exact Or.inr (fun e2 => e e2.symm)
    · omega
    · omega
    · omega
  · rcases get i X hi hX with ⟨a1, a2⟩ | ⟨a1, a2⟩ | ⟨a1, a2⟩
    · have := h3 i X q a1 a2 hq; omega
    · subst a2; exact (hU.lt q hq).2
    · subst a2; exact (hV.lt q hq).2


end Go.Proofs.Ytnccpifdajcejaa
