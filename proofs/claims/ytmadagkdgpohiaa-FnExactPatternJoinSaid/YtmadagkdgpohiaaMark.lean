/- Copies of vertices whose lists are rows of their own, each another one; marking them. No condition but sizes. -/
import Derived.Test.YtmadagkdgpohiaaVertC
import Derived.Test.YtmadagkdgpohiaaLawB
import Derived.Test.YtmadagkdgpohiaaPush
namespace Go.Proofs.Ytmadagkdgpohiaa
open Go.RowKit

theorem size_set' (w : World) (p : Addr) (v : Value) : (w.setCell p v).heap.size = w.heap.size := by simp
theorem own_below2 {w w' : World} {B : Nat} {e : TypeId} {z n : Nat} {v : Value} {xs : List Value} (h : w.ownsRow B e z v n xs) (hb : Below w.heap.size w w') : w'.ownsRow B e z v n xs :=
  h.kept (row := none) ⟨hb.os, hb.tape, hb.output, hb.size, fun i hi _ => hb.block i hi⟩ (by cases hv : v.ownBlock <;> simp)
/-- the first k vertices lie in the row's cells L, each list a row of its own below H -/
def RowOw (w : World) (g H : Nat) (vs : List Vx) (L : List Value) (k : Nat) : Prop :=
  (∀ i v, i < k → vs[i]? = some v → ∃ U V, L[i * 2]? = some U ∧ L[i * 2 + 1]? = some V ∧ Own w (g + 1) U v.1 ∧ Own w (g + 1) V v.2) ∧
  (∀ i j U V, i < j → j < k * 2 → L[i]? = some U → L[j]? = some V → V.ownBlock = none ∨ V.ownBlock ≠ U.ownBlock) ∧
  (∀ i U q, i < k * 2 → L[i]? = some U → U.ownBlock = some q → q < H)
theorem RowOw.zero (w : World) (g H : Nat) (vs : List Vx) (L : List Value) : RowOw w g H vs L 0 := ⟨fun i v hi => by omega, fun i j U V _ hj => by omega, fun i U q hi => by omega⟩
theorem RowOw.below {w w' : World} {g H : Nat} {vs : List Vx} {L : List Value} {k : Nat} (h : RowOw w g H vs L k) (hb : Below w.heap.size w w') : RowOw w' g H vs L k := by
  refine ⟨fun i v hi hv => ?_, h.2.1, h.2.2⟩
  obtain ⟨U, V, e1, e2, e3, e4⟩ := h.1 i v hi hv
  exact ⟨U, V, e1, e2, own_below2 e3 hb, own_below2 e4 hb⟩
theorem RowOw.far {w : World} {g H : Nat} {vs : List Vx} {L : List Value} {k : Nat} (h : RowOw w g H vs L k) {i : Nat} {u : Value} : RowOw (w.setCell ⟨g, i, none⟩ u) g H vs L k := by
  refine ⟨fun i v hi hv => ?_, h.2.1, h.2.2⟩
  obtain ⟨U, V, e1, e2, e3, e4⟩ := h.1 i v hi hv
  exact ⟨U, V, e1, e2, own_far e3 (by omega) _ _, own_far e4 (by omega) _ _⟩
theorem RowOw.rowTo {w : World} {g H : Nat} {vs : List Vx} {L : List Value} {k : Nat} (h : RowOw w g H vs L k) : RowTo w g vs L k := by
  intro i v hi hv
  obtain ⟨U, V, e1, e2, e3, e4⟩ := h.1 i v hi hv
  exact ⟨U, V, e1, e2, IntsA.of_own e3 (by omega), IntsA.of_own e4 (by omega)⟩
theorem RowOw.next {w : World} {g H : Nat} {vs : List Vx} {L : List Value} {k : Nat} (h : RowOw w g H vs L k) {xs cs : List Int} {U V : Value} (hL : k * 2 + 1 < L.length) (hk : vs[k]? = some (xs, cs)) (hU : Own w H U xs) (hV : Own w H V cs) (hUV : U.ownBlock = none ∨ U.ownBlock ≠ V.ownBlock) (hg : g < H) (hH : H ≤ w.heap.size) :
    RowOw w g w.heap.size vs ((L.set (k * 2) U).set (k * 2 + 1) V) (k + 1) := by
  obtain ⟨h1, h2, h3⟩ := h
  have get : ∀ i X, i < (k + 1) * 2 → ((L.set (k * 2) U).set (k * 2 + 1) V)[i]? = some X → (i < k * 2 ∧ L[i]? = some X) ∨ (i = k * 2 ∧ X = U) ∨ (i = k * 2 + 1 ∧ X = V) := by
    intro i X hi hX
    by_cases e1 : i = k * 2 + 1
    · subst e1
      rw [List.getElem?_set_self (by rw [List.length_set]; omega)] at hX
      exact Or.inr (Or.inr ⟨rfl, (Option.some.inj hX).symm⟩)
    · rw [List.getElem?_set_ne (by omega)] at hX
      by_cases e2 : i = k * 2
      · subst e2
        rw [List.getElem?_set_self (by omega)] at hX
        exact Or.inr (Or.inl ⟨rfl, (Option.some.inj hX).symm⟩)
      · rw [List.getElem?_set_ne (by omega)] at hX
        exact Or.inl ⟨by omega, hX⟩
  refine ⟨fun i v hi hv => ?_, fun i j X Y hij hj hX hY => ?_, fun i X q hi hX hq => ?_⟩
  · by_cases e : i = k
    · subst e
      rw [hk] at hv
      have hv2 := Option.some.inj hv
      subst hv2
      refine ⟨U, V, ?_, ?_, own_lower' hU (by omega), own_lower' hV (by omega)⟩
      · rw [List.getElem?_set_ne (by omega), List.getElem?_set_self (by omega)]
      · rw [List.getElem?_set_self (by rw [List.length_set]; omega)]
    · obtain ⟨X, Y, e1, e2, e3, e4⟩ := h1 i v (by omega) hv
      refine ⟨X, Y, ?_, ?_, e3, e4⟩
      · rw [List.getElem?_set_ne (by omega), List.getElem?_set_ne (by omega)]; exact e1
      · rw [List.getElem?_set_ne (by omega), List.getElem?_set_ne (by omega)]; exact e2
  · have low : ∀ i X, i < k * 2 → L[i]? = some X → ∀ Z : Value, (∀ q, Z.ownBlock = some q → H ≤ q) → Z.ownBlock = none ∨ Z.ownBlock ≠ X.ownBlock := by
      intro i X hi hX Z hZ
      cases hz : Z.ownBlock with
      | none => exact Or.inl rfl
      | some q =>
        right
        intro e
        have a1 := hZ q hz
        have a2 := h3 i X q hi hX e.symm
        omega
    rcases get i X (by omega) hX with ⟨a1, a2⟩ | ⟨a1, a2⟩ | ⟨a1, a2⟩ <;> rcases get j Y hj hY with ⟨b1, b2⟩ | ⟨b1, b2⟩ | ⟨b1, b2⟩
    · exact h2 i j X Y hij b1 a2 b2
    · subst b2; exact low i X a1 a2 _ (fun q hq => (hU.lt q hq).1)
    · subst b2; exact low i X a1 a2 _ (fun q hq => (hV.lt q hq).1)
    · omega
    · omega
    · subst a2 b2
      rcases hUV with e | e
      · cases hy : Y.ownBlock with
        | none => exact Or.inl rfl
        | some q => right; rw [e]; simp
      · exact Or.inr (fun e2 => e e2.symm)
    · omega
    · omega
    · omega
  · rcases get i X hi hX with ⟨a1, a2⟩ | ⟨a1, a2⟩ | ⟨a1, a2⟩
    · have := h3 i X q a1 a2 hq; omega
    · subst a2; exact (hU.lt q hq).2
    · subst a2; exact (hV.lt q hq).2

set_option maxHeartbeats 2000000 in
set_option maxRecDepth 100000 in
theorem laws_toVertexM (A : Option Addr) (cap : Nat) (vs : List Vx) (w : World) (h : Verts w A vs) (hl : vs.length ≤ 1048576) (hs : ∀ v ∈ vs, v.1.length ≤ 1048576 ∧ v.2.length ≤ 1048576) :
    Calls Try.prog 14 #[.slice A vs.length cap] w fun e w' => ∃ L, e = .returned (.slice (some ⟨w.heap.size, 0, none⟩) vs.length vs.length) ∧ RowV w' w.heap.size w.heap.size vs.length L ∧ RowOw w' w.heap.size w'.heap.size vs L vs.length ∧ Below w.heap.size w w' := by
  obtain ⟨i0, hi, hz0, hz1, hz2⟩ := info_parts Try.infoVx
  obtain ⟨w1, hrun, ho1, hg1⟩ := run_make_full (P := Try.prog) w w.heap.size 25 50 i0 (.agg #[.slice none 0 0, .slice none 0 0]) 2 Try.underlying25 hi hz0 hz1 .i64 .i64 vs.length (by rw [hz2]; omega) (by unfold maxLen; omega) (Nat.le_refl w.heap.size)
  have HRun := Lib.hid hrun
  have HB1 := Lib.hid ((Below.refl w.heap.size w).grown hg1 (Nat.le_refl _) (fun _ hh => by cases hh))
  have HO1 := Lib.hid (show RowV w1 w.heap.size w.heap.size vs.length _ from ho1)
  have HSz := Lib.hid hs
  clear hi hz0 hz1 hz2 hrun ho1 hg1 hs
  go_enter Try.func14, Try.ntmps14
  go_wp2_with fail
  rw [HRun.out]
  go_wp2_with fail
  go_loopg [4] (vs.length + 1) (fun gg s4 wr => ∃ (k : Nat) (L : List Value), k ≤ vs.length ∧ s4 = .int .i64 k ∧ vs.length - k < gg ∧ Hid (Below w.heap.size w wr) ∧ Hid (RowV wr w.heap.size w.heap.size vs.length L) ∧ Hid (RowOw wr w.heap.size wr.heap.size vs L k))
  case atStart => exact ⟨0, _, Nat.zero_le _, rfl, by omega, HB1, HO1, RowOw.zero _ _ _ _ _⟩
  case round =>
    clear HB1 HO1 HRun
    obtain ⟨k, L, hk, rfl, hg, HB, HO, HT⟩ := hrel
    cases gk with
    | zero => omega
    | succ gg =>
    by_cases hlt : k < vs.length
    · obtain ⟨b, off, A1, c1, A2, c2, rfl, hb, r1, r2, i1, l1, m1, i2, l2, m2⟩ := h.at_ hlt
      have r1w := (HB.out.cell (p := ⟨b, off + k * 2, none⟩) hb).trans r1
      have r2w := (HB.out.cell (p := ⟨b, off + k * 2 + 1, none⟩) hb).trans r2
      obtain ⟨xs, hxs⟩ : ∃ xs, xs = vs[k].1 := ⟨_, rfl⟩
      obtain ⟨cs, hcs⟩ : ∃ cs, cs = vs[k].2 := ⟨_, rfl⟩
      have hvk : vs[k] = (xs, cs) := by rw [hxs, hcs]
      obtain ⟨z1, z2⟩ := HSz.out vs[k] (List.getElem_mem hlt)
      rw [← hxs] at r1w i1 z1
      rw [← hcs] at r2w i2 z2
      have hlen : L.length = vs.length * 2 := HO.out.1
      have k1 : (k : Int) < (vs.length : Int) := by omega
      have k0 : (0 : Int) ≤ (k : Int) := by omega
      have hsz := HB.out.size
      have I1 := Lib.hid (i1.below HB.out)
      have I2 := Lib.hid (i2.below HB.out)
      have HVK := Lib.hid hvk
      have HLen := Lib.hid hlen
      have hgs : w.heap.size < wr.heap.size := (HO.out.lt _ rfl).2
      clear r1 r2 hxs hcs hvk i1 i2 l1 l2 hlen
      go_wp2_with fail
      refine (laws_toVertex A1 A2 c1 c2 xs cs wr I1.out I2.out z1 z2).mono ?_
      rintro e w2 ⟨U, V, rfl, oU, oV, hUV, hb2⟩
      obtain ⟨A3, c3, rfl, hIU, hcU, hmU⟩ := oU.form
      obtain ⟨A4, c4, rfl, hIV, hcV, hmV⟩ := oV.form
      have ho2 : RowV w2 w.heap.size w.heap.size vs.length L := HO.out.kept (row := none) ⟨hb2.os, hb2.tape, hb2.output, hb2.size, fun q hq _ => hb2.block q hq⟩ (Or.inr (by simp [Value.ownBlock]))
      have c1' := ho2.cellAt (k * 2) (by omega)
      have c2' := ho2.cellAt (k * 2 + 1) (by omega)
      rw [List.getElem?_eq_getElem (by have := HLen.out; omega)] at c1' c2'
      have f1 := ho2.frozenAt (k * 2)
      have f2 := ho2.frozenAt (k * 2 + 1)
      have st1 := ho2.stored (k * 2) (Value.slice A3 xs.length c3)
      have st2 := st1.1.stored (k * 2 + 1) (Value.slice A4 cs.length c4)
      have hT2 : RowOw ((w2.setCell ⟨w.heap.size, k * 2, none⟩ (Value.slice A3 xs.length c3)).setCell ⟨w.heap.size, k * 2 + 1, none⟩ (Value.slice A4 cs.length c4)) w.heap.size ((w2.setCell ⟨w.heap.size, k * 2, none⟩ (Value.slice A3 xs.length c3)).setCell ⟨w.heap.size, k * 2 + 1, none⟩ (Value.slice A4 cs.length c4)).heap.size vs ((L.set (k * 2) (Value.slice A3 xs.length c3)).set (k * 2 + 1) (Value.slice A4 cs.length c4)) (k + 1) := by
        rw [size_set', size_set']
        have hL := HLen.out
        have hkk : vs[k]? = some (xs, cs) := by rw [List.getElem?_eq_getElem hlt, HVK.out]
        exact ((HT.out.below hb2).next (by omega) hkk oU oV hUV hgs hb2.size).far.far
      have b4 := ((HB.out.trans (hb2.mono hsz)).trans (below_set w2 (k * 2) (Value.slice A3 xs.length c3) (Nat.le_refl w.heap.size))).trans (below_set _ (k * 2 + 1) (Value.slice A4 cs.length c4) (Nat.le_refl w.heap.size))
      have HB4 := Lib.hid b4
      have HO4 := Lib.hid st2.1
      have HT4 := Lib.hid hT2
      clear oU oV hUV hb2 hIU hIV ho2 st1 st2 hT2 b4 HO HB HT
      go_wp2_with fail
      go_roundg gg
      case measure => omega
      case rel => exact ⟨k + 1, _, by omega, by go_num, by omega, HB4, HO4, HT4⟩
    · obtain rfl : k = vs.length := by omega
      go_wp2_with fail
      go_ret
      exact ⟨L, rfl, HO.out, HT.out, HB.out⟩
/-- what lies apart of the blocks from g up to H stays -/
def Stay (g H : Nat) (w w' : World) : Prop := ∀ B v (xs : List Int), Apart v g H → Own w B v xs → Own w' B v xs

set_option maxHeartbeats 2000000 in
theorem laws_markVertexS (B g H : Nat) (L : List Value) (vs : List Vx) (k : Int) (w : World) (hr : RowV w B g vs.length L) (hm : RowOw w g H vs L vs.length) (hl : vs.length ≤ 1048576) (hs : ∀ v ∈ vs, v.1.length ≤ 1048576 ∧ v.2.length ≤ 1048576) (hk0 : 0 ≤ k) (hk1 : k ≤ 10) :
    Calls Try.prog 22 #[.slice (some ⟨g, 0, none⟩) vs.length vs.length, .int .i64 k] w fun e w' => ∃ m : Int, e = .returned (.int .i64 m) ∧ 0 ≤ m ∧ Below (g + 1) w w' ∧ Hid (Stay (g + 1) H w w') := by
  have HR := Lib.hid hr
  have HM := Lib.hid hm
  have HSz := Lib.hid hs
  clear hr hm hs
  go_enter Try.func22, Try.ntmps22
  go_wp2_with fail
  go_loopg [1, 5] (vs.length + 1) (fun gg s1 s5 wr => ∃ (j : Nat) (m : Int), j ≤ vs.length ∧ s5 = .int .i64 j ∧ s1 = .int .i64 m ∧ 0 ≤ m ∧ m ≤ 10 + 2097152 * (j : Int) ∧ vs.length - j < gg ∧ Hid (RowV wr B g vs.length L) ∧ Hid (Below (g + 1) w wr) ∧ Hid (Stay (g + 1) H w wr) ∧ w.heap.size ≤ wr.heap.size ∧
    Hid (∀ i v, j ≤ i → vs[i]? = some v → ∃ U V, L[i * 2]? = some U ∧ L[i * 2 + 1]? = some V ∧ Own wr (g + 1) U v.1 ∧ Own wr (g + 1) V v.2))
  case atStart => exact ⟨0, k, Nat.zero_le _, rfl, rfl, hk0, by omega, by omega, HR, Below.refl _ _, fun _ _ _ _ h => h, Nat.le_refl _, fun i v _ hv => HM.out.1 i v (by have := (List.getElem?_eq_some_iff.1 hv).1; omega) hv⟩
  case round =>
    obtain ⟨j, m, hj, rfl, rfl, hm0, hm1, hg, HR2, HB, HS, hz, HO⟩ := hrel
    cases gk with
    | zero => omega
    | succ gg =>
    clear HR
    by_cases hlt : j < vs.length
    · obtain ⟨xs, cs, hv⟩ : ∃ xs cs, vs[j] = (xs, cs) := ⟨_, _, rfl⟩
      obtain ⟨z1, z2⟩ := HSz.out vs[j] (List.getElem_mem hlt)
      rw [hv] at z1 z2
      have z1' : xs.length ≤ 1048576 := z1
      have z2' : cs.length ≤ 1048576 := z2
      obtain ⟨U, V, e1, e2, o1, o2⟩ := HO.out j (xs, cs) (Nat.le_refl _) (by rw [List.getElem?_eq_getElem hlt, hv])
      have o1' : Own wr (g + 1) U xs := o1
      have o2' : Own wr (g + 1) V cs := o2
      have c1 := HR2.out.cellAt (j * 2) (by omega)
      rw [e1] at c1
      have hgw : g < wr.heap.size := (HR2.out.lt _ rfl).2
      have j1 : (j : Int) < (vs.length : Int) := by omega
      have j0 : (0 : Int) ≤ (j : Int) := by omega
      have hU : ∀ q, U.ownBlock = some q → g + 1 ≤ q ∧ q < H := fun q hq => ⟨(o1'.lt q hq).1, HM.out.2.2 (j * 2) U q (by omega) e1 hq⟩
      have hV : ∀ q, V.ownBlock = some q → g + 1 ≤ q ∧ q < H := fun q hq => ⟨(o2'.lt q hq).1, HM.out.2.2 (j * 2 + 1) V q (by omega) e2 hq⟩
      have HE1 := Lib.hid e1
      have HE2 := Lib.hid e2
      have HU := Lib.hid hU
      have HV := Lib.hid hV
      have O1 := Lib.hid o1'
      have O2 := Lib.hid o2'
      clear hv z1 z2 e1 e2 o1 o2 o1' o2' hU hV
      go_wp2_with fail
      refine (laws_markIntS (g + 1) U m xs wr O1.out z1' hm0 (by omega)).mono ?_
      rintro e w2 ⟨rfl, p1, r1⟩
      have hR3 : RowV w2 B g vs.length L := HR2.out.kept r1 (Or.inr (by
        intro e
        have e' : some g = U.ownBlock := e
        have := HU.out g e'.symm
        omega))
      have c2 := hR3.cellAt (j * 2 + 1) (by omega)
      rw [HE2.out] at c2
      have hO2 : Own w2 (g + 1) V cs := O2.out.kept r1 (HM.out.2.1 (j * 2) (j * 2 + 1) U V (by omega) (by omega) HE1.out HE2.out)
      have b2 : Below (g + 1) w w2 := HB.out.trans ((Below.refl _ wr).grown r1 (by omega) (fun q hq => (HU.out q hq).1))
      have s2 : Stay (g + 1) H w w2 := fun B v ys ha ho => (HS.out B v ys ha ho).kept r1 (by
        cases hu : v.ownBlock with
        | none => exact Or.inl rfl
        | some q =>
          right
          intro e
          have h5 := HU.out q e.symm
          rcases ha q hu with h6 | h6 <;> omega)
      have oo2 : ∀ i v, j + 1 ≤ i → vs[i]? = some v → ∃ U V, L[i * 2]? = some U ∧ L[i * 2 + 1]? = some V ∧ Own w2 (g + 1) U v.1 ∧ Own w2 (g + 1) V v.2 := by
        intro i v hi hv
        obtain ⟨X, Y, a1, a2, a3, a4⟩ := HO.out i v (by omega) hv
        have hil := (List.getElem?_eq_some_iff.1 hv).1
        exact ⟨X, Y, a1, a2, a3.kept r1 (HM.out.2.1 (j * 2) (i * 2) U X (by omega) (by omega) HE1.out a1), a4.kept r1 (HM.out.2.1 (j * 2) (i * 2 + 1) U Y (by omega) (by omega) HE1.out a2)⟩
      have hz2 : w.heap.size ≤ w2.heap.size := Nat.le_trans hz r1.size
      have hgw2 : g < w2.heap.size := (hR3.lt _ rfl).2
      have HR3 := Lib.hid hR3
      have B2 := Lib.hid b2
      have S2 := Lib.hid s2
      have OO2 := Lib.hid oo2
      have HO2 := Lib.hid hO2
      clear hR3 hO2 b2 s2 oo2 p1 r1 HR2 HB HS HO O1 O2 c1 hz
      go_wp2_with fail
      refine (laws_markIntS (g + 1) V (m + (xs.length : Int)) cs w2 HO2.out z2' (by omega) (by omega)).mono ?_
      rintro e w3 ⟨rfl, p2, r2⟩
      have hR4 : RowV w3 B g vs.length L := HR3.out.kept r2 (Or.inr (by
        intro e
        have e' : some g = V.ownBlock := e
        have := HV.out g e'.symm
        omega))
      have b3 : Below (g + 1) w w3 := B2.out.trans ((Below.refl _ w2).grown r2 (by omega) (fun q hq => (HV.out q hq).1))
      have s3 : Stay (g + 1) H w w3 := fun B v ys ha ho => (S2.out B v ys ha ho).kept r2 (by
        cases hu : v.ownBlock with
        | none => exact Or.inl rfl
        | some q =>
          right
          intro e
          have h5 := HV.out q e.symm
          rcases ha q hu with h6 | h6 <;> omega)
      have oo3 : ∀ i v, j + 1 ≤ i → vs[i]? = some v → ∃ U V, L[i * 2]? = some U ∧ L[i * 2 + 1]? = some V ∧ Own w3 (g + 1) U v.1 ∧ Own w3 (g + 1) V v.2 := by
        intro i v hi hv
        obtain ⟨X, Y, a1, a2, a3, a4⟩ := OO2.out i v hi hv
        have hil := (List.getElem?_eq_some_iff.1 hv).1
        exact ⟨X, Y, a1, a2, a3.kept r2 (HM.out.2.1 (j * 2 + 1) (i * 2) V X (by omega) (by omega) HE2.out a1), a4.kept r2 (HM.out.2.1 (j * 2 + 1) (i * 2 + 1) V Y (by omega) (by omega) HE2.out a2)⟩
      have hz3 : w.heap.size ≤ w3.heap.size := Nat.le_trans hz2 r2.size
      have HR4 := Lib.hid hR4
      have B3 := Lib.hid b3
      have S3 := Lib.hid s3
      have OO3 := Lib.hid oo3
      clear hR4 b3 s3 oo3 p2 r2 HR3 B2 S2 OO2 HO2 c2 hz2
      go_wp2_with fail
      go_roundg gg
      case measure => omega
      case rel => exact ⟨j + 1, m + (xs.length : Int) + (cs.length : Int), by omega, by go_num, by congr 1, by omega, by omega, by omega, HR4, B3, S3, hz3, OO3⟩
    · obtain rfl : j = vs.length := by omega
      go_wp2_with fail
      go_ret
      exact ⟨m, rfl, hm0, HB.out, HS⟩

end Go.Proofs.Ytmadagkdgpohiaa
