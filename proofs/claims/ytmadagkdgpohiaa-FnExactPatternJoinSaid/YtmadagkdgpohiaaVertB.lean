/- The laws' own helpers on vertices: a copy, a comparison. No condition but sizes. -/
import Derived.Laws.OwnMore
import Derived.Test.YtmadagkdgpohiaaVert
import Derived.Test.YtmadagkdgpohiaaSeg
namespace Go.Proofs.Ytmadagkdgpohiaa
open Go.RowKit

theorem own_lower' {w : World} {B B' : Nat} {e : TypeId} {z n : Nat} {v : Value} {xs : List Value} (h : w.ownsRow B e z v n xs) (hB : B' ≤ B) : w.ownsRow B' e z v n xs := by
  obtain ⟨h1, h2⟩ := h
  refine ⟨h1, ?_⟩
  rcases h2 with h0 | ⟨g, cap, cur, e1, hb, rest⟩
  · exact Or.inl h0
  · exact Or.inr ⟨g, cap, cur, e1, by omega, rest⟩
theorem own_far {w : World} {B g : Nat} {v : Value} {xs : List Int} (h : Own w B v xs) (hg : g < B) (i : Nat) (u : Value) : Own (w.setCell ⟨g, i, none⟩ u) B v xs :=
  h.kept (row := some g) ⟨rfl, rfl, rfl, by simp, fun k _ hk => heap_setCell_other w ⟨g, i, none⟩ k _ (fun e => hk (by have e' : k = g := e; rw [e']))⟩ (by
    cases hv : v.ownBlock with
    | none => exact Or.inl rfl
    | some k =>
      right
      intro e
      have e2 := Option.some.inj e
      have := (h.lt k hv).1
      omega)
theorem size_alloc' (w : World) (o : Obj) : (w.alloc o).heap.size = w.heap.size + 1 := by simp
set_option maxHeartbeats 1000000 in
theorem laws_toVertex (A1 A2 : Option Addr) (c1 c2 : Nat) (xs cs : List Int) (w : World) (h1 : Ints w A1 xs) (h2 : Ints w A2 cs) (l1 : xs.length ≤ 1048576) (l2 : cs.length ≤ 1048576) :
    Calls Try.prog 43 #[.agg #[.slice A1 xs.length c1, .slice A2 cs.length c2]] w fun e w' => ∃ U V, e = .returned (.agg #[U, V]) ∧ Own w' w.heap.size U xs ∧ Own w' w.heap.size V cs ∧ (U.ownBlock = none ∨ U.ownBlock ≠ V.ownBlock) ∧ Below w.heap.size w w' := by
  go_enter Try.func43, Try.ntmps43
  go_wp2_with fail
  obtain ⟨w3, hw3⟩ : ∃ w3, w3 = (((w.alloc (Obj.cells #[Value.slice A1 xs.length c1, Value.slice A2 cs.length c2] 47)).alloc (Obj.cells #[Value.slice none 0 0, Value.slice none 0 0] 50)).alloc (Obj.cells #[Value.slice none 0 0, Value.slice none 0 0] 50)) := ⟨_, rfl⟩
  have b3 : Below w.heap.size w w3 := by rw [hw3]; exact (((Below.refl _ _).alloc (Nat.le_refl _) _).alloc (by simp) _).alloc (by simp; omega) _
  have s3 : w3.heap.size = w.heap.size + 1 + 1 + 1 := by rw [hw3]; simp
  have k0 : Blk w3 w.heap.size 47 #[Value.slice A1 xs.length c1, Value.slice A2 cs.length c2] := by rw [hw3]; exact ((Blk.new w _ _).alloc _).alloc _
  have k1 : Blk w3 (w.heap.size + 1) 50 #[Value.slice none 0 0, Value.slice none 0 0] := by
    rw [hw3]
    have := Blk.new (w.alloc (Obj.cells #[Value.slice A1 xs.length c1, Value.slice A2 cs.length c2] 47)) 50 #[Value.slice none 0 0, Value.slice none 0 0]
    simp only [size_alloc'] at this
    exact this.alloc _
  have k2 : Blk w3 (w.heap.size + 1 + 1) 50 #[Value.slice none 0 0, Value.slice none 0 0] := by
    rw [hw3]
    have := Blk.new ((w.alloc (Obj.cells #[Value.slice A1 xs.length c1, Value.slice A2 cs.length c2] 47)).alloc (Obj.cells #[Value.slice none 0 0, Value.slice none 0 0] 50)) 50 #[Value.slice none 0 0, Value.slice none 0 0]
    simp only [size_alloc'] at this
    exact this
  have HW3 := Lib.hid hw3
  have HS3 := Lib.hid s3
  have hs3 : w.heap.size + 1 + 1 < w3.heap.size := by omega
  rw [← hw3]
  clear hw3 s3
  refine (laws_toIntS A1 c1 xs w3 (h1.below b3) l1).mono ?_
  rintro e w4 ⟨U, rfl, ho4, hb4⟩
  obtain ⟨A3, c3, rfl, hIU, hcU, hmU⟩ := ho4.form
  have k0' := k0.below hb4 k0.lt
  have k1' := k1.below hb4 k1.lt
  have k2' := k2.below hb4 k2.lt
  obtain ⟨w5, hw5⟩ : ∃ w5, w5 = w4.setCell ⟨w.heap.size + 1 + 1, 0, none⟩ (Value.slice A3 xs.length c3) := ⟨_, rfl⟩
  have hs4 := hb4.size
  have g5 : w4.grownBy w5 (some (w.heap.size + 1 + 1)) := by
    rw [hw5]
    exact ⟨rfl, rfl, rfl, by simp, fun k _ hk => heap_setCell_other w4 ⟨w.heap.size + 1 + 1, 0, none⟩ k _ (fun e => hk (by have e' : k = w.heap.size + 1 + 1 := e; rw [e']))⟩
  have ho5 : Own w5 w3.heap.size (Value.slice A3 xs.length c3) xs := ho4.kept g5 (by
    cases hU : (Value.slice A3 xs.length c3).ownBlock with
    | none => exact Or.inl rfl
    | some k =>
      right
      intro e
      have e2 := Option.some.inj e
      have := (ho4.lt k hU).1
      omega)
  have k0'' : Blk w5 w.heap.size 47 #[Value.slice A1 xs.length c1, Value.slice A2 cs.length c2] := by rw [hw5]; exact k0'.far (p := ⟨w.heap.size + 1 + 1, 0, none⟩) (by show w.heap.size ≠ w.heap.size + 1 + 1; omega) (Value.slice A3 xs.length c3)
  have k1'' : Blk w5 (w.heap.size + 1) 50 #[Value.slice none 0 0, Value.slice none 0 0] := by rw [hw5]; exact k1'.far (p := ⟨w.heap.size + 1 + 1, 0, none⟩) (by show w.heap.size + 1 ≠ w.heap.size + 1 + 1; omega) (Value.slice A3 xs.length c3)
  have k2'' : Blk w5 (w.heap.size + 1 + 1) 50 #[(Value.slice A3 xs.length c3), Value.slice none 0 0] := by rw [hw5]; exact k2'.set_ 0 (Value.slice A3 xs.length c3)
  have b4 : Below w.heap.size w w4 := below_from b3 hb4 b3.size
  have b5 : Below w.heap.size w w5 := b4.trans (by rw [hw5]; exact below_set w4 0 (Value.slice A3 xs.length c3) (by omega))
  have HI2 := Lib.hid (h2.below b5)
  have hs5 : w5.heap.size = w4.heap.size := by rw [hw5]; simp
  have c20 := k2'.cell 0
  have f20 := k2'.frozen 0
  have c01 := k0'.cell 1
  have HW5 := Lib.hid hw5
  have HO5 := Lib.hid ho5
  have HB5 := Lib.hid b5
  have K1 := Lib.hid k1''
  have K2 := Lib.hid k2''
  clear hw5 ho5 b5 b4 b3 k0 k1 k2 k0' k1' k2' k1'' k2'' g5 ho4 hb4 h1 h2
  go_wp2_with fail
  rw [← HW5.out]
  have c01 := k0''.cell 1
  go_wp2_with fail
  refine (laws_toIntS A2 c2 cs w5 HI2.out l2).mono ?_
  rintro e w6 ⟨V, rfl, ho6, hb6⟩
  obtain ⟨A4, c4, rfl, hIV, hcV, hmV⟩ := ho6.form
  have K1' := K1.out.below hb6 K1.out.lt
  have K2' := K2.out.below hb6 K2.out.lt
  have hs6 := hb6.size
  have ho6U : Own w6 w3.heap.size (Value.slice A3 xs.length c3) xs := HO5.out.kept (row := none) ⟨hb6.os, hb6.tape, hb6.output, hb6.size, fun k hk _ => hb6.block k hk⟩ (by
    cases hU : (Value.slice A3 xs.length c3).ownBlock with
    | none => exact Or.inl rfl
    | some k => exact Or.inr (fun e => by cases e))
  have hUV : (Value.slice A3 xs.length c3).ownBlock = none ∨ (Value.slice A3 xs.length c3).ownBlock ≠ (Value.slice A4 cs.length c4).ownBlock := by
    cases hU : (Value.slice A3 xs.length c3).ownBlock with
    | none => exact Or.inl rfl
    | some k =>
      right
      intro e
      have h3 := (HO5.out.lt k hU).2
      have h4 := (ho6.lt k e.symm).1
      omega
  obtain ⟨w7, hw7⟩ : ∃ w7, w7 = w6.setCell ⟨w.heap.size + 1 + 1, 1, none⟩ (Value.slice A4 cs.length c4) := ⟨_, rfl⟩
  obtain ⟨w8, hw8⟩ : ∃ w8, w8 = (w7.setCell ⟨w.heap.size + 1, 0, none⟩ (Value.slice A3 xs.length c3)).setCell ⟨w.heap.size + 1, 1, none⟩ (Value.slice A4 cs.length c4) := ⟨_, rfl⟩
  have c21 := K2'.cell 1
  have f21 := K2'.frozen 1
  have f20b := K2'.frozen 0
  have f10 := K1'.frozen 0
  have f11 := K1'.frozen 1
  have c10 := K1'.cell 0
  have c11 := K1'.cell 1
  have c20b := K2'.cell 0
  clear c01 c20 f20
  go_wp2_with fail
  have hU1 : ∀ (W : World) (i : Nat) (u : Value) (g : Nat), g < w3.heap.size → Own W w3.heap.size (Value.slice A3 xs.length c3) xs → Own (W.setCell ⟨g, i, none⟩ u) w3.heap.size (Value.slice A3 xs.length c3) xs := fun W i u g hg ho => own_far ho hg i u
  have hV1 : ∀ (W : World) (i : Nat) (u : Value) (g : Nat), g < w5.heap.size → Own W w5.heap.size (Value.slice A4 cs.length c4) cs → Own (W.setCell ⟨g, i, none⟩ u) w5.heap.size (Value.slice A4 cs.length c4) cs := fun W i u g hg ho => own_far ho hg i u
  have oU : Own w8 w3.heap.size (Value.slice A3 xs.length c3) xs := by
    rw [hw8, hw7]
    exact hU1 _ _ _ _ (by omega) (hU1 _ _ _ _ (by omega) (hU1 _ _ _ _ (by omega) ho6U))
  have oV : Own w8 w5.heap.size (Value.slice A4 cs.length c4) cs := by
    rw [hw8, hw7]
    exact hV1 _ _ _ _ (by omega) (hV1 _ _ _ _ (by omega) (hV1 _ _ _ _ (by omega) ho6))
  have K8 : Blk w8 (w.heap.size + 1) 50 #[Value.slice A3 xs.length c3, Value.slice A4 cs.length c4] := by
    rw [hw8, hw7]
    exact ((K1'.far (p := ⟨w.heap.size + 1 + 1, 1, none⟩) (by show w.heap.size + 1 ≠ w.heap.size + 1 + 1; omega) _).set_ 0 _).set_ 1 _
  have b6 : Below w.heap.size w w6 := HB5.out.trans (hb6.mono (by omega))
  have b8 : Below w.heap.size w w8 := by
    rw [hw8, hw7]
    exact ((b6.trans (below_set w6 1 _ (by omega))).trans (below_set _ 0 _ (by omega))).trans (below_set _ 1 _ (by omega))
  have d0 := K8.cell 0
  have d1 := K8.cell 1
  rw [← hw7, ← hw8]
  have hB3 := HS3.out
  refine bodyPost_ret (v := .agg #[Value.slice A3 xs.length c3, Value.slice A4 cs.length c4]) (by simp [results, Try.results43, go_sem, d0, d1]) rfl ⟨_, _, rfl, own_lower' oU (by omega), own_lower' oV (by omega), hUV, b8⟩

/-- a slice of integers as a value, no cell of it in block g -/
def IntsA (w : World) (g : Nat) (V : Value) (xs : List Int) : Prop := ∃ A c, V = .slice A xs.length c ∧ Away w g A xs ∧ xs.length ≤ c ∧ c ≤ maxLen
theorem IntsA.of_own {w : World} {B g : Nat} {v : Value} {xs : List Int} (h : Own w B v xs) (hg : g < B) : IntsA w g v xs := by
  obtain ⟨A, c, e, hI, h1, h2⟩ := h.form
  refine ⟨A, c, e, fun hn => ?_, h1, h2⟩
  obtain ⟨b, off, eA, hb, hc⟩ := hI hn
  refine ⟨b, off, eA, ?_, hb, hc⟩
  rcases h.2 with ⟨_, hz⟩ | ⟨gg, cp, cu, hv, hbg, _⟩
  · exact absurd (List.eq_nil_of_length_eq_zero hz) hn
  · rw [e] at hv
    injection hv with hv1
    rw [eA] at hv1
    injection hv1 with hv1
    injection hv1 with hv1
    omega
theorem IntsA.grown {w w' : World} {g : Nat} {V : Value} {xs : List Int} (h : IntsA w g V xs) (hg : w.grownBy w' (some g)) : IntsA w' g V xs := by
  obtain ⟨A, c, e, hA, h1, h2⟩ := h
  exact ⟨A, c, e, hA.grown hg, h1, h2⟩
theorem IntsA.below {w w' : World} {g : Nat} {V : Value} {xs : List Int} (h : IntsA w g V xs) (hg : Below w.heap.size w w') : IntsA w' g V xs := by
  obtain ⟨A, c, e, hA, h1, h2⟩ := h
  exact ⟨A, c, e, hA.below hg, h1, h2⟩
theorem IntsA.intsV {w : World} {g : Nat} {V : Value} {xs : List Int} (h : IntsA w g V xs) : IntsV w V xs := by
  obtain ⟨A, c, e, hA, h1, h2⟩ := h
  exact ⟨A, c, e, hA.ints, h1, h2⟩
/-- the first k vertices lie in the row's cells L -/
def RowTo (w : World) (g : Nat) (vs : List Vx) (L : List Value) (k : Nat) : Prop :=
  ∀ i v, i < k → vs[i]? = some v → ∃ U V, L[i * 2]? = some U ∧ L[i * 2 + 1]? = some V ∧ IntsA w g U v.1 ∧ IntsA w g V v.2
abbrev RowV (w : World) (B g n : Nat) (L : List Value) : Prop := w.ownsRow B 50 2 (.slice (some ⟨g, 0, none⟩) n n) n L

set_option maxHeartbeats 2000000 in
set_option maxRecDepth 100000 in
theorem laws_toVertexS (A : Option Addr) (cap : Nat) (vs : List Vx) (w : World) (h : Verts w A vs) (hl : vs.length ≤ 1048576) (hs : ∀ v ∈ vs, v.1.length ≤ 1048576 ∧ v.2.length ≤ 1048576) :
    Calls Try.prog 14 #[.slice A vs.length cap] w fun e w' => ∃ L, e = .returned (.slice (some ⟨w.heap.size, 0, none⟩) vs.length vs.length) ∧ RowV w' w.heap.size w.heap.size vs.length L ∧ RowTo w' w.heap.size vs L vs.length ∧ Below w.heap.size w w' := by
  obtain ⟨i0, hi, hz0, hz1, hz2⟩ := info_parts Try.infoVx
  obtain ⟨w1, hrun, ho1, hg1⟩ := run_make_full (P := Try.prog) w w.heap.size 25 50 i0 (.agg #[.slice none 0 0, .slice none 0 0]) 2 Try.underlying25 hi hz0 hz1 .i64 .i64 vs.length (by rw [hz2]; omega) (by unfold maxLen; omega) (Nat.le_refl w.heap.size)
  have HRun := Lib.hid hrun
  have HB1 := Lib.hid ((Below.refl w.heap.size w).grown hg1 (Nat.le_refl _) (fun _ hh => by cases hh))
  have HO1 := Lib.hid (show RowV w1 w.heap.size w.heap.size vs.length _ from ho1)
  have HSz := Lib.hid hs
  clear hi hz0 hz1 hz2 hrun ho1 hg1 hs
  go_enter Try.func14, Try.ntmps14
  go_wp2_with fail
  rw [HRun.out]
  go_wp2_with fail
  go_loopg [4] (vs.length + 1) (fun gg s4 wr => ∃ (k : Nat) (L : List Value), k ≤ vs.length ∧ s4 = .int .i64 k ∧ vs.length - k < gg ∧ Hid (Below w.heap.size w wr) ∧ Hid (RowV wr w.heap.size w.heap.size vs.length L) ∧ Hid (RowTo wr w.heap.size vs L k))
  case atStart => exact ⟨0, _, Nat.zero_le _, rfl, by omega, HB1, HO1, fun i v hi => by omega⟩
  case round =>
    clear HB1 HO1 HRun
    obtain ⟨k, L, hk, rfl, hg, HB, HO, HT⟩ := hrel
    cases gk with
    | zero => omega
    | succ gg =>
    by_cases hlt : k < vs.length
    · obtain ⟨b, off, A1, c1, A2, c2, rfl, hb, r1, r2, i1, l1, m1, i2, l2, m2⟩ := h.at_ hlt
      have r1w := (HB.out.cell (p := ⟨b, off + k * 2, none⟩) hb).trans r1
      have r2w := (HB.out.cell (p := ⟨b, off + k * 2 + 1, none⟩) hb).trans r2
      obtain ⟨xs, hxs⟩ : ∃ xs, xs = vs[k].1 := ⟨_, rfl⟩
      obtain ⟨cs, hcs⟩ : ∃ cs, cs = vs[k].2 := ⟨_, rfl⟩
      have hvk : vs[k] = (xs, cs) := by rw [hxs, hcs]
      obtain ⟨z1, z2⟩ := HSz.out vs[k] (List.getElem_mem hlt)
      rw [← hxs] at r1w i1 z1
      rw [← hcs] at r2w i2 z2
      have hlen : L.length = vs.length * 2 := HO.out.1
      have k1 : (k : Int) < (vs.length : Int) := by omega
      have k0 : (0 : Int) ≤ (k : Int) := by omega
      have hsz := HB.out.size
      have I1 := Lib.hid (i1.below HB.out)
      have I2 := Lib.hid (i2.below HB.out)
      have HVK := Lib.hid hvk
      have HLen := Lib.hid hlen
      have hgs : w.heap.size < wr.heap.size := (HO.out.lt _ rfl).2
      clear r1 r2 hxs hcs hvk i1 i2 l1 l2 hlen
      go_wp2_with fail
      refine (laws_toVertex A1 A2 c1 c2 xs cs wr I1.out I2.out z1 z2).mono ?_
      rintro e w2 ⟨U, V, rfl, oU, oV, hUV, hb2⟩
      obtain ⟨A3, c3, rfl, hIU, hcU, hmU⟩ := oU.form
      obtain ⟨A4, c4, rfl, hIV, hcV, hmV⟩ := oV.form
      have ho2 : RowV w2 w.heap.size w.heap.size vs.length L := HO.out.kept (row := none) ⟨hb2.os, hb2.tape, hb2.output, hb2.size, fun q hq _ => hb2.block q hq⟩ (Or.inr (by simp [Value.ownBlock]))
      have c1' := ho2.cellAt (k * 2) (by omega)
      have c2' := ho2.cellAt (k * 2 + 1) (by omega)
      rw [List.getElem?_eq_getElem (by have := HLen.out; omega)] at c1' c2'
      have f1 := ho2.frozenAt (k * 2)
      have f2 := ho2.frozenAt (k * 2 + 1)
      have st1 := ho2.stored (k * 2) (Value.slice A3 xs.length c3)
      have st2 := st1.1.stored (k * 2 + 1) (Value.slice A4 cs.length c4)
      have hT2 : RowTo ((w2.setCell ⟨w.heap.size, k * 2, none⟩ (Value.slice A3 xs.length c3)).setCell ⟨w.heap.size, k * 2 + 1, none⟩ (Value.slice A4 cs.length c4)) w.heap.size vs ((L.set (k * 2) (Value.slice A3 xs.length c3)).set (k * 2 + 1) (Value.slice A4 cs.length c4)) (k + 1) := by
        have hgb : w2.grownBy ((w2.setCell ⟨w.heap.size, k * 2, none⟩ (Value.slice A3 xs.length c3)).setCell ⟨w.heap.size, k * 2 + 1, none⟩ (Value.slice A4 cs.length c4)) (some w.heap.size) := st1.2.trans st2.2
        intro i v hi hv
        by_cases e : i = k
        · subst e
          rw [List.getElem?_eq_getElem hlt, HVK.out] at hv
          have hv2 := Option.some.inj hv
          subst hv2
          have hL := HLen.out
          refine ⟨_, _, ?_, ?_, (IntsA.of_own oU hgs).grown hgb, (IntsA.of_own oV hgs).grown hgb⟩
          · rw [List.getElem?_set_ne (by omega), List.getElem?_set_self (by omega)]
          · rw [List.getElem?_set_self (by rw [List.length_set]; omega)]
        · obtain ⟨U, V, e1, e2, e3, e4⟩ := HT.out i v (by omega) hv
          refine ⟨U, V, ?_, ?_, (e3.below hb2).grown hgb, (e4.below hb2).grown hgb⟩
          · rw [List.getElem?_set_ne (by omega), List.getElem?_set_ne (by omega)]; exact e1
          · rw [List.getElem?_set_ne (by omega), List.getElem?_set_ne (by omega)]; exact e2
      have b4 := ((HB.out.trans (hb2.mono hsz)).trans (below_set w2 (k * 2) (Value.slice A3 xs.length c3) (Nat.le_refl w.heap.size))).trans (below_set _ (k * 2 + 1) (Value.slice A4 cs.length c4) (Nat.le_refl w.heap.size))
      have HB4 := Lib.hid b4
      have HO4 := Lib.hid st2.1
      have HT4 := Lib.hid hT2
      clear oU oV hUV hb2 hIU hIV ho2 st1 st2 hT2 b4 HO HB HT
      go_wp2_with fail
      go_roundg gg
      case measure => omega
      case rel => exact ⟨k + 1, _, by omega, by go_num, by omega, HB4, HO4, HT4⟩
    · obtain rfl : k = vs.length := by omega
      go_wp2_with fail
      go_ret
      exact ⟨L, rfl, HO.out, HT.out, HB.out⟩

end Go.Proofs.Ytmadagkdgpohiaa
