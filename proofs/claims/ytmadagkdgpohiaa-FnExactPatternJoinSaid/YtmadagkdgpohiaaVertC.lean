/- The laws' own helpers on vertices: a comparison; a copy reads as the vertices that it is of. No condition but sizes. -/
import Derived.Test.YtmadagkdgpohiaaVertB
namespace Go.Proofs.Ytmadagkdgpohiaa
open Go.RowKit

theorem RowV.verts {w : World} {B g : Nat} {vs : List Vx} {L : List Value} (h : RowV w B g vs.length L) (ht : RowTo w g vs L vs.length) : Verts w (some ⟨g, 0, none⟩) vs := by
  intro hn
  refine ⟨g, 0, rfl, (h.lt _ rfl).2, fun k v hk => ?_⟩
  have hkl : k < vs.length := (List.getElem?_eq_some_iff.1 hk).1
  obtain ⟨U, V, e1, e2, e3, e4⟩ := ht k v hkl hk
  refine ⟨U, V, ?_, ?_, e3.intsV, e4.intsV⟩
  · rw [Nat.zero_add, h.cellAt (k * 2) (by omega), e1]
  · rw [Nat.zero_add, h.cellAt (k * 2 + 1) (by omega), e2]

set_option maxHeartbeats 1000000 in
theorem laws_eqVertex (A1 A2 A3 A4 : Option Addr) (c1 c2 c3 c4 : Nat) (xs cs ys ds : List Int) (w : World) (h1 : Ints w A1 xs) (h2 : Ints w A2 cs) (h3 : Ints w A3 ys) (h4 : Ints w A4 ds) (l1 : xs.length ≤ maxLen) (l2 : cs.length ≤ maxLen) (l3 : ys.length ≤ maxLen) (l4 : ds.length ≤ maxLen) :
    Calls Try.prog 45 #[.agg #[.slice A1 xs.length c1, .slice A2 cs.length c2], .agg #[.slice A3 ys.length c3, .slice A4 ds.length c4]] w fun e w' => e = .returned (.bool (decide ((xs, cs) = (ys, ds)))) ∧ Below w.heap.size w w' := by
  obtain ⟨w2, hw2⟩ : ∃ w2, w2 = (w.alloc (.cells #[.slice A1 xs.length c1, .slice A2 cs.length c2] 50)).alloc (.cells #[.slice A3 ys.length c3, .slice A4 ds.length c4] 50) := ⟨_, rfl⟩
  have b2 : Below w.heap.size w w2 := by rw [hw2]; exact ((Below.refl _ _).alloc (Nat.le_refl _) _).alloc (by simp) _
  have k0 : Blk w2 w.heap.size 50 #[.slice A1 xs.length c1, .slice A2 cs.length c2] := by rw [hw2]; exact (Blk.new w _ _).alloc _
  have k1 : Blk w2 (w.heap.size + 1) 50 #[.slice A3 ys.length c3, .slice A4 ds.length c4] := by
    rw [hw2]
    have := Blk.new (w.alloc (.cells #[.slice A1 xs.length c1, .slice A2 cs.length c2] 50)) 50 #[.slice A3 ys.length c3, .slice A4 ds.length c4]
    simpa using this
  have d00 := k0.cell 0
  have d01 := k0.cell 1
  have d10 := k1.cell 0
  have d11 := k1.cell 1
  have HW := Lib.hid hw2
  have HB := Lib.hid b2
  have I1 := Lib.hid (h1.below b2)
  have I2 := Lib.hid (h2.below b2)
  have I3 := Lib.hid (h3.below b2)
  have I4 := Lib.hid (h4.below b2)
  clear hw2 b2 k0 k1 h1 h2 h3 h4
  go_enter Try.func45, Try.ntmps45
  go_wp2_with fail
  rw [← HW.out]
  go_wp2_with fail
  refine (laws_eqIntS A1 A3 c1 c3 xs ys w2 I1.out I3.out l1 l3).mono ?_
  rintro e w3 ⟨rfl, m, rfl⟩
  by_cases q1 : xs = ys
  · rw [decide_eq_true q1]
    have Q1 := Lib.hid q1
    clear q1
    go_wp2_with fail
    refine (laws_eqIntS A2 A4 c2 c4 cs ds (w2.drewN m) I2.out I4.out l2 l4).mono ?_
    rintro e w4 ⟨rfl, m2, rfl⟩
    by_cases q2 : cs = ds
    · rw [decide_eq_true q2]
      have Q2 := Lib.hid q2
      clear q2
      go_wp2_with fail
      go_ret
      exact ⟨ret_bool (by rw [decide_eq_true (by rw [Q1.out, Q2.out])]), below_drewN HB.out _⟩
    · rw [decide_eq_false q2]
      have Q2 := Lib.hid q2
      clear q2
      go_wp2_with fail
      go_ret
      exact ⟨ret_bool (by rw [decide_eq_false (fun e => Q2.out (Prod.mk.inj e).2)]), below_drewN HB.out _⟩
  · rw [decide_eq_false q1]
    have Q1 := Lib.hid q1
    clear q1
    go_wp2_with fail
    go_ret
    exact ⟨ret_bool (by rw [decide_eq_false (fun e => Q1.out (Prod.mk.inj e).1)]), below_drewN HB.out _⟩

/-- four cells hold -/
def Four (a1 a2 a3 a4 : Addr) (v1 v2 v3 v4 : Value) (W : World) : Prop := W.cell? a1 = some v1 ∧ W.cell? a2 = some v2 ∧ W.cell? a3 = some v3 ∧ W.cell? a4 = some v4
theorem Four.below {a1 a2 a3 a4 : Addr} {v1 v2 v3 v4 : Value} {W W' : World} (h : Four a1 a2 a3 a4 v1 v2 v3 v4 W) (hb : Below W.heap.size W W') : Four a1 a2 a3 a4 v1 v2 v3 v4 W' :=
  ⟨(hb.cell (World.block_lt_of_cell? _ _ h.1)).trans h.1, (hb.cell (World.block_lt_of_cell? _ _ h.2.1)).trans h.2.1, (hb.cell (World.block_lt_of_cell? _ _ h.2.2.1)).trans h.2.2.1, (hb.cell (World.block_lt_of_cell? _ _ h.2.2.2)).trans h.2.2.2⟩
set_option maxHeartbeats 2000000 in
theorem laws_eqVertexS (A A' : Option Addr) (cap cap' : Nat) (vs : List Vx) (w : World) (h : Verts w A vs) (h' : Verts w A' vs) (hl : vs.length ≤ 1048576) :
    Calls Try.prog 16 #[.slice A vs.length cap, .slice A' vs.length cap'] w fun e w' => e = .returned (.bool true) ∧ Below w.heap.size w w' := by
  have dn : ((vs.length : Int) != (vs.length : Int)) = false := by simp
  go_enter Try.func16, Try.ntmps16
  go_wp2_with fail
  go_loopg [5] (vs.length + 1) (fun g s5 wr => ∃ (k : Nat), k ≤ vs.length ∧ s5 = .int .i64 k ∧ vs.length - k < g ∧ Hid (Below w.heap.size w wr))
  case atStart => exact ⟨0, Nat.zero_le _, rfl, by omega, Below.refl _ _⟩
  case round =>
    obtain ⟨k, hk, rfl, hg, HB⟩ := hrel
    cases gk with
    | zero => omega
    | succ g =>
    by_cases hlt : k < vs.length
    · obtain ⟨b, off, A1, c1, A2, c2, rfl, hb, r1, r2, i1, l1, m1, i2, l2, m2⟩ := (h.below HB.out).at_ hlt
      obtain ⟨b', off', A3, c3, A4, c4, rfl, hb', r3, r4, i3, l3, m3, i4, l4, m4⟩ := (h'.below HB.out).at_ hlt
      have k1 : (k : Int) < (vs.length : Int) := by omega
      have k0 : (0 : Int) ≤ (k : Int) := by omega
      have hS0 : Four ⟨b, off + k * 2, none⟩ ⟨b, off + k * 2 + 1, none⟩ ⟨b', off' + k * 2, none⟩ ⟨b', off' + k * 2 + 1, none⟩ _ _ _ _ wr := ⟨r1, r2, r3, r4⟩
      have hcall : ∀ W : World, Below wr.heap.size wr W → Calls Try.prog 45 #[.agg #[.slice A1 vs[k].1.length c1, .slice A2 vs[k].2.length c2], .agg #[.slice A3 vs[k].1.length c3, .slice A4 vs[k].2.length c4]] W fun e w' => e = .returned (.bool true) ∧ Below W.heap.size W w' := fun W hW => by
        have := laws_eqVertex A1 A2 A3 A4 c1 c2 c3 c4 vs[k].1 vs[k].2 vs[k].1 vs[k].2 W (i1.below hW) (i2.below hW) (i3.below hW) (i4.below hW) (Nat.le_trans l1 m1) (Nat.le_trans l2 m2) (Nat.le_trans l3 m3) (Nat.le_trans l4 m4)
        rwa [decide_eq_true rfl] at this
      have HCALL := Lib.hid hcall
      have HS0 := Lib.hid hS0
      have hz := HB.out.size
      clear hcall hS0 i1 i2 i3 i4
      go_wp2_with fail
      go_region_held3 (fun W => W.cell? ⟨b, off + k * 2, none⟩ = some (.slice A1 vs[k].1.length c1) ∧ W.cell? ⟨b, off + k * 2 + 1, none⟩ = some (.slice A2 vs[k].2.length c2) ∧ W.cell? ⟨b', off' + k * 2, none⟩ = some (.slice A3 vs[k].1.length c3) ∧ W.cell? ⟨b', off' + k * 2 + 1, none⟩ = some (.slice A4 vs[k].2.length c4)) (first | exact HS0.out | exact Four.below HS0.out (below_from (below_drewN (Below.refl _ _) _) hbx (Nat.le_refl _))) ((go_simp; go_at_call 45; refine (HCALL.out _ (below_drewN (Below.refl _ _) _)).mono ?_; rintro e w3 ⟨rfl, hbx⟩))
      have HB3 := Lib.hid (HB.out.trans ((⟨hbx.os, hbx.tape, hbx.output, hbx.size, hbx.block⟩ : Below wr.heap.size wr w3).mono hz))
      clear hbx
      go_wp2_with fail
      go_roundg g
      case measure => omega
      case rel => exact ⟨k + 1, by omega, by go_num, by omega, HB3⟩
    · obtain rfl : k = vs.length := by omega
      go_wp2_with fail
      go_ret
      exact ⟨rfl, HB.out⟩

end Go.Proofs.Ytmadagkdgpohiaa
