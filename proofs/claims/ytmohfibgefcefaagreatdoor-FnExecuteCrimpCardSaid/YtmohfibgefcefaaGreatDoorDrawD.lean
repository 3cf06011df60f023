/- The draws of laws on vertices. No condition but sizes. -/
import Derived.Test.YtmohfibgefcefaaGreatDoorDrawC
namespace Go.Proofs.YtmohfibgefcefaaGreatDoor
open Go.RowKit


set_option maxHeartbeats 1000000 in
theorem spec_DrawVertexFirst (w : World) (A : Option Addr) (cap : Nat) (bs : List UInt8) (h : Codes w w.heap.size A bs) (hl : bs.length ≤ 1048576) (hcap : bs.length ≤ cap) (hcm : cap ≤ maxLen) :
    Calls Tryz.prog 14 #[.slice A bs.length cap] w fun e w' => ∃ (B : Option Addr) (xs : List Int) (c : Nat), e = .returned (.slice B xs.length c) ∧ Ints w' B xs ∧ xs.length ≤ c ∧ c ≤ maxLen ∧ xs.length ≤ 8 ∧ Small xs ∧ Below w.heap.size w w' := by
  go_enter Tryz.func14, Tryz.ntmps14
  go_wp2_with fail
  refine (spec_l6Open w A cap bs h hl hcap hcm).mono ?_
  rintro e w1 ⟨bs', rfl, R1, hb1⟩
  have hsz := R1.blk.lt
  go_wp2_with fail
  refine (spec_l91Angles w1 w.heap.size A cap bs' 0 8 R1 (by omega) (by omega) (by omega)).mono ?_
  rintro e w2 ⟨B, xs, c, q1, rfl, hA, hc, hcm, hxm, hSm, hq1, R2, G2⟩
  have HSm := Lib.hid hSm
  clear hSm
  go_wp2_with fail
  go_ret
  exact ⟨B, xs, c, rfl, hA.ints, hc, hcm, hxm, HSm.out, grown_fresh hb1 G2 hsz⟩



set_option maxHeartbeats 1000000 in
theorem spec_DrawVertexCrimp (w : World) (A : Option Addr) (cap : Nat) (bs : List UInt8) (h : Codes w w.heap.size A bs) (hl : bs.length ≤ 1048576) (hcap : bs.length ≤ cap) (hcm : cap ≤ maxLen) :
    Calls Tryz.prog 23 #[.slice A bs.length cap] w fun e w' => ∃ (B : Option Addr) (xs : List Int) (c : Nat) (s : ByteArray) (i : Int), e = .returned (.tuple #[.slice B xs.length c, .string s, .int .i64 i]) ∧ Ints w' B xs ∧ xs.length ≤ c ∧ c ≤ maxLen ∧ xs.length ≤ 10 ∧ Small xs ∧ s.size ≤ 20 ∧ Below w.heap.size w w' := by
  go_enter Tryz.func23, Tryz.ntmps23
  go_wp2_with fail
  refine (spec_l6Open w A cap bs h hl hcap hcm).mono ?_
  rintro e w1 ⟨bs', rfl, R1, hb1⟩
  have hsz := R1.blk.lt
  go_wp2_with fail
  refine (spec_l91Vertex w1 w.heap.size A cap bs' 0 10 R1 (by omega) (by omega) (by omega)).mono ?_
  rintro e w2 ⟨B, xs, c, s, q1, rfl, hA, hc, hcm, hxm, hSm, hs, hq1, R2, G2⟩
  have HSm := Lib.hid hSm
  have b2 := grown_fresh hb1 G2 hsz
  have hsz2 := R2.blk.lt
  clear hSm G2
  go_wp2_with fail
  refine (spec_VertexCrimps B c xs s w2 hA.ints (by omega) (by unfold maxLen; omega)).mono ?_
  rintro e w3 ⟨v, rfl, hown, hb3⟩
  have hlc : (vcL xs s).length ≤ xs.length := by
    unfold vcL
    split
    · exact crimpsTo_len _ _ _ _
    · simp
  obtain ⟨n, hn⟩ : ∃ n, n = (vcL xs s).length := ⟨_, rfl⟩
  obtain ⟨V, cv, rfl, hI3, hcv, hmv⟩ := hown.form
  have R3 := R2.below hb3 hsz2
  have hA3 := hA.below hb3
  have b3 := below_from b2 hb3 b2.size
  rw [← hn] at hlc hcv
  have HA3 := Lib.hid hA3
  have HN := Lib.hid hn
  have hrow : 0 < n → ∃ b off, V = some ⟨b, off, none⟩ ∧ w.heap.size < b ∧ b < w3.heap.size ∧ ∀ k, k < n → ∃ y, w3.cell? ⟨b, off + k, none⟩ = some (.int .i64 y) := by
    intro h0
    obtain ⟨b, off, e, hb, hcc⟩ := hI3 (by intro e; rw [e] at hn; simp at hn; omega)
    have hbl : w2.heap.size ≤ b := by
      rcases hown.2 with ⟨_, hz⟩ | ⟨g, cp, cu, hv, hbg, _⟩
      · rw [← hn] at hz; omega
      · injection hv with hv1
        rw [e] at hv1
        injection hv1 with hv1
        injection hv1 with hv1
        omega
    exact ⟨b, off, e, by omega, hb, fun k hk => ⟨_, hcc k _ (List.getElem?_eq_getElem (by omega))⟩⟩
  rw [← hn]
  have HROW := Lib.hid hrow
  clear hown hI3 hA hA3 hb3 R2 hn hrow b2
  by_cases n0 : 0 < n
  · have d1 : decide ((0 : Int) < (n : Int)) = true := by simp; omega
    go_wp2_with fail
    refine (spec_pick w3 w.heap.size A cap bs' q1 6 R3 (by omega) (by omega)).mono ?_
    rintro e w4 ⟨m, rfl, hm, R4, g4⟩
    have b4 := grown_fresh b3 g4 R3.blk.lt
    have HA4 := Lib.hid (HA3.out.grown g4)
    have hw34 := g4.size
    by_cases m0 : 0 < m
    · have d2 : decide ((0 : Int) < (m : Int)) = true := by simp; omega
      obtain ⟨b, off, rfl, hrb, hbw, hcell⟩ := HROW.out n0
      have hc5 : ∀ (w5 : World) (x : Nat), (x < n ∨ x = 0) → w4.grownBy w5 (some w.heap.size) → ∃ y, w5.cell? ⟨b, off + x, none⟩ = some (.int .i64 y) := by
        intro w5 x hx hg
        obtain ⟨y, hy⟩ := hcell x (by omega)
        exact ⟨y, (hg.cell_far ⟨b, off + x, none⟩ (by show b < _; omega) (fun e => by have := Option.some.inj e; simp at this; omega)).trans ((g4.cell_far ⟨b, off + x, none⟩ hbw (fun e => by have := Option.some.inj e; simp at this; omega)).trans hy)⟩
      have HC5 := Lib.hid hc5
      clear hc5 hcell g4 hm HROW
      go_wp2_with fail
      go_region_with ((go_at_call 58; refine (spec_pick _ w.heap.size A cap bs' _ n (R4.drewN _) (by omega) (by omega)).mono ?_; rintro e w5 ⟨x, rfl, hx, R5, g5⟩; obtain ⟨y, hy⟩ := HC5.out w5 x hx ⟨g5.os, g5.tape, g5.output, g5.size, g5.block⟩; have hxn : x < n := by omega))
      all_goals
        go_wp2_with fail
        go_ret3
        exact ⟨B, xs, c, s, _, rfl, (HA4.out.grown (w' := w5) ⟨g5.os, g5.tape, g5.output, g5.size, g5.block⟩).ints, hc, hcm, hxm, HSm.out, hs, grown_fresh b4 (w2 := w5) ⟨g5.os, g5.tape, g5.output, g5.size, g5.block⟩ R4.blk.lt⟩
    · obtain rfl : m = 0 := by omega
      clear hm g4
      go_wp2_with fail
      refine (spec_pick w4 w.heap.size A cap bs' _ 11 R4 (by omega) (by omega)).mono ?_
      rintro e w5 ⟨x, rfl, hx, R5, g5⟩
      go_wp2_with fail
      refine (spec_pick w5 w.heap.size A cap bs' _ 8 R5 (by omega) (by omega)).mono ?_
      rintro e w6 ⟨y, rfl, hy, R6, g6⟩
      go_wp2_with fail
      go_ret3
      exact ⟨B, xs, c, s, _, rfl, ((HA4.out.grown g5).grown g6).ints, hc, hcm, hxm, HSm.out, hs, grown_fresh (grown_fresh b4 g5 R4.blk.lt) g6 R5.blk.lt⟩
  · have d1 : decide ((0 : Int) < (n : Int)) = false := by simp; omega
    go_wp2_with fail
    refine (spec_pick w3 w.heap.size A cap bs' _ 11 R3 (by omega) (by omega)).mono ?_
    rintro e w5 ⟨x, rfl, hx, R5, g5⟩
    go_wp2_with fail
    refine (spec_pick w5 w.heap.size A cap bs' _ 8 R5 (by omega) (by omega)).mono ?_
    rintro e w6 ⟨y, rfl, hy, R6, g6⟩
    go_wp2_with fail
    go_ret3
    exact ⟨B, xs, c, s, _, rfl, ((HA3.out.grown g5).grown g6).ints, hc, hcm, hxm, HSm.out, hs, grown_fresh (grown_fresh b3 g5 R3.blk.lt) g6 R5.blk.lt⟩

end Go.Proofs.YtmohfibgefcefaaGreatDoor
