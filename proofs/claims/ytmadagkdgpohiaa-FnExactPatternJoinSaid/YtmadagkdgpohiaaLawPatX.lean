/- The law that the program's PatternJoin is the reference's: the walk of the law itself. No condition but sizes. -/
import Derived.Test.YtmadagkdgpohiaaMarkT
import Derived.Test.YtmadagkdgpohiaaJoinA
import Derived.Test.YtmadagkdgpohiaaJoinB
import Derived.Test.YtmadagkdgpohiaaLawPat
namespace Go.Proofs.Ytmadagkdgpohiaa
open Go.RowKit

theorem jR_small (us vs : List Vx) (i j : Int) : (jR us vs i j).length ≤ 3 ∧ ∀ v ∈ jR us vs i j, v.1.length ≤ 10 ∧ v.2.length ≤ 10 := by
  unfold jR
  cases hb : joinB us vs i j with
  | false => simp
  | true =>
    rw [if_pos rfl]
    unfold joinB at hb
    simp only [Bool.and_eq_true] at hb
    have hp := hb.2
    refine ⟨(patB_parts hp).2.1, fun v hv => ?_⟩
    have := pat_bd2 hp v hv
    omega
theorem szGo_le (vs : List Vx) (left : Int) (h : left ≤ 1048576) : szGo vs left ≤ 1048576 := by
  induction vs generalizing left with
  | nil => exact h
  | cons v r ih =>
    rw [szGo]
    split
    · omega
    · exact ih _ (szV_bd v left h).2
theorem szL_le (vs : List Vx) (left : Int) (h : left ≤ 1048576) : szL vs left ≤ 1048576 := by
  unfold szL
  split
  · omega
  · exact szGo_le vs _ (by omega)
theorem szL_ok2 {vs : List Vx} {left : Int} (hl : left ≤ 1048576) (h : 0 ≤ szL vs left) : vs.length ≤ 1048576 ∧ ∀ v ∈ vs, v.1.length ≤ 1048576 ∧ v.2.length ≤ 1048576 := by
  unfold szL at h
  by_cases e : left - vs.length < 0
  · rw [if_pos e] at h; omega
  · rw [if_neg e] at h
    refine ⟨by omega, fun v hv => ?_⟩
    have := szGo_ok h v hv
    omega
theorem RowOw.touch' {w w' : World} {a H g H' : Nat} {vs : List Vx} {L : List Value} {k : Nat} (h : RowOw w g H' vs L k) (ht : Touch a H w w') (hg : H ≤ g) : RowOw w' g H' vs L k := by
  refine ⟨fun i v hi hv => ?_, h.2.1, h.2.2⟩
  obtain ⟨U, V, e1, e2, e3, e4⟩ := h.1 i v hi hv
  exact ⟨U, V, e1, e2, ht.own e3 (fun q hq => Or.inr (by have := (e3.lt q hq).1; omega)), ht.own e4 (fun q hq => Or.inr (by have := (e4.lt q hq).1; omega))⟩

set_option maxHeartbeats 4000000 in
theorem law_FnExactPatternJoin (A B : Option Addr) (capA capB : Nat) (us vs : List Vx) (i j : Int) (w : World) (hA : Verts w A us) (hB : Verts w B vs) (hlA : us.length ≤ maxLen) (hlB : vs.length ≤ maxLen) :
    Calls Try.prog 7 #[.slice A us.length capA, .slice B vs.length capB, .int .i64 i, .int .i64 j] w fun e w' => e = .returned (.bool true) ∧ Below w.heap.size w w' := by
  obtain ⟨sa, hsa⟩ : ∃ sa, sa = szL us 1048576 := ⟨_, rfl⟩
  have hsa1 : sa ≤ 1048576 := by rw [hsa]; exact szL_le _ _ (by omega)
  obtain ⟨sb, hsb⟩ : ∃ sb, sb = szL vs sa := ⟨_, rfl⟩
  obtain ⟨rs, hrs⟩ : ∃ rs, rs = jR us vs i j := ⟨_, rfl⟩
  obtain ⟨b, hb⟩ : ∃ b, b = joinB us vs i j := ⟨_, rfl⟩
  have hsm := jR_small us vs i j
  rw [← hrs] at hsm
  obtain ⟨hrl, hrv⟩ := hsm
  obtain ⟨n, hn⟩ : ∃ n, n = rs.length := ⟨_, rfl⟩
  rw [← hn] at hrl
  have hrv2 : ∀ v ∈ rs, v.1.length ≤ 1048576 ∧ v.2.length ≤ 1048576 := fun v hv => by have := hrv v hv; omega
  have hbb : (b != b) = false := by cases b <;> rfl
  obtain ⟨m, hm⟩ : ∃ m, m = 1 + totV rs := ⟨_, rfl⟩
  have hm0 : 0 ≤ m := by have := totV_pos rs; omega
  have HM := Lib.hid hm
  have HSA := Lib.hid hsa
  have HSB := Lib.hid hsb
  have HRS := Lib.hid hrs
  have HBb := Lib.hid hb
  have HN := Lib.hid hn
  have HRV := Lib.hid hrv2
  clear hsa hsb hrs hb hn hrv hrv2 hm
  go_enter Try.func7, Try.ntmps7
  go_wp2_with fail
  refine (laws_szVertexS A capA us 1048576 w hA hlA (by omega) (by omega)).mono ?_
  rintro e w0 ⟨rfl, hb0⟩
  rw [← HSA.out]
  by_cases ga : sa < 0
  · have d : decide (sa < 0) = true := by simp; omega
    go_wp2_with fail
    go_ret
    exact ⟨rfl, hb0⟩
  · have d : decide (sa < 0) = false := by simp; omega
    go_wp2_with fail
    refine (laws_szVertexS B capB vs sa w0 (hB.below hb0) hlB (by omega) (by omega)).mono ?_
    rintro e w1 ⟨rfl, hb1'⟩
    rw [← HSB.out]
    have hb1 := below_from hb0 hb1' hb0.size
    clear hb0 hb1'
    by_cases gb : sb < 0
    · have d' : decide (sb < 0) = true := by simp; omega
      go_wp2_with fail
      go_ret
      exact ⟨rfl, hb1⟩
    · have d' : decide (sb < 0) = false := by simp; omega
      obtain ⟨l1, l2⟩ := szL_ok2 (vs := us) (left := 1048576) (by omega) (by rw [← HSA.out]; omega)
      obtain ⟨l3, l4⟩ := szL_ok2 (vs := vs) (left := sa) hsa1 (by rw [← HSB.out]; omega)
      have L2 := Lib.hid l2
      have L4 := Lib.hid l4
      clear l2 l4
      have hlmA : us.length ≤ maxLen := by unfold maxLen; omega
      have hlmB : vs.length ≤ maxLen := by unfold maxLen; omega
      go_wp2_with fail
      refine (laws_toVertexS A capA us w1 (hA.below hb1) l1 L2.out).mono ?_
      rintro e w2 ⟨R2, rfl, hr2, ht2, hb2⟩
      have hv2 := hr2.verts ht2
      have b2 := below_from hb1 hb2 hb1.size
      clear hr2 ht2 hb1 hb2
      go_wp2_with fail
      refine (laws_toVertexS B capB vs w2 (hB.below b2) l3 L4.out).mono ?_
      rintro e w2b ⟨R2b, rfl, hr2b, ht2b, hb2b⟩
      have hv2b := hr2b.verts ht2b
      have hv2' := hv2.below hb2b
      have b2b := below_from b2 hb2b b2.size
      clear hr2b ht2b b2 hb2b hv2
      go_wp2_with fail
      refine (spec_PatternJoin _ _ us.length vs.length us vs i j w2b hv2' hv2b hlmA hlmB).mono ?_
      rintro e w3 ⟨A3, c3, rfl, v3, _, _, q3⟩
      rw [← HRS.out, ← HBb.out, ← HN.out]
      rw [← HRS.out] at v3
      have b3 := below_from b2b q3 b2b.size
      have V3 := Lib.hid v3
      have hs3 : w.heap.size ≤ w3.heap.size := b3.size
      clear b2b q3 hv2' hv2b v3
      go_wp2_with fail
      refine (laws_toVertexM A capA us w3 (hA.below b3) l1 L2.out).mono ?_
      rintro e w4 ⟨L, rfl, hr4, hm4, q4⟩
      have b4 := below_from b3 q4 b3.size
      have hv4 := hr4.verts hm4.rowTo
      have HR4 := Lib.hid hr4
      have HM4 := Lib.hid hm4
      have Q34 := Lib.hid q4
      have hs34 : w3.heap.size < w4.heap.size := (hr4.lt _ rfl).2
      clear b3 q4 hr4 hm4
      go_wp2_with fail
      refine (laws_toVertexM B capB vs w4 (hB.below b4) l3 L4.out).mono ?_
      rintro e w4b ⟨L', rfl, hr4b, hm4b, q4b⟩
      have b4b := below_from b4 q4b b4.size
      have hv4b := hr4b.verts hm4b.rowTo
      have hv4' := hv4.below q4b
      have HR4b := Lib.hid hr4b
      have HM4b := Lib.hid hm4b
      have HR4' := Lib.hid (own_below2 HR4.out q4b)
      have HM4' := Lib.hid (HM4.out.below q4b)
      have Q34b := Lib.hid (below_from Q34.out q4b (Nat.le_of_lt hs34))
      have hs44 : w4.heap.size < w4b.heap.size := (hr4b.lt _ rfl).2
      clear b4 q4b hr4b hm4b hv4 HR4 HM4 Q34
      go_wp2_with fail
      refine (impl_PatternJoin _ _ us.length vs.length us vs i j w4b hv4' hv4b hlmA hlmB).mono ?_
      rintro e w5 ⟨g5, L5, rfl, hr5, ho5, q5⟩
      rw [← HRS.out, ← HBb.out, ← HN.out]
      rw [← HRS.out, ← HN.out] at hr5 ho5
      have b5 := below_from b4b q5 b4b.size
      have hv5 := hv4'.below q5
      have hv5b := hv4b.below q5
      have HR5 := Lib.hid (own_below2 HR4'.out q5)
      have HM5 := Lib.hid (HM4'.out.below q5)
      have HR5b := Lib.hid (own_below2 HR4b.out q5)
      have HM5b := Lib.hid (HM4b.out.below q5)
      have hg5 : w4b.heap.size ≤ g5 := (hr5.lt _ rfl).1
      have hg5s : g5 < w5.heap.size := (hr5.lt _ rfl).2
      have Q35 := Lib.hid (below_from Q34b.out q5 (by omega))
      have gv5 := hr5.read ho5 HN.out.symm
      have GR5 := Lib.hid hr5
      have GO5 := Lib.hid ho5
      have hz5 : w3.heap.size ≤ w5.heap.size := by omega
      clear b4b q5 hv4' hv4b HR4' HM4' HR4b HM4b hr5 ho5 Q34b
      have e5 : Calls Try.prog 16 #[.slice (some ⟨g5, 0, none⟩) n n, .slice A3 n c3] w5 fun e w' => e = .returned (.bool true) ∧ Below w5.heap.size w5 w' := by
        have := laws_eqVertexS (some ⟨g5, 0, none⟩) A3 n c3 rs w5 gv5 (V3.out.below Q35.out) (by rw [← HN.out]; omega)
        rwa [← HN.out] at this
      have E5 := Lib.hid e5
      clear e5
      go_wp2_with fail
      refine E5.out.mono ?_
      rintro e w6 ⟨rfl, q6⟩
      have b6 := below_from b5 q6 b5.size
      have hv6 := hv5.below q6
      have hv6b := hv5b.below q6
      have HR6 := Lib.hid (own_below2 HR5.out q6)
      have HM6 := Lib.hid (HM5.out.below q6)
      have HR6b := Lib.hid (own_below2 HR5b.out q6)
      have HM6b := Lib.hid (HM5b.out.below q6)
      have GR6 := Lib.hid (own_below2 GR5.out q6)
      have GO6 := Lib.hid (GO5.out.below q6)
      have Q36 := Lib.hid (below_from Q35.out q6 hz5)
      have hz6 : w5.heap.size ≤ w6.heap.size := q6.size
      clear b5 q6 hv5 hv5b HR5 HM5 HR5b HM5b GR5 GO5 Q35 gv5 E5
      go_wp2_with fail
      refine (laws_toVertexS A capA us w6 (hA.below b6) l1 L2.out).mono ?_
      rintro e w7 ⟨R7, rfl, hr7, ht7, q7⟩
      have hv7 := hr7.verts ht7
      have hv7' := hv6.below q7
      have hv7b := hv6b.below q7
      have b7 := below_from b6 q7 b6.size
      have HR7 := Lib.hid (own_below2 HR6.out q7)
      have HM7 := Lib.hid (HM6.out.below q7)
      have HR7b := Lib.hid (own_below2 HR6b.out q7)
      have HM7b := Lib.hid (HM6b.out.below q7)
      have GR7 := Lib.hid (own_below2 GR6.out q7)
      have GO7 := Lib.hid (GO6.out.below q7)
      have Q37 := Lib.hid (below_from Q36.out q7 (by omega))
      have hz7 : w6.heap.size ≤ w7.heap.size := q7.size
      clear hr7 ht7 b6 q7 hv6 hv6b HR6 HM6 HR6b HM6b GR6 GO6 Q36
      go_wp2_with fail
      refine (laws_eqVertexS _ _ us.length us.length us w7 hv7' hv7 l1).mono ?_
      rintro e w8 ⟨rfl, q8⟩
      have b8 := below_from b7 q8 b7.size
      have hv8b := hv7b.below q8
      have HR8 := Lib.hid (own_below2 HR7.out q8)
      have HM8 := Lib.hid (HM7.out.below q8)
      have HR8b := Lib.hid (own_below2 HR7b.out q8)
      have HM8b := Lib.hid (HM7b.out.below q8)
      have GR8 := Lib.hid (own_below2 GR7.out q8)
      have GO8 := Lib.hid (GO7.out.below q8)
      have Q38 := Lib.hid (below_from Q37.out q8 (by omega))
      have hz8 : w7.heap.size ≤ w8.heap.size := q8.size
      clear hv7 hv7' hv7b b7 q8 HR7 HM7 HR7b HM7b GR7 GO7 Q37
      go_wp2_with fail
      refine (laws_toVertexS B capB vs w8 (hB.below b8) l3 L4.out).mono ?_
      rintro e w7 ⟨R7, rfl, hr7, ht7, q7⟩
      have hv7 := hr7.verts ht7
      have hv7b := hv8b.below q7
      have b7 := below_from b8 q7 b8.size
      have HR7 := Lib.hid (own_below2 HR8.out q7)
      have HM7 := Lib.hid (HM8.out.below q7)
      have HR7b := Lib.hid (own_below2 HR8b.out q7)
      have HM7b := Lib.hid (HM8b.out.below q7)
      have GR7 := Lib.hid (own_below2 GR8.out q7)
      have GO7 := Lib.hid (GO8.out.below q7)
      have Q37 := Lib.hid (below_from Q38.out q7 (by omega))
      have hz7 : w8.heap.size ≤ w7.heap.size := q7.size
      clear hr7 ht7 b8 q7 hv8b HR8 HM8 HR8b HM8b GR8 GO8 Q38
      go_wp2_with fail
      refine (laws_eqVertexS _ _ vs.length vs.length vs w7 hv7b hv7 l3).mono ?_
      rintro e w8b ⟨rfl, q8⟩
      have b8 := below_from b7 q8 b7.size
      have HR8 := Lib.hid (own_below2 HR7.out q8)
      have HM8 := Lib.hid (HM7.out.below q8)
      have HR8b := Lib.hid (own_below2 HR7b.out q8)
      have HM8b := Lib.hid (HM7b.out.below q8)
      have GR8 := Lib.hid (own_below2 GR7.out q8)
      have GO8 := Lib.hid (GO7.out.below q8)
      have Q38 := Lib.hid (below_from Q37.out q8 (by omega))
      have hz8b : w7.heap.size ≤ w8b.heap.size := q8.size
      clear hv7 hv7b b7 q8 HR7 HM7 HR7b HM7b GR7 GO7 Q37
      obtain ⟨tu, htu⟩ : ∃ tu, tu = 1 + totV us := ⟨_, rfl⟩
      have htu0 : 0 ≤ tu := by have := totV_pos us; omega
      have htu1 : tu ≤ 3000000000000 := by have := totV_le (q := 1048576) L2.out; omega
      obtain ⟨tv, htv⟩ : ∃ tv, tv = tu + totV vs := ⟨_, rfl⟩
      have htv0 : 0 ≤ tv := by have := totV_pos vs; omega
      have HTU := Lib.hid htu
      have HTV := Lib.hid htv
      clear htu htv
      go_wp2_with fail
      refine (laws_markVertexT w3.heap.size w3.heap.size w4.heap.size L us 1 w8b HR8.out HM8.out l1 L2.out (by omega) (by omega)).mono ?_
      rintro e w9 ⟨rfl, _, _, t9⟩
      rw [← HTU.out]
      have b9 : Below w.heap.size w w9 := b8.trans (t9.1.mono (by omega))
      have HR9b := Lib.hid (t9.own HR8b.out (fun q hq => Or.inr (by have e : w4.heap.size = q := Option.some.inj hq; omega)))
      have HM9b := Lib.hid (HM8b.out.touch' t9 (Nat.le_refl _))
      have GR9 := Lib.hid (t9.own GR8.out (fun q hq => Or.inr (by have e : g5 = q := Option.some.inj hq; omega)))
      have GO9 := Lib.hid (GO8.out.touch' t9 (by omega))
      have Q39 := Lib.hid (Q38.out.trans (t9.1.mono (Nat.le_succ _)))
      have hz9 : w8b.heap.size ≤ w9.heap.size := t9.1.size
      clear b8 HR8 HM8 HR8b HM8b GR8 GO8 Q38 t9
      go_wp2_with fail
      refine (laws_markVertexT w4.heap.size w4.heap.size w4b.heap.size L' vs tu w9 HR9b.out HM9b.out l3 L4.out htu0 htu1).mono ?_
      rintro e w9b ⟨rfl, _, _, t9⟩
      rw [← HTV.out]
      have b9b : Below w.heap.size w w9b := b9.trans (t9.1.mono (by omega))
      have GR9b := Lib.hid (t9.own GR9.out (fun q hq => Or.inr (by have e : g5 = q := Option.some.inj hq; omega)))
      have GO9b := Lib.hid (GO9.out.touch' t9 hg5)
      have Q39b := Lib.hid (Q39.out.trans (t9.1.mono (by omega)))
      have hz9b : w9.heap.size ≤ w9b.heap.size := t9.1.size
      have gv9 := RowV.read GR9b.out GO9b.out HN.out.symm
      have dk : decide (tv < 0) = false := by simp; omega
      have e9 : Calls Try.prog 16 #[.slice (some ⟨g5, 0, none⟩) n n, .slice A3 n c3] w9b fun e w' => e = .returned (.bool true) ∧ Below w9b.heap.size w9b w' := by
        have := laws_eqVertexS (some ⟨g5, 0, none⟩) A3 n c3 rs w9b gv9 (V3.out.below Q39b.out) (by rw [← HN.out]; omega)
        rwa [← HN.out] at this
      have E9 := Lib.hid e9
      clear e9 b9 HR9b HM9b GR9 GO9 Q39 t9 gv9
      go_wp2_with fail
      refine E9.out.mono ?_
      rintro e w10 ⟨rfl, q10⟩
      have b10 := below_from b9b q10 b9b.size
      have GR10 := Lib.hid (own_below2 GR9b.out q10)
      have GO10 := Lib.hid (GO9b.out.below q10)
      have Q310 := Lib.hid (below_from Q39b.out q10 (by omega))
      have hz10 : w9b.heap.size ≤ w10.heap.size := q10.size
      clear b9b q10 GR9b GO9b Q39b E9
      have e10 : Calls Try.prog 22 #[.slice (some ⟨g5, 0, none⟩) n n, .int .i64 1] w10 fun e w' => e = .returned (.int .i64 m) ∧ RowV w' w4b.heap.size g5 n L5 ∧ RowOw w' g5 w5.heap.size (marksV rs 1) L5 n ∧ Touch (g5 + 1) w5.heap.size w10 w' := by
        have := laws_markVertexT w4b.heap.size g5 w5.heap.size L5 rs 1 w10 (by rw [← HN.out]; exact GR10.out) (by rw [← HN.out]; exact GO10.out) (by rw [← HN.out]; omega) HRV.out (by omega) (by omega)
        rw [← HN.out, ← HM.out] at this
        exact this
      have E10 := Lib.hid e10
      clear e10
      go_wp2_with fail
      refine E10.out.mono ?_
      rintro e w11 ⟨rfl, r11, o11, t11⟩
      have b11 : Below w.heap.size w w11 := b10.trans (t11.1.mono (by omega))
      have Q311 := Lib.hid (Q310.out.trans (t11.1.mono (by omega)))
      have gm11 : Verts w11 (some ⟨g5, 0, none⟩) (marksV rs 1) := r11.read o11 (by rw [marksV_len]; exact HN.out.symm)
      have hz11 : w10.heap.size ≤ w11.heap.size := t11.1.size
      have hc11 : ∀ W : World, Verts W (some ⟨g5, 0, none⟩) (marksV rs 1) → Calls Try.prog 27 #[.slice (some ⟨g5, 0, none⟩) n n, .int .i64 1] W fun e w' => e = .returned (.int .i64 m) ∧ W = w' := by
        intro W hW
        have := laws_heldVertexS (some ⟨g5, 0, none⟩) n rs 1 W hW (by rw [← HN.out]; omega) HRV.out (by omega) (by omega)
        rw [← HN.out, ← HM.out] at this
        exact this
      have HC11 := Lib.hid hc11
      have GM11 := Lib.hid gm11
      have dm : decide (m < 0) = false := by simp; omega
      have dmm : (m != m) = false := by simp
      clear b10 r11 o11 t11 gm11 hc11 GR10 GO10 Q310 E10
      go_wp2_with fail
      refine (HC11.out w11 GM11.out).mono ?_
      rintro e w' ⟨rfl, rfl⟩
      go_wp2_with fail
      refine (laws_toVertexS A capA us w11 (hA.below b11) l1 L2.out).mono ?_
      rintro e w12 ⟨R12, rfl, hr12, ht12, q12⟩
      have hv12 := hr12.verts ht12
      have b12 := below_from b11 q12 b11.size
      have GM12 := Lib.hid (GM11.out.below q12)
      have Q312 := Lib.hid (below_from Q311.out q12 (by omega))
      have hz12 : w11.heap.size ≤ w12.heap.size := q12.size
      clear hr12 ht12 b11 q12 GM11 Q311
      go_wp2_with fail
      refine (laws_toVertexS B capB vs w12 (hB.below b12) l3 L4.out).mono ?_
      rintro e w12b ⟨R12b, rfl, hr12b, ht12b, q12b⟩
      have hv12b := hr12b.verts ht12b
      have hv12' := hv12.below q12b
      have b12b := below_from b12 q12b b12.size
      have GM12b := Lib.hid (GM12.out.below q12b)
      have Q312b := Lib.hid (below_from Q312.out q12b (by omega))
      have hz12b : w12.heap.size ≤ w12b.heap.size := q12b.size
      clear hr12b ht12b b12 q12b GM12 Q312 hv12
      go_wp2_with fail
      refine (impl_PatternJoin _ _ us.length vs.length us vs i j w12b hv12' hv12b hlmA hlmB).mono ?_
      rintro e w13 ⟨g13, L13, rfl, hr13, ho13, q13⟩
      rw [← HRS.out, ← HBb.out, ← HN.out]
      rw [← HRS.out, ← HN.out] at hr13 ho13
      have b13 := below_from b12b q13 b12b.size
      have gv13 := hr13.read ho13 HN.out.symm
      have GM13 := Lib.hid (GM12b.out.below q13)
      have Q313 := Lib.hid (below_from Q312b.out q13 (by omega))
      have e13 : Calls Try.prog 16 #[.slice (some ⟨g13, 0, none⟩) n n, .slice A3 n c3] w13 fun e w' => e = .returned (.bool true) ∧ Below w13.heap.size w13 w' := by
        have := laws_eqVertexS (some ⟨g13, 0, none⟩) A3 n c3 rs w13 gv13 (V3.out.below Q313.out) (by rw [← HN.out]; omega)
        rwa [← HN.out] at this
      have E13 := Lib.hid e13
      clear e13 b12b hr13 ho13 q13 hv12' hv12b GM12b Q312b gv13
      go_wp2_with fail
      refine E13.out.mono ?_
      rintro e w14 ⟨rfl, q14⟩
      have b14 := below_from b13 q14 b13.size
      have GM14 := Lib.hid (GM13.out.below q14)
      clear b13 q14 GM13 E13 Q313
      go_wp2_with fail
      refine (HC11.out w14 GM14.out).mono ?_
      rintro e w' ⟨rfl, rfl⟩
      go_wp2_with fail
      go_ret
      exact ⟨rfl, b14⟩
end Go.Proofs.Ytmadagkdgpohiaa
