/- The law that the program's PatternWithout is the reference's: the walk of the law itself. No condition but sizes. -/
import Derived.Test.YtmadagkdgpohiaaMarkT
import Derived.Test.YtmadagkdgpohiaaWithB
import Derived.Test.YtmadagkdgpohiaaLawPatI
namespace Go.Proofs.Ytmadagkdgpohiaa
open Go.RowKit

theorem woR_small (vs : List Vx) (z : Int) : (woR vs z).length ≤ 3 ∧ ∀ v ∈ woR vs z, v.1.length ≤ 10 ∧ v.2.length ≤ 10 := by
  unfold woR
  cases hb : withoutB vs z with
  | false => simp
  | true =>
    rw [if_pos rfl]
    unfold withoutB at hb
    simp only [Bool.and_eq_true, decide_eq_true_eq] at hb
    obtain ⟨⟨⟨hp, h0⟩, h1⟩, h2⟩ := hb
    obtain ⟨_, p3, hall, _⟩ := patB_parts hp
    unfold withoutL
    refine ⟨?_, fun v hv => ?_⟩
    · rw [List.length_map]
      have := List.length_eraseIdx_le vs z.toNat
      omega
    · obtain ⟨u, hu, rfl⟩ := List.mem_map.1 hv
      have h3 := vtxB_bd (List.all_eq_true.1 hall u (List.mem_of_mem_eraseIdx hu))
      refine ⟨?_, ?_⟩
      · show u.1.length ≤ 10; omega
      · show (u.2.map _).length ≤ 10; rw [List.length_map]; omega
theorem RowOw.touch {w w' : World} {a H g H' : Nat} {vs : List Vx} {L : List Value} {k : Nat} (h : RowOw w g H' vs L k) (ht : Touch a H w w') (hg : H ≤ g) : RowOw w' g H' vs L k := by
  refine ⟨fun i v hi hv => ?_, h.2.1, h.2.2⟩
  obtain ⟨U, V, e1, e2, e3, e4⟩ := h.1 i v hi hv
  exact ⟨U, V, e1, e2, ht.own e3 (fun q hq => Or.inr (by have := (e3.lt q hq).1; omega)), ht.own e4 (fun q hq => Or.inr (by have := (e4.lt q hq).1; omega))⟩
theorem RowV.read {w : World} {B g H n : Nat} {vs : List Vx} {L : List Value} (hr : RowV w B g n L) (ho : RowOw w g H vs L n) (hn : vs.length = n) : Verts w (some ⟨g, 0, none⟩) vs := by
  subst hn
  exact hr.verts ho.rowTo

set_option maxHeartbeats 4000000 in
theorem law_FnExactPatternWithout (A : Option Addr) (cap : Nat) (vs : List Vx) (z : Int) (w : World) (h : Verts w A vs) (hl : vs.length ≤ maxLen) :
    Calls Try.prog 6 #[.slice A vs.length cap, .int .i64 z] w fun e w' => e = .returned (.bool true) ∧ Below w.heap.size w w' := by
  obtain ⟨s, hs⟩ : ∃ s, s = szL vs 1048576 := ⟨_, rfl⟩
  obtain ⟨rs, hrs⟩ : ∃ rs, rs = woR vs z := ⟨_, rfl⟩
  obtain ⟨b, hb⟩ : ∃ b, b = withoutB vs z := ⟨_, rfl⟩
  have hsm := woR_small vs z
  rw [← hrs] at hsm
  obtain ⟨hrl, hrv⟩ := hsm
  obtain ⟨n, hn⟩ : ∃ n, n = rs.length := ⟨_, rfl⟩
  rw [← hn] at hrl
  have hrv2 : ∀ v ∈ rs, v.1.length ≤ 1048576 ∧ v.2.length ≤ 1048576 := fun v hv => by have := hrv v hv; omega
  have hbb : (b != b) = false := by cases b <;> rfl
  obtain ⟨m, hm⟩ : ∃ m, m = 1 + totV rs := ⟨_, rfl⟩
  have hm0 : 0 ≤ m := by have := totV_pos rs; omega
  have HM := Lib.hid hm
  have HS := Lib.hid hs
  have HRS := Lib.hid hrs
  have HBb := Lib.hid hb
  have HN := Lib.hid hn
  have HRV := Lib.hid hrv2
  clear hs hrs hb hn hrv hrv2 hm
  go_enter Try.func6, Try.ntmps6
  go_wp2_with fail
  refine (laws_szVertexS A cap vs 1048576 w h hl (by omega) (by omega)).mono ?_
  rintro e w1 ⟨rfl, hb1⟩
  rw [← HS.out]
  by_cases g : s < 0
  · have d : decide (s < 0) = true := by simp; omega
    go_wp2_with fail
    go_ret
    exact ⟨rfl, hb1⟩
  · have d : decide (s < 0) = false := by simp; omega
    obtain ⟨l1, l2⟩ := szL_ok (vs := vs) (by rw [← HS.out]; omega)
    have L2 := Lib.hid l2
    clear l2
    have hlm : vs.length ≤ maxLen := by unfold maxLen; omega
    go_wp2_with fail
    refine (laws_toVertexS A cap vs w1 (h.below hb1) l1 L2.out).mono ?_
    rintro e w2 ⟨R2, rfl, hr2, ht2, hb2⟩
    have hv2 := hr2.verts ht2
    have b2 := below_from hb1 hb2 hb1.size
    clear hr2 ht2 hb1 hb2
    go_wp2_with fail
    refine (spec_PatternWithout _ vs.length vs z w2 hv2 (Nat.le_refl _) hlm).mono ?_
    rintro e w3 ⟨A3, c3, rfl, v3, _, _, q3⟩
    rw [← HRS.out, ← HBb.out, ← HN.out]
    rw [← HRS.out] at v3
    have b3 := below_from b2 q3 b2.size
    have V3 := Lib.hid v3
    have hs3 : w.heap.size ≤ w3.heap.size := b3.size
    clear b2 q3 hv2 v3
    go_wp2_with fail
    refine (laws_toVertexM A cap vs w3 (h.below b3) l1 L2.out).mono ?_
    rintro e w4 ⟨L, rfl, hr4, hm4, q4⟩
    have b4 := below_from b3 q4 b3.size
    have hv4 := hr4.verts hm4.rowTo
    have HR4 := Lib.hid hr4
    have HM4 := Lib.hid hm4
    have Q34 := Lib.hid q4
    have hs34 : w3.heap.size < w4.heap.size := (hr4.lt _ rfl).2
    clear b3 q4 hr4 hm4
    go_wp2_with fail
    refine (impl_PatternWithout _ vs.length vs z w4 hv4 hlm).mono ?_
    rintro e w5 ⟨g5, L5, rfl, hr5, ho5, q5⟩
    rw [← HRS.out, ← HBb.out, ← HN.out]
    rw [← HRS.out, ← HN.out] at hr5 ho5
    have b5 := below_from b4 q5 b4.size
    have hv5 := hv4.below q5
    have HR5 := Lib.hid (own_below2 HR4.out q5)
    have HM5 := Lib.hid (HM4.out.below q5)
    have hg5 : w4.heap.size ≤ g5 := (hr5.lt _ rfl).1
    have hg5s : g5 < w5.heap.size := (hr5.lt _ rfl).2
    have Q35 := Lib.hid (below_from Q34.out q5 (Nat.le_of_lt hs34))
    have gv5 := hr5.read ho5 HN.out.symm
    have GR5 := Lib.hid hr5
    have GO5 := Lib.hid ho5
    have hz5 : w3.heap.size ≤ w5.heap.size := by omega
    clear b4 q5 hv4 HR4 HM4 hr5 ho5 Q34
    have e5 : Calls Try.prog 16 #[.slice (some ⟨g5, 0, none⟩) n n, .slice A3 n c3] w5 fun e w' => e = .returned (.bool true) ∧ Below w5.heap.size w5 w' := by
      have := laws_eqVertexS (some ⟨g5, 0, none⟩) A3 n c3 rs w5 gv5 (V3.out.below Q35.out) (by rw [← HN.out]; omega)
      rwa [← HN.out] at this
    have E5 := Lib.hid e5
    clear e5
    go_wp2_with fail
    refine E5.out.mono ?_
    rintro e w6 ⟨rfl, q6⟩
    have b6 := below_from b5 q6 b5.size
    have hv6 := hv5.below q6
    have HR6 := Lib.hid (own_below2 HR5.out q6)
    have HM6 := Lib.hid (HM5.out.below q6)
    have GR6 := Lib.hid (own_below2 GR5.out q6)
    have GO6 := Lib.hid (GO5.out.below q6)
    have Q36 := Lib.hid (below_from Q35.out q6 hz5)
    have hz6 : w5.heap.size ≤ w6.heap.size := q6.size
    clear b5 q6 hv5 HR5 HM5 GR5 GO5 Q35 gv5 E5
    go_wp2_with fail
    refine (laws_toVertexS A cap vs w6 (h.below b6) l1 L2.out).mono ?_
    rintro e w7 ⟨R7, rfl, hr7, ht7, q7⟩
    have hv7 := hr7.verts ht7
    have hv7' := hv6.below q7
    have b7 := below_from b6 q7 b6.size
    have HR7 := Lib.hid (own_below2 HR6.out q7)
    have HM7 := Lib.hid (HM6.out.below q7)
    have GR7 := Lib.hid (own_below2 GR6.out q7)
    have GO7 := Lib.hid (GO6.out.below q7)
    have Q37 := Lib.hid (below_from Q36.out q7 (by omega))
    have hz7 : w6.heap.size ≤ w7.heap.size := q7.size
    clear hr7 ht7 b6 q7 hv6 HR6 HM6 GR6 GO6 Q36
    go_wp2_with fail
    refine (laws_eqVertexS _ _ vs.length vs.length vs w7 hv7' hv7 l1).mono ?_
    rintro e w8 ⟨rfl, q8⟩
    have b8 := below_from b7 q8 b7.size
    have HR8 := Lib.hid (own_below2 HR7.out q8)
    have HM8 := Lib.hid (HM7.out.below q8)
    have GR8 := Lib.hid (own_below2 GR7.out q8)
    have GO8 := Lib.hid (GO7.out.below q8)
    have Q38 := Lib.hid (below_from Q37.out q8 (by omega))
    have hz8 : w7.heap.size ≤ w8.heap.size := q8.size
    clear hv7 hv7' b7 q8 HR7 HM7 GR7 GO7 Q37
    obtain ⟨tv, htv⟩ : ∃ tv, tv = 1 + totV vs := ⟨_, rfl⟩
    have htv0 : 0 ≤ tv := by have := totV_pos vs; omega
    have HTV := Lib.hid htv
    clear htv
    go_wp2_with fail
    refine (laws_markVertexT w3.heap.size w3.heap.size w4.heap.size L vs 1 w8 HR8.out HM8.out l1 L2.out (by omega) (by omega)).mono ?_
    rintro e w9 ⟨rfl, _, _, t9⟩
    rw [← HTV.out]
    have b9 : Below w.heap.size w w9 := b8.trans (t9.1.mono (by omega))
    have GR9 := Lib.hid (t9.own GR8.out (fun q hq => Or.inr (by have e : g5 = q := Option.some.inj hq; omega)))
    have GO9 := Lib.hid (GO8.out.touch t9 hg5)
    have Q39 := Lib.hid (Q38.out.trans (t9.1.mono (Nat.le_succ _)))
    have hz9 : w8.heap.size ≤ w9.heap.size := t9.1.size
    have gv9 := RowV.read GR9.out GO9.out HN.out.symm
    have dk : decide (tv < 0) = false := by simp; omega
    have e9 : Calls Try.prog 16 #[.slice (some ⟨g5, 0, none⟩) n n, .slice A3 n c3] w9 fun e w' => e = .returned (.bool true) ∧ Below w9.heap.size w9 w' := by
      have := laws_eqVertexS (some ⟨g5, 0, none⟩) A3 n c3 rs w9 gv9 (V3.out.below Q39.out) (by rw [← HN.out]; omega)
      rwa [← HN.out] at this
    have E9 := Lib.hid e9
    clear e9 b8 HR8 HM8 GR8 GO8 Q38 t9 gv9
    go_wp2_with fail
    refine E9.out.mono ?_
    rintro e w10 ⟨rfl, q10⟩
    have b10 := below_from b9 q10 b9.size
    have GR10 := Lib.hid (own_below2 GR9.out q10)
    have GO10 := Lib.hid (GO9.out.below q10)
    have Q310 := Lib.hid (below_from Q39.out q10 (by omega))
    have hz10 : w9.heap.size ≤ w10.heap.size := q10.size
    clear b9 q10 GR9 GO9 Q39 E9
    have e10 : Calls Try.prog 22 #[.slice (some ⟨g5, 0, none⟩) n n, .int .i64 1] w10 fun e w' => e = .returned (.int .i64 m) ∧ RowV w' w4.heap.size g5 n L5 ∧ RowOw w' g5 w5.heap.size (marksV rs 1) L5 n ∧ Touch (g5 + 1) w5.heap.size w10 w' := by
      have := laws_markVertexT w4.heap.size g5 w5.heap.size L5 rs 1 w10 (by rw [← HN.out]; exact GR10.out) (by rw [← HN.out]; exact GO10.out) (by rw [← HN.out]; omega) HRV.out (by omega) (by omega)
      rw [← HN.out, ← HM.out] at this
      exact this
    have E10 := Lib.hid e10
    clear e10
    go_wp2_with fail
    refine E10.out.mono ?_
    rintro e w11 ⟨rfl, r11, o11, t11⟩
    have b11 : Below w.heap.size w w11 := b10.trans (t11.1.mono (by omega))
    have Q311 := Lib.hid (Q310.out.trans (t11.1.mono (by omega)))
    have gm11 : Verts w11 (some ⟨g5, 0, none⟩) (marksV rs 1) := r11.read o11 (by rw [marksV_len]; exact HN.out.symm)
    have hz11 : w10.heap.size ≤ w11.heap.size := t11.1.size
    have hc11 : ∀ W : World, Verts W (some ⟨g5, 0, none⟩) (marksV rs 1) → Calls Try.prog 27 #[.slice (some ⟨g5, 0, none⟩) n n, .int .i64 1] W fun e w' => e = .returned (.int .i64 m) ∧ W = w' := by
      intro W hW
      have := laws_heldVertexS (some ⟨g5, 0, none⟩) n rs 1 W hW (by rw [← HN.out]; omega) HRV.out (by omega) (by omega)
      rw [← HN.out, ← HM.out] at this
      exact this
    have HC11 := Lib.hid hc11
    have GM11 := Lib.hid gm11
    have dm : decide (m < 0) = false := by simp; omega
    have dmm : (m != m) = false := by simp
    clear b10 r11 o11 t11 gm11 hc11 GR10 GO10 Q310 E10
    go_wp2_with fail
    refine (HC11.out w11 GM11.out).mono ?_
    rintro e w' ⟨rfl, rfl⟩
    go_wp2_with fail
    refine (laws_toVertexS A cap vs w11 (h.below b11) l1 L2.out).mono ?_
    rintro e w12 ⟨R12, rfl, hr12, ht12, q12⟩
    have hv12 := hr12.verts ht12
    have b12 := below_from b11 q12 b11.size
    have GM12 := Lib.hid (GM11.out.below q12)
    have Q312 := Lib.hid (below_from Q311.out q12 (by omega))
    have hz12 : w11.heap.size ≤ w12.heap.size := q12.size
    clear hr12 ht12 b11 q12 GM11 Q311
    go_wp2_with fail
    refine (impl_PatternWithout _ vs.length vs z w12 hv12 hlm).mono ?_
    rintro e w13 ⟨g13, L13, rfl, hr13, ho13, q13⟩
    rw [← HRS.out, ← HBb.out, ← HN.out]
    rw [← HRS.out, ← HN.out] at hr13 ho13
    have b13 := below_from b12 q13 b12.size
    have gv13 := hr13.read ho13 HN.out.symm
    have GM13 := Lib.hid (GM12.out.below q13)
    have Q313 := Lib.hid (below_from Q312.out q13 (by omega))
    have e13 : Calls Try.prog 16 #[.slice (some ⟨g13, 0, none⟩) n n, .slice A3 n c3] w13 fun e w' => e = .returned (.bool true) ∧ Below w13.heap.size w13 w' := by
      have := laws_eqVertexS (some ⟨g13, 0, none⟩) A3 n c3 rs w13 gv13 (V3.out.below Q313.out) (by rw [← HN.out]; omega)
      rwa [← HN.out] at this
    have E13 := Lib.hid e13
    clear e13 b12 hr13 ho13 q13 hv12 GM12 Q312 gv13
    go_wp2_with fail
    refine E13.out.mono ?_
    rintro e w14 ⟨rfl, q14⟩
    have b14 := below_from b13 q14 b13.size
    have GM14 := Lib.hid (GM13.out.below q14)
    clear b13 q14 GM13 E13 Q313
    go_wp2_with fail
    refine (HC11.out w14 GM14.out).mono ?_
    rintro e w' ⟨rfl, rfl⟩
    go_wp2_with fail
    go_ret
    exact ⟨rfl, b14⟩
end Go.Proofs.Ytmadagkdgpohiaa
