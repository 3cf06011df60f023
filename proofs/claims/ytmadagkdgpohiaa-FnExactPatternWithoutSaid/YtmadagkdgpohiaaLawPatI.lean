/- The law that the program's PatternInner is the reference's: the walk of the law itself. No condition but sizes. -/
import Derived.Test.YtmadagkdgpohiaaPatL
import Derived.Test.YtmadagkdgpohiaaMark
import Derived.Test.YtmadagkdgpohiaaLawPat
namespace Go.Proofs.Ytmadagkdgpohiaa
open Go.RowKit

theorem own_drew {w : World} {B : Nat} {v : Value} {xs : List Int} (h : Own w B v xs) (m : Nat) : Own (w.drewN m) B v xs := h
theorem apart_of {w : World} {B lo hi : Nat} {v : Value} {xs : List Int} (h : Own w B v xs) (hB : hi ≤ B) : Apart v lo hi := fun g hg => Or.inr (Nat.le_trans hB (h.lt g hg).1)
theorem apart_low {w : World} {B lo hi : Nat} {v : Value} {xs : List Int} (h : Own w B v xs) (hB : w.heap.size ≤ lo) : Apart v lo hi := fun g hg => Or.inl (Nat.lt_of_lt_of_le (h.lt g hg).2 hB)

set_option maxHeartbeats 2000000 in
theorem law_FnExactPatternInner (A : Option Addr) (cap : Nat) (vs : List Vx) (w : World) (h : Verts w A vs) (hl : vs.length ≤ maxLen) :
    Calls Try.prog 5 #[.slice A vs.length cap] w fun e w' => e = .returned (.bool true) ∧ Below w.heap.size w w' := by
  obtain ⟨z, hz⟩ : ∃ z, z = szL vs 1048576 := ⟨_, rfl⟩
  obtain ⟨xs, hxs⟩ : ∃ xs, xs = innerL vs := ⟨_, rfl⟩
  have hxl : xs.length ≤ 10 := by rw [hxs]; exact innerL_len vs
  have HX := Lib.hid hxs
  have HZ := Lib.hid hz
  clear hz hxs
  have hxm : xs.length ≤ maxLen := by unfold maxLen; omega
  go_enter Try.func5, Try.ntmps5
  go_wp2_with fail
  refine (laws_szVertexS A cap vs 1048576 w h hl (by omega) (by omega)).mono ?_
  rintro e w1 ⟨rfl, hb1⟩
  rw [← HZ.out]
  by_cases g : z < 0
  · have d : decide (z < 0) = true := by simp; omega
    go_wp2_with fail
    go_ret
    exact ⟨rfl, hb1⟩
  · have d : decide (z < 0) = false := by simp; omega
    have hok := szL_ok (vs := vs) (by rw [← HZ.out]; omega)
    obtain ⟨l1, l2⟩ := hok
    have L2 := Lib.hid l2
    clear l2
    have hlm : vs.length ≤ maxLen := by unfold maxLen; omega
    go_wp2_with fail
    refine (laws_toVertexS A cap vs w1 (h.below hb1) l1 L2.out).mono ?_
    rintro e w2 ⟨R2, rfl, hr2, ht2, hb2⟩
    have hv2 := hr2.verts ht2
    have b2 := below_from hb1 hb2 hb1.size
    clear hr2 ht2 hb1 hb2
    go_wp2_with fail
    refine (spec_PatternInner _ vs.length vs w2 hv2 hlm).mono ?_
    rintro e w3 ⟨v3, rfl, o3, q3⟩
    rw [← HX.out] at o3
    have b3 := below_from b2 q3 b2.size
    have O3 := Lib.hid o3
    have hs23 : w2.heap.size ≤ w3.heap.size := q3.size
    have hs02 : w.heap.size ≤ w2.heap.size := b2.size
    have SB : Hid (∀ q, v3.ownBlock = some q → q < w3.heap.size) := fun q hq => (o3.lt q hq).2
    clear b2 q3 hv2 o3
    go_wp2_with fail
    refine (laws_toVertexM A cap vs w3 (h.below b3) l1 L2.out).mono ?_
    rintro e w4 ⟨L, rfl, hr4, hm4, q4⟩
    have b4 := below_from b3 q4 b3.size
    have hv4 := hr4.verts hm4.rowTo
    have HR4 := Lib.hid hr4
    have HM4 := Lib.hid hm4
    have O4 := Lib.hid (own_below2 O3.out q4)
    have ap4 : Apart v3 (w3.heap.size + 1) w4.heap.size := apart_low O3.out (Nat.le_succ _)
    have AP4 := Lib.hid ap4
    have hs34 : w3.heap.size < w4.heap.size := (hr4.lt _ rfl).2
    clear b3 q4 hr4 hm4 ap4 O3
    go_wp2_with fail
    refine (impl_PatternInner _ vs.length vs w4 hv4 hlm).mono ?_
    rintro e w5 ⟨v5, rfl, o5, q5⟩
    rw [← HX.out] at o5
    have b5 := below_from b4 q5 b4.size
    have hv5 := hv4.below q5
    have HR5 := Lib.hid (own_below2 HR4.out q5)
    have HM5 := Lib.hid (HM4.out.below q5)
    have s5 := own_below2 O4.out q5
    have O5 := Lib.hid o5
    have S5 := Lib.hid s5
    obtain ⟨A3, c3, rfl, i3, k3, m3⟩ := Own.form s5
    obtain ⟨A5, c5, rfl, i5, k5, m5⟩ := Own.form o5
    have hs45 : w4.heap.size ≤ w5.heap.size := q5.size
    clear b4 q5 hv4 HR4 HM4 O4 o5 s5
    go_wp2_with fail
    refine (laws_eqIntS A5 A3 c5 c3 xs xs w5 i5 i3 hxm hxm).mono ?_
    rintro e w6 ⟨rfl, n6, hw6⟩
    rw [decide_eq_true (rfl : xs = xs)]
    obtain ⟨b6, hv6, HR6, HM6, O6, S6, hs56⟩ : Below w.heap.size w w6 ∧ Verts w6 (some ⟨w3.heap.size, 0, none⟩) vs ∧ Hid (RowV w6 w3.heap.size w3.heap.size vs.length L) ∧ Hid (RowOw w6 w3.heap.size w4.heap.size vs L vs.length) ∧ Hid (Own w6 w4.heap.size (.slice A5 xs.length c5) xs) ∧ Hid (Own w6 w2.heap.size (.slice A3 xs.length c3) xs) ∧ w5.heap.size ≤ w6.heap.size := by
      subst hw6
      have q6 : Below w5.heap.size w5 (w5.drewN n6) := below_drewN (Below.refl _ _) n6
      exact ⟨below_drewN b5 n6, hv5.below q6, own_below2 HR5.out q6, HM5.out.below q6, own_below2 O5.out q6, own_below2 S5.out q6, q6.size⟩
    clear hw6 b5 hv5 HR5 HM5 O5 S5 i3 i5
    go_wp2_with fail
    refine (laws_toVertexS A cap vs w6 (h.below b6) l1 L2.out).mono ?_
    rintro e w7 ⟨R7, rfl, hr7, ht7, q7⟩
    have hv7 := hr7.verts ht7
    have hv7' := hv6.below q7
    have b7 := below_from b6 q7 b6.size
    have HR7 := Lib.hid (own_below2 HR6.out q7)
    have HM7 := Lib.hid (HM6.out.below q7)
    have O7 := Lib.hid (own_below2 O6.out q7)
    have S7 := Lib.hid (own_below2 S6.out q7)
    have hs67 : w6.heap.size ≤ w7.heap.size := q7.size
    clear hr7 ht7 b6 q7 hv6 HR6 HM6 O6 S6
    go_wp2_with fail
    refine (laws_eqVertexS _ _ vs.length vs.length vs w7 hv7' hv7 l1).mono ?_
    rintro e w8 ⟨rfl, q8⟩
    have b8 := below_from b7 q8 b7.size
    have HR8 := Lib.hid (own_below2 HR7.out q8)
    have HM8 := Lib.hid (HM7.out.below q8)
    have O8 := Lib.hid (own_below2 O7.out q8)
    have S8 := Lib.hid (own_below2 S7.out q8)
    have hs78 : w7.heap.size ≤ w8.heap.size := q8.size
    clear hv7 hv7' b7 q8 HR7 HM7 O7 S7
    go_wp2_with fail
    refine (laws_markVertexS w3.heap.size w3.heap.size w4.heap.size L vs 1 w8 HR8.out HM8.out l1 L2.out (by omega) (by omega)).mono ?_
    rintro e w9 ⟨m, rfl, hm0, q9, T9⟩
    have b9 : Below w.heap.size w w9 := b8.trans (q9.mono (by omega))
    have o9 := T9.out _ _ _ (apart_of (lo := w3.heap.size + 1) O8.out (Nat.le_refl _)) O8.out
    have s9 := T9.out _ _ _ AP4.out S8.out
    have O9 := Lib.hid o9
    have S9 := Lib.hid s9
    have i3 := Ints.of_own s9
    have i5 := Ints.of_own o9
    have dm : decide (m < 0) = false := by simp; omega
    have hs89 : w8.heap.size ≤ w9.heap.size := q9.size
    clear b8 HR8 HM8 O8 S8 q9 T9 o9 s9
    go_wp2_with fail
    refine (laws_eqIntS A5 A3 c5 c3 xs xs w9 i5 i3 hxm hxm).mono ?_
    rintro e w10 ⟨rfl, n10, hw10⟩
    rw [decide_eq_true (rfl : xs = xs)]
    obtain ⟨b10, O10, S10, hs910⟩ : Below w.heap.size w w10 ∧ Own w10 w4.heap.size (.slice A5 xs.length c5) xs ∧ Hid (Own w10 w2.heap.size (.slice A3 xs.length c3) xs) ∧ w9.heap.size ≤ w10.heap.size := by
      subst hw10
      have q : Below w9.heap.size w9 (w9.drewN n10) := below_drewN (Below.refl _ _) n10
      exact ⟨below_drewN b9 n10, own_below2 O9.out q, own_below2 S9.out q, q.size⟩
    clear hw10 b9 O9 S9 i3 i5
    go_wp2_with fail
    refine (laws_markIntS w4.heap.size _ 1 xs w10 O10 (by omega) (by omega) (by omega)).mono ?_
    rintro e w11 ⟨rfl, o11, r11⟩
    have b11 : Below w.heap.size w w11 := b10.grown r11 (by omega) (fun q hq => by have := (O10.lt q hq).1; omega)
    have s11 := S10.out.kept r11 (by
      cases hu : (Value.slice A3 xs.length c3).ownBlock with
      | none => exact Or.inl rfl
      | some q =>
        right
        intro e
        have h5 := (O10.lt q e.symm).1
        have h6 := SB.out q hu
        omega)
    have o11' : Own w11 w4.heap.size (.slice A5 xs.length c5) (countFrom 1 xs.length) := o11
    have O11 : Own w11 w4.heap.size (.slice A5 (countFrom 1 xs.length).length c5) (countFrom 1 xs.length) := by rw [countFrom_len]; exact o11'
    have i5 := Ints.of_own O11
    have hk1 : decide ((1 : Int) + (xs.length : Int) < 0) = false := by simp; omega
    have hk2 : (((1 : Int) + (xs.length : Int)) != ((1 : Int) + (xs.length : Int))) = false := by simp
    have hs1011 : w10.heap.size ≤ w11.heap.size := r11.size
    have OO11 := Lib.hid o11'
    have S11 := Lib.hid s11
    clear O10 S10 b10 r11 o11 o11' O11 s11
    go_wp2_with fail
    refine (laws_heldIntS A5 c5 1 xs.length w11 i5 (by omega) (by omega) (by omega)).mono ?_
    rintro e w' ⟨rfl, rfl⟩
    go_wp2_with fail
    refine (laws_toVertexS A cap vs w11 (h.below b11) l1 L2.out).mono ?_
    rintro e w12 ⟨R12, rfl, hr12, ht12, q12⟩
    have hv12 := hr12.verts ht12
    have b12 := below_from b11 q12 b11.size
    have O12 := Lib.hid (own_below2 OO11.out q12)
    have S12 := Lib.hid (own_below2 S11.out q12)
    clear hr12 ht12 b11 q12 OO11 S11 i5
    go_wp2_with fail
    refine (impl_PatternInner _ vs.length vs w12 hv12 hlm).mono ?_
    rintro e w13 ⟨v13, rfl, o13, q13⟩
    rw [← HX.out] at o13
    have b13 := below_from b12 q13 b12.size
    have O13 := Lib.hid (own_below2 O12.out q13)
    have i3 := Ints.of_own (own_below2 S12.out q13)
    obtain ⟨A13, c13, rfl, i13, k13, m13⟩ := Own.form o13
    clear b12 q13 hv12 O12 S12 o13
    go_wp2_with fail
    refine (laws_eqIntS A13 A3 c13 c3 xs xs w13 i13 i3 hxm hxm).mono ?_
    rintro e w14 ⟨rfl, n14, hw14⟩
    rw [decide_eq_true (rfl : xs = xs)]
    obtain ⟨b14, i5⟩ : Below w.heap.size w w14 ∧ Ints w14 A5 (countFrom 1 xs.length) := by
      subst hw14
      refine ⟨below_drewN b13 n14, ?_⟩
      have O : Own (w13.drewN n14) w4.heap.size (.slice A5 (countFrom 1 xs.length).length c5) (countFrom 1 xs.length) := by rw [countFrom_len]; exact own_drew O13.out n14
      exact Ints.of_own O
    clear hw14 b13 O13 i3 i13
    go_wp2_with fail
    refine (laws_heldIntS A5 c5 1 xs.length w14 i5 (by omega) (by omega) (by omega)).mono ?_
    rintro e w' ⟨rfl, rfl⟩
    go_wp2_with fail
    go_ret
    exact ⟨rfl, b14⟩
end Go.Proofs.Ytmadagkdgpohiaa
