/- The law that the program's VertexCrimp is the reference's: the walk of the law itself. No condition but sizes. -/
import Derived.Test.YtanpdmdcgkcabaaSpecG
import Derived.Test.YtanpdmdcgkcabaaLawB
namespace Go.Proofs.Ytanpdmdcgkcabaa
open Go.RowKit

theorem vcY_len (xs : List Int) (s : ByteArray) (i : Int) : (vcY xs s i).length ≤ xs.length := by
  unfold vcY
  split
  · unfold vcrX; rw [angTo_len]; omega
  · simp

theorem own_below {w w' : World} {B : Nat} {e : TypeId} {z n : Nat} {v : Value} {xs : List Value} (h : w.ownsRow B e z v n xs) (hb : Below w.heap.size w w') : w'.ownsRow B e z v n xs :=
  h.kept (row := none) ⟨hb.os, hb.tape, hb.output, hb.size, fun i hi _ => hb.block i hi⟩ (by cases hv : v.ownBlock <;> simp)
theorem own_drewN {w : World} {B : Nat} {e : TypeId} {z n : Nat} {v : Value} {xs : List Value} (h : w.ownsRow B e z v n xs) (m : Nat) : (w.drewN m).ownsRow B e z v n xs := h
/-- a row that begins behind another one is another row -/
theorem own_apart {w : World} {B B' : Nat} {e e' : TypeId} {z z' n n' : Nat} {v v' : Value} {xs xs' : List Value} {H : Nat} (h : w.ownsRow B e z v n xs) (h' : w.ownsRow B' e' z' v' n' xs') (hlt : ∀ g, v'.ownBlock = some g → g < H) (hB : H ≤ B) :
    v.ownBlock = none ∨ v.ownBlock ≠ v'.ownBlock := by
  cases hv : v.ownBlock with
  | none => exact Or.inl rfl
  | some g =>
    refine Or.inr fun e => ?_
    have := (h.lt g hv).1
    have := hlt g e.symm
    omega
theorem own_apart' {w : World} {B B' : Nat} {e e' : TypeId} {z z' n n' : Nat} {v v' : Value} {xs xs' : List Value} {H : Nat} (h : w.ownsRow B e z v n xs) (h' : w.ownsRow B' e' z' v' n' xs') (hlt : ∀ g, v'.ownBlock = some g → g < H) (hB : H ≤ B) :
    v'.ownBlock = none ∨ v'.ownBlock ≠ v.ownBlock := by
  rcases own_apart h h' hlt hB with h0 | h0
  · cases hv' : v'.ownBlock with
    | none => exact Or.inl rfl
    | some g => exact Or.inr (by rw [h0]; simp)
  · exact Or.inr (fun e => h0 e.symm)
theorem below_mark {a w w' : World} {B B' : Nat} {e : TypeId} {z n : Nat} {v : Value} {xs : List Value} (h : Below B a w) (ho : w.ownsRow B' e z v n xs) (hB : B ≤ B') (hz : B ≤ w.heap.size) (hg : w.grownBy w' v.ownBlock) : Below B a w' :=
  h.grown hg hz fun k hk => Nat.le_trans hB (ho.lt k hk).1

set_option maxHeartbeats 4000000 in
set_option maxRecDepth 100000 in
theorem law_FnExactVertexCrimp (A : Option Addr) (cap : Nat) (xs : List Int) (s : ByteArray) (i : Int) (w : World) (h : Ints w A xs) (hcap : xs.length ≤ cap) (hcm : cap ≤ maxLen) (hs : s.size ≤ maxLen) :
    Calls Try.prog 5 #[.slice A xs.length cap, .string s, .int .i64 i] w fun e w' => e = .returned (.bool true) ∧ Below w.heap.size w w' := by
  have hlm : xs.length ≤ maxLen := Nat.le_trans hcap hcm
  have hlm2 := hlm
  have hsm := hs
  unfold maxLen at hlm2 hsm
  by_cases g1 : 1048576 < xs.length
  · have d1 : decide ((1048576 : Int) < (xs.length : Int)) = true := by simp; omega
    go_enter Try.func5, Try.ntmps5
    go_wp2_with fail
    go_ret
    exact ⟨rfl, Below.refl _ _⟩
  · have d1 : decide ((1048576 : Int) < (xs.length : Int)) = false := by simp; omega
    by_cases g2 : 1048576 < s.size
    · have d2 : decide ((1048576 : Int) < (s.size : Int)) = true := by simp; omega
      go_enter Try.func5, Try.ntmps5
      go_wp2_with fail
      go_ret
      exact ⟨rfl, Below.refl _ _⟩
    · have d2 : decide ((1048576 : Int) < (s.size : Int)) = false := by simp; omega
      have hyl := vcY_len xs s i
      have hym : (vcY xs s i).length ≤ maxLen := Nat.le_trans hyl hlm
      have e1 : ((vcS xs s i).toList == (vcS xs s i).toList) = true := by simp
      have e2 : (vcB xs s i != vcB xs s i) = false := by simp
      have HI := Lib.hid h
      go_enter Try.func5, Try.ntmps5
      go_wp2_with fail
      refine (laws_toIntS A cap xs w h (by omega)).mono ?_
      rintro e w1 ⟨v1, rfl, o1, b1⟩
      obtain ⟨A1, c1, rfl, i1, k1, m1⟩ := Own.form o1
      clear o1 h
      go_wp2_with fail
      refine (spec_VertexCrimp A1 c1 xs s i w1 i1 hlm hs k1 m1).mono ?_
      rintro e w2 ⟨v2, rfl, o2, q2⟩
      have b2 := below_from b1 q2 b1.size
      have p2 : w.heap.size ≤ w1.heap.size := b1.size
      have p3 : w1.heap.size ≤ w2.heap.size := q2.size
      clear i1 q2 b1
      go_wp2_with fail
      refine (laws_toIntS A cap xs w2 (HI.out.below b2) (by omega)).mono ?_
      rintro e w3 ⟨v3, rfl, o3, q3⟩
      have b3 := below_from b2 q3 b2.size
      have o2' := own_below o2 q3
      have l2 : ∀ g, v2.ownBlock = some g → g < w2.heap.size := fun g hg => (o2.lt g hg).2
      have p4 : w2.heap.size ≤ w3.heap.size := q3.size
      have l3 : ∀ g, v3.ownBlock = some g → g < w3.heap.size := fun g hg => (o3.lt g hg).2
      obtain ⟨A3, c3, rfl, i3, k3, m3⟩ := Own.form o3
      clear o2 q3 b2
      go_wp2_with fail
      refine (impl_VertexCrimp A3 c3 xs s i w3 i3 hlm hs).mono ?_
      rintro e w4 ⟨v4, rfl, o4, q4⟩
      have b4 := below_from b3 q4 b3.size
      have o2 := own_below o2' q4
      have o3' := own_below o3 q4
      have l4 : ∀ g, v4.ownBlock = some g → g < w4.heap.size := fun g hg => (o4.lt g hg).2
      have p5 : w3.heap.size ≤ w4.heap.size := q4.size
      obtain ⟨A2, c2, rfl, i2, k2, m2⟩ := Own.form o2
      obtain ⟨A4, c4, rfl, i4, k4, m4⟩ := Own.form o4
      clear o2' o3 q4 b3 i3
      go_wp2_with fail
      refine (laws_eqIntS A4 A2 c4 c2 _ _ w4 i4 i2 hym hym).mono ?_
      rintro e w5 ⟨rfl, n5, rfl⟩
      rw [decide_eq_true (rfl : vcY xs s i = vcY xs s i)]
      have b5 := below_drewN b4 n5
      go_wp2_with fail
      refine (laws_toIntS A cap xs _ (HI.out.below b5) (by omega)).mono ?_
      rintro e w6 ⟨v6, rfl, o6, q6⟩
      have b6 := below_from b5 q6 b5.size
      have o2b := own_below (own_drewN o2 n5) q6
      have o3b := own_below (own_drewN o3' n5) q6
      have o4b := own_below (own_drewN o4 n5) q6
      have p6 : w4.heap.size ≤ w6.heap.size := q6.size
      obtain ⟨A6, c6, rfl, i6, k6, m6⟩ := Own.form o6
      have i3b := Ints.of_own o3b
      clear o2 o3' o4 i2 i4 b4 b5 q6 o6
      go_wp2_with fail
      refine (laws_eqIntS A3 A6 c3 c6 xs xs w6 i3b i6 hlm hlm).mono ?_
      rintro e w7 ⟨rfl, n7, rfl⟩
      rw [decide_eq_true (rfl : xs = xs)]
      have b7 := below_drewN b6 n7
      have o2c := own_drewN o2b n7
      have o3c := own_drewN o3b n7
      have o4c := own_drewN o4b n7
      clear b6 o2b o3b o4b i3b i6
      go_wp2_with fail
      refine (laws_markIntS w2.heap.size _ 1 xs _ o3c (by omega) (by omega) (by omega)).mono ?_
      rintro e w8 ⟨rfl, o3d, r8⟩
      have b8 := below_mark b7 o3c (by omega) (by have := b7.size; omega) r8
      have o2d := o2c.kept r8 (own_apart' o3c o2c l2 (Nat.le_refl _))
      have o4d := o4c.kept r8 (own_apart o4c o3c l3 (Nat.le_refl _))
      have i2d := Ints.of_own o2d
      have i4d := Ints.of_own o4d
      have z8 : w6.heap.size ≤ w8.heap.size := r8.size
      have hk8 : decide ((1 : Int) + (xs.length : Int) < 0) = false := by simp; omega
      clear o3c o3d r8 o2c o4c b7
      go_wp2_with fail
      refine (laws_eqIntS A4 A2 c4 c2 _ _ w8 i4d i2d hym hym).mono ?_
      rintro e w9 ⟨rfl, n9, rfl⟩
      rw [decide_eq_true (rfl : vcY xs s i = vcY xs s i)]
      have b9 := below_drewN b8 n9
      have o2e := own_drewN o2d n9
      have o4e := own_drewN o4d n9
      clear b8 o2d o4d i2d i4d
      go_wp2_with fail
      refine (laws_markIntS w3.heap.size _ 1 _ _ o4e (by omega) (by omega) (by omega)).mono ?_
      rintro e w10 ⟨rfl, o4f, r10⟩
      have b10 := below_mark b9 o4e (by omega) (by have := b9.size; omega) r10
      have o2f := o2e.kept r10 (own_apart' o4e o2e l2 (by omega))
      have z10 : w8.heap.size ≤ w10.heap.size := r10.size
      have o4g : w10.ownsRow w3.heap.size 3 1 (.slice A4 (vcY xs s i).length c4) (vcY xs s i).length ((countFrom 1 (vcY xs s i).length).map (Value.int .i64)) := by simpa only [Own, countFrom_len] using o4f
      have i4f := Ints.of_own o4g
      have hk10 : decide ((1 : Int) + ((vcY xs s i).length : Int) < 0) = false := by simp; omega
      have hk11 : (((1 : Int) + ((vcY xs s i).length : Int)) != ((1 : Int) + ((vcY xs s i).length : Int))) = false := by simp
      clear o4e o4f r10 o2e b9
      go_wp2_with fail
      refine (laws_heldIntS A4 c4 1 (vcY xs s i).length w10 i4f (by omega) (by omega) (by omega)).mono ?_
      rintro e w' ⟨rfl, rfl⟩
      go_wp2_with fail
      refine (laws_toIntS A cap xs w10 (HI.out.below b10) (by omega)).mono ?_
      rintro e w11 ⟨v11, rfl, o11, q11⟩
      have b11 := below_from b10 q11 b10.size
      have o2g := own_below o2f q11
      have o4h := own_below o4g q11
      obtain ⟨A11, c11, rfl, i11, k11, m11⟩ := Own.form o11
      clear b10 o2f o4g q11 o11 i4f
      go_wp2_with fail
      refine (impl_VertexCrimp A11 c11 xs s i w11 i11 hlm hs).mono ?_
      rintro e w12 ⟨v12, rfl, o12, q12⟩
      have b12 := below_from b11 q12 b11.size
      have i2h := Ints.of_own (own_below o2g q12)
      have o4i := own_below o4h q12
      obtain ⟨A12, c12, rfl, i12, k12, m12⟩ := Own.form o12
      clear b11 o2g o4h q12 o12 i11
      go_wp2_with fail
      refine (laws_eqIntS A12 A2 c12 c2 _ _ w12 i12 i2h hym hym).mono ?_
      rintro e w13 ⟨rfl, n13, rfl⟩
      rw [decide_eq_true (rfl : vcY xs s i = vcY xs s i)]
      have b13 := below_drewN b12 n13
      have i4i := Ints.of_own (own_drewN o4i n13)
      clear b12 o4i i12 i2h
      go_wp2_with fail
      refine (laws_heldIntS A4 c4 1 (vcY xs s i).length _ i4i (by omega) (by omega) (by omega)).mono ?_
      rintro e w' ⟨rfl, rfl⟩
      go_wp2_with fail
      go_ret
      exact ⟨rfl, b13⟩

end Go.Proofs.Ytanpdmdcgkcabaa
