/- The law on turned vertices: the walk of the law itself. No condition but sizes. -/
import Derived.Test.YtnccpifdajcejaaDrawQ
import Derived.Test.YtnccpifdajcejaaFnPatternTurnP46
import Derived.Test.YtnccpifdajcejaaFnPatternTurnP48
import Derived.Test.YtnccpifdajcejaaFnPatternTurnP52
namespace Go.Proofs.Ytnccpifdajcejaa
open Go.RowKit

/-- which rows are alive -/
def liveT (L : Nat → Bool) : Nat → Bool
  | 2 => L 2 && !L 6
  | 6 => L 6 && !L 12
  | 11 => L 11 && !L 12
  | 12 => L 12
  | 13 => L 13 && !L 17
  | 17 => L 17 && !L 23
  | 22 => L 22 && !L 23
  | 23 => L 23
  | _ => false
def nnT (n1 n2 : Nat) : Nat → Nat
  | 6 => 0 + (n1 - 1)
  | 11 => 1
  | 12 => 0 + (n1 - 1) + 1
  | 17 => 0 + (n2 - 1)
  | 22 => 1
  | 23 => 0 + (n2 - 1) + 1
  | _ => 0
def xsT (xs cs : List Int) : Nat → List Value
  | 6 => [] ++ (xs.drop 1).map (Value.int .i64)
  | 11 => (xs.take 1).map (Value.int .i64)
  | 12 => [] ++ (xs.drop 1).map (Value.int .i64) ++ (xs.take 1).map (Value.int .i64)
  | 17 => [] ++ (cs.drop 1).map (Value.int .i64)
  | 22 => (cs.take 1).map (Value.int .i64)
  | 23 => [] ++ (cs.drop 1).map (Value.int .i64) ++ (cs.take 1).map (Value.int .i64)
  | _ => []
/-- what is known of each value -/
def FTt (sX kk pA sA sAd pa a0 pC sC sCd pc c0 pX : Value) : Nat → Value → Prop
  | 0, v => v = sX
  | 1, v => v = kk
  | 3, v => v = pA
  | 4, v => v = sA
  | 5, v => v = sAd
  | 7, v => v = pA
  | 8, v => v = sA
  | 9, v => v = pa
  | 10, v => v = a0
  | 11, v => ∃ g, v = .slice (some ⟨g, 0, none⟩) 1 1
  | 14, v => v = pC
  | 15, v => v = sC
  | 16, v => v = sCd
  | 18, v => v = pC
  | 19, v => v = sC
  | 20, v => v = pc
  | 21, v => v = c0
  | 22, v => ∃ g, v = .slice (some ⟨g, 0, none⟩) 1 1
  | 25, v => v = pX
  | _, _ => True
/-- the region's invariant -/
structure JT (mk : (Nat → Value) → Act) (F : Nat → Value → Prop) (W0 : World) (nn : Nat → Nat) (xs : Nat → List Value) (Fin : Act → World → Prop) (L : Nat → Bool) (b : Act) (W : World) : Prop where
  ex : (L 26 = false ∧ ∃ U, b = mk U ∧ (∀ i, i < 26 → L i = true → F i (U i)) ∧ (L 24 = true → U 24 = .agg #[U 12, U 23] ∧ L 12 = true ∧ L 23 = true) ∧ Below W0.heap.size W0 W ∧ RowsOk W0.heap.size 3 1 nn xs (liveT L) U W) ∨ ((∀ i, i < 27 → L i = true) ∧ Fin b W)
theorem JT.open {mk : (Nat → Value) → Act} {F : Nat → Value → Prop} {W0 : World} {nn : Nat → Nat} {xs : Nat → List Value} {Fin : Act → World → Prop} {L : Nat → Bool} {b : Act} {W : World} (h : JT mk F W0 nn xs Fin L b W) {i : Nat} (hi : i < 27) (h0 : L i = false) :
    L 26 = false ∧ ∃ U, b = mk U ∧ (∀ i, i < 26 → L i = true → F i (U i)) ∧ (L 24 = true → U 24 = .agg #[U 12, U 23] ∧ L 12 = true ∧ L 23 = true) ∧ Below W0.heap.size W0 W ∧ RowsOk W0.heap.size 3 1 nn xs (liveT L) U W := by
  rcases h.ex with h1 | h1
  · exact h1
  · rw [h1.1 i hi] at h0; cases h0
theorem JT.stepv {mk : (Nat → Value) → Act} {F : Nat → Value → Prop} {W0 : World} {nn : Nat → Nat} {xs : Nat → List Value} {Fin : Act → World → Prop} {L : Nat → Bool} {U : Nat → Value} {W' : World} (i : Nat) (v : Value) (hi : i < 26) (h0 : L i = false) (h26 : L 26 = false)
    (hF : ∀ i, i < 26 → L i = true → F i (U i)) (h24 : L 24 = true → U 24 = .agg #[U 12, U 23] ∧ L 12 = true ∧ L 23 = true) (hv : F i v) (hv24 : i = 24 → v = .agg #[U 12, U 23] ∧ L 12 = true ∧ L 23 = true)
    (hb : Below W0.heap.size W0 W') (hr : RowsOk W0.heap.size 3 1 nn xs (liveT fun k => k == i || L k) (updR U i v) W') : JT mk F W0 nn xs Fin (fun k => k == i || L k) (mk (updR U i v)) W' := by
  refine ⟨Or.inl ⟨?_, updR U i v, rfl, fun k hk hl => ?_, fun hl => ?_, hb, hr⟩⟩
  · have : (26 == i) = false := by rw [beq_eq_false_iff_ne]; omega
    simp [this, h26]
  · by_cases e : k = i
    · subst e; rw [updR_same]; exact hv
    · rw [updR_other U e]
      have : L k = true := by
        simp only [Bool.or_eq_true, beq_iff_eq] at hl
        rcases hl with q | q
        · exact absurd q e
        · exact q
      exact hF k hk this
  · by_cases e : i = 24
    · obtain ⟨e1, e2, e3⟩ := hv24 e
      subst e
      rw [updR_same, updR_other U (by decide), updR_other U (by decide)]
      exact ⟨e1, by simp [e2], by simp [e3]⟩
    · have hl2 : L 24 = true := by
        simp only [Bool.or_eq_true, beq_iff_eq] at hl
        rcases hl with q | q
        · exact absurd q.symm e
        · exact q
      obtain ⟨e1, e2, e3⟩ := h24 hl2
      have n12 : (12 : Nat) ≠ i := fun q => by rw [← q, e2] at h0; cases h0
      have n23 : (23 : Nat) ≠ i := fun q => by rw [← q, e3] at h0; cases h0
      rw [updR_other U (fun q => e q.symm), updR_other U n12, updR_other U n23]
      exact ⟨e1, by simp [e2], by simp [e3]⟩
theorem JT.to {mk : (Nat → Value) → Act} {F : Nat → Value → Prop} {W0 : World} {nn : Nat → Nat} {xs : Nat → List Value} {Fin : Act → World → Prop} {L : Nat → Bool} {b b' : Act} {W : World} (e : b = b') (h : JT mk F W0 nn xs Fin L b W) : JT mk F W0 nn xs Fin L b' W := e ▸ h
theorem liveT_same {L : Nat → Bool} {i : Nat} (h : i ≠ 2 ∧ i ≠ 6 ∧ i ≠ 11 ∧ i ≠ 12 ∧ i ≠ 13 ∧ i ≠ 17 ∧ i ≠ 22 ∧ i ≠ 23) : ∀ j, liveT (fun k => k == i || L k) j = true → liveT L j = true ∧ j ≠ i := by
  obtain ⟨a1, a2, a3, a4, a5, a6, a7, a8⟩ := h
  have b1 : (2 == i) = false := by rw [beq_eq_false_iff_ne]; omega
  have b2 : (6 == i) = false := by rw [beq_eq_false_iff_ne]; omega
  have b3 : (11 == i) = false := by rw [beq_eq_false_iff_ne]; omega
  have b4 : (12 == i) = false := by rw [beq_eq_false_iff_ne]; omega
  have b5 : (13 == i) = false := by rw [beq_eq_false_iff_ne]; omega
  have b6 : (17 == i) = false := by rw [beq_eq_false_iff_ne]; omega
  have b7 : (22 == i) = false := by rw [beq_eq_false_iff_ne]; omega
  have b8 : (23 == i) = false := by rw [beq_eq_false_iff_ne]; omega
  intro j hj
  unfold liveT at hj ⊢
  split at hj
  · simp only [b1, b2, Bool.false_or] at hj; exact ⟨hj, fun q => a1 q.symm⟩
  · simp only [b2, b4, Bool.false_or] at hj; exact ⟨hj, fun q => a2 q.symm⟩
  · simp only [b3, b4, Bool.false_or] at hj; exact ⟨hj, fun q => a3 q.symm⟩
  · simp only [b4, Bool.false_or] at hj; exact ⟨hj, fun q => a4 q.symm⟩
  · simp only [b5, b6, Bool.false_or] at hj; exact ⟨hj, fun q => a5 q.symm⟩
  · simp only [b6, b8, Bool.false_or] at hj; exact ⟨hj, fun q => a6 q.symm⟩
  · simp only [b7, b8, Bool.false_or] at hj; exact ⟨hj, fun q => a7 q.symm⟩
  · simp only [b8, Bool.false_or] at hj; exact ⟨hj, fun q => a8 q.symm⟩
  · cases hj
theorem liveT_2 {L : Nat → Bool} : ∀ j, liveT (fun k => k == 2 || L k) j = true → j ≠ 2 → liveT L j = true := by
  intro j hj hne
  unfold liveT at hj ⊢
  split at hj <;> simp_all
theorem liveT_11 {L : Nat → Bool} : ∀ j, liveT (fun k => k == 11 || L k) j = true → j ≠ 11 → liveT L j = true := by
  intro j hj hne
  unfold liveT at hj ⊢
  split at hj <;> simp_all
theorem liveT_13 {L : Nat → Bool} : ∀ j, liveT (fun k => k == 13 || L k) j = true → j ≠ 13 → liveT L j = true := by
  intro j hj hne
  unfold liveT at hj ⊢
  split at hj <;> simp_all
theorem liveT_22 {L : Nat → Bool} : ∀ j, liveT (fun k => k == 22 || L k) j = true → j ≠ 22 → liveT L j = true := by
  intro j hj hne
  unfold liveT at hj ⊢
  split at hj <;> simp_all
theorem liveT_6 {L : Nat → Bool} : ∀ j, liveT (fun k => k == 6 || L k) j = true → j ≠ 6 → liveT L j = true ∧ j ≠ 2 := by
  intro j hj hne
  unfold liveT at hj ⊢
  split at hj <;> simp_all
theorem liveT_12 {L : Nat → Bool} : ∀ j, liveT (fun k => k == 12 || L k) j = true → j ≠ 12 → liveT L j = true ∧ j ≠ 6 := by
  intro j hj hne
  unfold liveT at hj ⊢
  split at hj <;> simp_all
theorem liveT_17 {L : Nat → Bool} : ∀ j, liveT (fun k => k == 17 || L k) j = true → j ≠ 17 → liveT L j = true ∧ j ≠ 13 := by
  intro j hj hne
  unfold liveT at hj ⊢
  split at hj <;> simp_all
theorem liveT_23 {L : Nat → Bool} : ∀ j, liveT (fun k => k == 23 || L k) j = true → j ≠ 23 → liveT L j = true ∧ j ≠ 17 := by
  intro j hj hne
  unfold liveT at hj ⊢
  split at hj <;> simp_all
/-- which rows of vertices are alive -/
def liveV (L : Nat → Bool) : Nat → Bool
  | 0 => L 0 && !L 3
  | 3 => L 3 && !L 8
  | 7 => L 7 && !L 8
  | 8 => L 8
  | _ => false
def nnV (n : Nat) : Nat → Nat
  | 3 => 0 + (n - 1)
  | 7 => 1
  | 8 => 0 + (n - 1) + 1
  | _ => 0
def xsV (Ld : List Value) (Ua Ca : Value) : Nat → List Value
  | 3 => [] ++ Ld
  | 7 => [Ua, Ca]
  | 8 => [] ++ Ld ++ [Ua, Ca]
  | _ => []
def FTv (sL sD pL : Value) (vA : Value) : Nat → Value → Prop
  | 1, v => v = sL
  | 2, v => v = sD
  | 4, v => v = sL
  | 5, v => v = pL
  | 6, v => v = vA
  | 7, v => ∃ g, v = .slice (some ⟨g, 0, none⟩) 1 1
  | _, _ => True
structure JV (mk : (Nat → Value) → Act) (F : Nat → Value → Prop) (W0 : World) (nn : Nat → Nat) (xs : Nat → List Value) (L : Nat → Bool) (b : Act) (W : World) : Prop where
  ex : ∃ U, b = mk U ∧ (∀ i, i < 10 → L i = true → F i (U i)) ∧ (L 9 = true → U 9 = U 8 ∧ L 8 = true) ∧ Below W0.heap.size W0 W ∧ RowsOk W0.heap.size 30 2 nn xs (liveV L) U W
theorem JV.stepv {mk : (Nat → Value) → Act} {F : Nat → Value → Prop} {W0 : World} {nn : Nat → Nat} {xs : Nat → List Value} {L : Nat → Bool} {U : Nat → Value} {W' : World} (i : Nat) (v : Value) (h0 : L i = false)
    (hF : ∀ i, i < 10 → L i = true → F i (U i)) (h9 : L 9 = true → U 9 = U 8 ∧ L 8 = true) (hv : F i v) (hv9 : i = 9 → v = U 8 ∧ L 8 = true)
    (hb : Below W0.heap.size W0 W') (hr : RowsOk W0.heap.size 30 2 nn xs (liveV fun k => k == i || L k) (updR U i v) W') : JV mk F W0 nn xs (fun k => k == i || L k) (mk (updR U i v)) W' := by
  refine ⟨updR U i v, rfl, fun k hk hl => ?_, fun hl => ?_, hb, hr⟩
  · by_cases e : k = i
    · subst e; rw [updR_same]; exact hv
    · rw [updR_other U e]
      have : L k = true := by
        simp only [Bool.or_eq_true, beq_iff_eq] at hl
        rcases hl with q | q
        · exact absurd q e
        · exact q
      exact hF k hk this
  · by_cases e : i = 9
    · obtain ⟨e1, e2⟩ := hv9 e
      subst e
      rw [updR_same, updR_other U (by decide)]
      exact ⟨e1, by simp [e2]⟩
    · have hl2 : L 9 = true := by
        simp only [Bool.or_eq_true, beq_iff_eq] at hl
        rcases hl with q | q
        · exact absurd q.symm e
        · exact q
      obtain ⟨e1, e2⟩ := h9 hl2
      have n8 : (8 : Nat) ≠ i := fun q => by rw [← q, e2] at h0; cases h0
      rw [updR_other U (fun q => e q.symm), updR_other U n8]
      exact ⟨e1, by simp [e2]⟩
theorem JV.to {mk : (Nat → Value) → Act} {F : Nat → Value → Prop} {W0 : World} {nn : Nat → Nat} {xs : Nat → List Value} {L : Nat → Bool} {b b' : Act} {W : World} (e : b = b') (h : JV mk F W0 nn xs L b W) : JV mk F W0 nn xs L b' W := e ▸ h
theorem liveV_same {L : Nat → Bool} {i : Nat} (h : i ≠ 0 ∧ i ≠ 3 ∧ i ≠ 7 ∧ i ≠ 8) : ∀ j, liveV (fun k => k == i || L k) j = true → liveV L j = true ∧ j ≠ i := by
  obtain ⟨a1, a2, a3, a4⟩ := h
  have b1 : (0 == i) = false := by rw [beq_eq_false_iff_ne]; omega
  have b2 : (3 == i) = false := by rw [beq_eq_false_iff_ne]; omega
  have b3 : (7 == i) = false := by rw [beq_eq_false_iff_ne]; omega
  have b4 : (8 == i) = false := by rw [beq_eq_false_iff_ne]; omega
  intro j hj
  unfold liveV at hj ⊢
  split at hj
  · simp only [b1, b2, Bool.false_or] at hj; exact ⟨hj, fun q => a1 q.symm⟩
  · simp only [b2, b4, Bool.false_or] at hj; exact ⟨hj, fun q => a2 q.symm⟩
  · simp only [b3, b4, Bool.false_or] at hj; exact ⟨hj, fun q => a3 q.symm⟩
  · simp only [b4, Bool.false_or] at hj; exact ⟨hj, fun q => a4 q.symm⟩
  · cases hj
theorem liveV_0 {L : Nat → Bool} : ∀ j, liveV (fun k => k == 0 || L k) j = true → j ≠ 0 → liveV L j = true := by
  intro j hj hne
  unfold liveV at hj ⊢
  split at hj <;> simp_all
theorem liveV_7 {L : Nat → Bool} : ∀ j, liveV (fun k => k == 7 || L k) j = true → j ≠ 7 → liveV L j = true := by
  intro j hj hne
  unfold liveV at hj ⊢
  split at hj <;> simp_all
theorem liveV_3 {L : Nat → Bool} : ∀ j, liveV (fun k => k == 3 || L k) j = true → j ≠ 3 → liveV L j = true ∧ j ≠ 0 := by
  intro j hj hne
  unfold liveV at hj ⊢
  split at hj <;> simp_all
theorem liveV_8 {L : Nat → Bool} : ∀ j, liveV (fun k => k == 8 || L k) j = true → j ≠ 8 → liveV L j = true ∧ j ≠ 3 := by
  intro j hj hne
  unfold liveV at hj ⊢
  split at hj <;> simp_all
theorem set_mid' {α : Type} {l : List α} {i : Nat} (h : i < l.length) (x : α) : l.set i x = l.take i ++ x :: l.drop (i + 1) := by
  rw [List.set_eq_take_append_cons_drop, if_pos h]
theorem pm_turn1 {vs : List Vx} {k : Nat} (hp : patB vs = true) (hk : k < vs.length) : pmI (vs.set k (turnX vs[k])) = pmI vs := by
  have e : vs = vs.take k ++ vs[k] :: vs.drop (k + 1) := by rw [← List.drop_eq_getElem_cons hk, List.take_append_drop]
  have h := pm_turnV (us := vs.take k) (r := vs.drop (k + 1)) (v := vs[k]) (e ▸ hp)
  rw [set_mid' hk, h, ← e]
theorem pm_turn2 {vs : List Vx} (hp : patB vs = true) : pmI (vs.drop 1 ++ vs.take 1) = pmI vs := by
  have h := pm_turnL (us := vs.take 1) (vs := vs.drop 1) (by rw [List.take_append_drop]; exact hp)
  rw [h, List.take_append_drop]
set_option maxHeartbeats 4000000 in
set_option maxRecDepth 100000 in
theorem law_FnPatternTurn (A A2 : Option Addr) (cap cap2 : Nat) (bs bs2 : List UInt8) (w : World) (h : Codes w w.heap.size A bs) (hcap : bs.length ≤ cap) (hcm : cap ≤ maxLen) (hcap2 : bs2.length ≤ cap2) (hcm2' : cap2 ≤ maxLen) :
    Calls Try.prog 6 #[.slice A bs.length cap, .slice A2 bs2.length cap2] w fun e w' => e = .returned (.bool true) ∧ Below w.heap.size w w' := by
  have hlm : bs.length ≤ maxLen := Nat.le_trans hcap hcm
  have hlm2 := hlm
  have hlm3 : bs2.length ≤ maxLen := Nat.le_trans hcap2 hcm2'
  unfold maxLen at hlm2 hlm3
  by_cases g1 : 1048576 < bs.length
  · have d1 : decide ((1048576 : Int) < (bs.length : Int)) = true := by simp; omega
    go_enter Try.func6, Try.ntmps6
    go_wp2_with fail
    go_ret
    exact ⟨rfl, Below.refl _ _⟩
  · have d1 : decide ((1048576 : Int) < (bs.length : Int)) = false := by simp; omega
    by_cases g2 : 1048576 < bs2.length
    · have d2 : decide ((1048576 : Int) < (bs2.length : Int)) = true := by simp; omega
      go_enter Try.func6, Try.ntmps6
      go_wp2_with fail
      go_ret
      exact ⟨rfl, Below.refl _ _⟩
    · have d2 : decide ((1048576 : Int) < (bs2.length : Int)) = false := by simp; omega
      go_enter Try.func6, Try.ntmps6
      go_wp2_with fail
      refine (spec_DrawPatternMany w A cap bs h (by omega) hcap hcm).mono ?_
      rintro e w1 ⟨B, vs, c, rfl, hV, hl2, hlc, hcm2, hlen, hb1⟩
      have hvm : vs.length ≤ maxLen := by unfold maxLen; omega
      obtain ⟨out, hout⟩ : ∃ out, out = pmI vs := ⟨_, rfl⟩
      have hoo : (out != out) = false := by simp
      have hoo2 : (out == out) = true := by simp
      have HO := Lib.hid hout
      have HLen := Lib.hid hlen
      clear hlen hout
      go_wp2_with fail
      refine (impl_PatternMany B c vs w1 hV hvm hlc hcm2).mono ?_
      rintro e w2 ⟨rfl, hb2⟩
      rw [← HO.out]
      have b2 := below_from hb1 hb2 hb1.size
      have hV2 := hV.below hb2
      clear hb1 hb2 hV
      go_wp2_with fail
      refine (spec_PatternMany B c vs w2 hV2 hvm).mono ?_
      rintro e w5 ⟨rfl, hb3⟩
      rw [← HO.out]
      have HB5 := Lib.hid (below_from b2 hb3 b2.size)
      have HV5 := Lib.hid (hV2.below hb3)
      clear b2 hb3 hV2
      by_cases hneg : out < 0
      · have d3 : decide (out < 0) = true := decide_eq_true hneg
        clear HO
        go_wp2_with fail
        go_ret
        exact ⟨rfl, HB5.out⟩
      · have d3 : decide (out < 0) = false := decide_eq_false hneg
        have hp : patB vs = true := by
          cases hp : patB vs with
          | true => rfl
          | false =>
            exfalso
            have := HO.out
            unfold pmI at this
            rw [hp] at this
            simp at this
            omega
        have hv1 : 1 ≤ vs.length := (patB_parts hp).1
        have hall := (patB_parts hp).2.2.1
        have HP := Lib.hid hp
        have HA := Lib.hid hall
        obtain ⟨b, off, _, _, _, _, rfl, hb, _, _, _, _, _, _, _, _⟩ := HV5.out.at_ (show 0 < vs.length from hv1)
        obtain ⟨L1, hL1, hc1⟩ := HV5.out.cells (some w5.heap.size) (fun g e => by cases e; exact Nat.le_refl _)
        have n1 : ∀ W : World, Below w5.heap.size w5 W → ∀ a, some (⟨b, off, none⟩ : Addr) = some a → ∀ j u, L1[j]? = some u → W.cell? (a.add j) = some u := by
          intro W hW a e j u hj
          cases e
          rw [Addr.add_lit]
          exact (hW.cell (p := ⟨b, off + j, none⟩) hb).trans (hc1 j u hj)
        have HN1 := Lib.hid n1
        have HS1 := Lib.hid hL1.1
        have HO1 := Lib.hid hL1.one
        have HL1 := Lib.hid hL1
        obtain ⟨k, hk⟩ : ∃ k, k = bs2.length % vs.length := ⟨_, rfl⟩
        have hkl : k < vs.length := by rw [hk]; exact Nat.mod_lt _ hv1
        have t1 : ((bs2.length : Int).tmod (vs.length : Int)) = (k : Int) := by rw [Int.tmod_eq_emod_of_nonneg (by omega), hk]; simp
        have t4 : ((bs2.length : Int) % (vs.length : Int)) = (k : Int) := by rw [hk]; simp
        have k1 : (k : Int) < (vs.length : Int) := by omega
        have k0 : (0 : Int) ≤ (k : Int) := by omega
        have v0 : ¬ ((vs.length : Int) = 0) := by omega
        have v1 : ((vs.length : Int) == 0) = false := by rw [beq_eq_false_iff_ne]; exact v0
        clear hp hL1 hc1 n1 hk hall
        go_wp2_with (at_builtin; go_loud (refine wpList_appV (by rfl) _ _ (by rfl) w5.heap.size _ 0 [] _ vs.length _ L1 (by rfl) (by rfl) (World.ownsRow_lit w5 #[] 0 (Nat.le_refl _) (by unfold maxLen; omega) rfl) HS1.out (fun e => by cases e) (HN1.out _ ((Below.refl _ _).alloc (Nat.le_refl _) _)) HO1.out (Nat.le_of_lt (by simp)) (by omega) ?_))
        intro vX wX hX hgX hbX' hmX hrX
        have hbX : Below w5.heap.size w5 wX := ((Below.refl _ _).alloc (Nat.le_refl _) _).trans hbX'
        have hX2 : OwnX wX w5.heap.size vX vs.length L1 := by simpa using hX
        obtain ⟨g, cX, rfl, hgX1, hgX2, hcpy⟩ := copy_made hX2 HL1.out rfl hv1 hbX
        have HC := Lib.hid hcpy
        have HBX := Lib.hid hbX
        obtain ⟨A3, c3, A4, c4, r1, r2, j1, j2, hI2, hI1, f1, f2⟩ := hcpy.at_ hkl
        clear hX hgX hbX' hmX hrX hbX hX2 HN1 HS1 HO1 HL1 hb hcpy
        obtain ⟨xs, hxs⟩ : ∃ xs, xs = vs[k].1 := ⟨_, rfl⟩
        obtain ⟨cs, hcs⟩ : ∃ cs, cs = vs[k].2 := ⟨_, rfl⟩
        have hvx := vtxB_bd (List.all_eq_true.1 HA.out vs[k] (List.getElem_mem hkl))
        rw [← hxs] at r1 j1 hI1 hvx
        rw [← hcs] at r2 j2 hI2 hvx
        have hx10 : 2 ≤ xs.length ∧ xs.length ≤ 10 := by omega
        have hc10 : 2 ≤ cs.length ∧ cs.length ≤ 10 := by omega
        obtain ⟨b3, off3, rfl, hb3, hc3⟩ := hI1 (by intro e; rw [e] at hx10; simp at hx10)
        obtain ⟨b4, off4, rfl, hb4, hc4⟩ := hI2 (by intro e; rw [e] at hc10; simp at hc10)
        have hcap3 : xs.length ≤ c3 ∧ c3 ≤ maxLen := by obtain ⟨_, _, e, _, h1, h2⟩ := j1; cases e; exact ⟨h1, h2⟩
        have hcap4 : cs.length ≤ c4 ∧ c4 ≤ maxLen := by obtain ⟨_, _, e, _, h1, h2⟩ := j2; cases e; exact ⟨h1, h2⟩
        have HXS := Lib.hid hxs
        have HCS := Lib.hid hcs
        have HJ1 := Lib.hid j1
        have HJ2 := Lib.hid j2
        have HI1 := Lib.hid hI1
        have HI2 := Lib.hid hI2
        clear hxs hcs hvx j1 j2 hI1 hI2 hb3 hc3 hb4 hc4
        go_upto_region 11 with (fail)
        obtain ⟨wv, hwv⟩ : ∃ wv, wv = wX.alloc (.cells #[.slice (some ⟨b3, off3, none⟩) xs.length c3, .slice (some ⟨b4, off4, none⟩) cs.length c4] 30) := ⟨_, rfl⟩
        have hbv : Below wX.heap.size wX wv := by rw [hwv]; exact (Below.refl _ _).alloc (Nat.le_refl _) _
        have cA : wv.cell? ⟨wX.heap.size, 0, none⟩ = some (.slice (some ⟨b3, off3, none⟩) xs.length c3) := by rw [hwv, (Blk.new wX _ _).cell 0]; rfl
        have cC : wv.cell? ⟨wX.heap.size, 1, none⟩ = some (.slice (some ⟨b4, off4, none⟩) cs.length c4) := by rw [hwv, (Blk.new wX _ _).cell 1]; rfl
        have hHlt : wX.heap.size < wv.heap.size := by rw [hwv]; simp
        rw [← hwv]
        have HCv := Lib.hid (HC.out.below hbv)
        have HBv := Lib.hid (HBX.out.trans (hbv.mono HBX.out.size))
        obtain ⟨_, _, e, hb3, hc3⟩ := HI1.out.below hbv (by intro e; rw [e] at hx10; simp at hx10)
        cases e
        obtain ⟨_, _, e, hb4, hc4⟩ := HI2.out.below hbv (by intro e; rw [e] at hc10; simp at hc10)
        cases e
        obtain ⟨H, hH⟩ : ∃ H, H = wX.heap.size := ⟨_, rfl⟩
        rw [← hH] at cA cC hHlt ⊢
        obtain ⟨a0, ha0, hx1⟩ : ∃ a0, xs[0]? = some a0 ∧ xs.take 1 = [a0] := by
          cases xs with
          | nil => simp at hx10
          | cons y r => exact ⟨y, rfl, rfl⟩
        obtain ⟨e0, he0, hc1'⟩ : ∃ e0, cs[0]? = some e0 ∧ cs.take 1 = [e0] := by
          cases cs with
          | nil => simp at hc10
          | cons y r => exact ⟨y, rfl, rfl⟩
        have ra0 : wv.cell? ⟨b3, off3, none⟩ = some (.int .i64 a0) := hc3 0 a0 ha0
        have re0 : wv.cell? ⟨b4, off4, none⟩ = some (.int .i64 e0) := hc4 0 e0 he0
        have NW1 : ∀ W : World, Below wv.heap.size wv W → ∀ a, some (⟨b3, off3 + 1, none⟩ : Addr) = some a → ∀ j u, ((xs.drop 1).map (Value.int .i64))[j]? = some u → W.cell? (a.add j) = some u := by
          intro W hW a e j u hj
          cases e
          rw [Addr.add_lit]
          rw [List.getElem?_map, List.getElem?_drop] at hj
          cases hy : xs[1 + j]? with
          | none => rw [hy] at hj; cases hj
          | some y =>
            rw [hy] at hj
            cases hj
            have := hc3 (1 + j) y hy
            rw [← Nat.add_assoc] at this
            exact (hW.cell (p := ⟨b3, off3 + 1 + j, none⟩) hb3).trans this
        have NW2 : ∀ W : World, Below wv.heap.size wv W → ∀ a, some (⟨b4, off4 + 1, none⟩ : Addr) = some a → ∀ j u, ((cs.drop 1).map (Value.int .i64))[j]? = some u → W.cell? (a.add j) = some u := by
          intro W hW a e j u hj
          cases e
          rw [Addr.add_lit]
          rw [List.getElem?_map, List.getElem?_drop] at hj
          cases hy : cs[1 + j]? with
          | none => rw [hy] at hj; cases hj
          | some y =>
            rw [hy] at hj
            cases hj
            have := hc4 (1 + j) y hy
            rw [← Nat.add_assoc] at this
            exact (hW.cell (p := ⟨b4, off4 + 1 + j, none⟩) hb4).trans this
        have hgv : g < wv.heap.size := HCv.out.lt.2
        have z1 : (1 : Int) ≤ (xs.length : Int) := by omega
        have z2 : (xs.length : Int) ≤ (c3 : Int) := by omega
        have z3 : (1 : Int) ≤ (cs.length : Int) := by omega
        have z4 : (cs.length : Int) ≤ (c4 : Int) := by omega
        have z5 : (0 : Int) < (xs.length : Int) := by omega
        have z6 : (0 : Int) < (cs.length : Int) := by omega
        have zx : 0 < xs.length := by omega
        have zc : 0 < cs.length := by omega
        have z7 : ¬ (c3 = 1) := by omega
        have z8 : ¬ (c4 = 1) := by omega
        have z9 : ¬ (c3 - 1 = 0) := by omega
        have z10 : ¬ (c4 - 1 = 0) := by omega
        obtain ⟨mk, hmk⟩ : ∃ mk : (Nat → Value) → Act, mk = fun U => { tmps := #[Value.slice A bs.length cap, Value.slice A2 bs2.length cap2, undef, undef, Value.bool false, Value.slice (some ⟨b, off, none⟩) vs.length c, Value.int IntKind.i64 out, Value.int IntKind.i64 out, Value.int IntKind.i64 (k : Int), Value.slice (some ⟨g, 0, none⟩) vs.length cX, Value.pointer (some ⟨H, 0, none⟩), undef, Value.slice A bs.length cap, Value.int IntKind.i64 (bs.length : Int), Value.bool false, Value.bool false, Value.slice A2 bs2.length cap2, Value.int IntKind.i64 (bs2.length : Int), Value.bool false, Value.bool false, Value.slice A bs.length cap, Value.slice (some ⟨b, off, none⟩) vs.length c, Value.slice (some ⟨b, off, none⟩) vs.length c, Value.int IntKind.i64 out, Value.slice (some ⟨b, off, none⟩) vs.length c, Value.int IntKind.i64 out, Value.int IntKind.i64 out, Value.int IntKind.i64 out, Value.bool false, Value.bool false, Value.int IntKind.i64 out, Value.bool false, Value.bool false, undef, undef, undef, Value.slice A2 bs2.length cap2, Value.int IntKind.i64 (bs2.length : Int), Value.slice (some ⟨b, off, none⟩) vs.length c, Value.int IntKind.i64 (vs.length : Int), Value.int IntKind.i64 (k : Int), Value.slice (some ⟨w5.heap.size, 0, none⟩) 0 0, Value.slice (some ⟨b, off, none⟩) vs.length c, Value.slice (some ⟨g, 0, none⟩) vs.length cX, Value.slice (some ⟨g, 0, none⟩) vs.length cX, Value.int IntKind.i64 (k : Int), Value.pointer (some ⟨g, k * 2, none⟩), Value.agg #[Value.slice (some ⟨b3, off3, none⟩) xs.length c3, Value.slice (some ⟨b4, off4, none⟩) cs.length c4], U 0, U 1, U 2, U 3, U 4, U 5, U 6, U 7, U 8, U 9, U 10, U 11, U 12, U 13, U 14, U 15, U 16, U 17, U 18, U 19, U 20, U 21, U 22, U 23, U 24, U 25, undef, undef, undef, undef, undef, undef, undef, undef, undef, undef, undef, undef, undef, undef, undef, undef, undef, undef, undef], defers := [] } := ⟨_, rfl⟩
        have CELLS : ∀ W : World, Below wv.heap.size wv W → W.cell? ⟨H, 0, none⟩ = some (.slice (some ⟨b3, off3, none⟩) xs.length c3) ∧ W.cell? ⟨H, 1, none⟩ = some (.slice (some ⟨b4, off4, none⟩) cs.length c4) ∧ W.cell? ⟨b3, off3, none⟩ = some (.int .i64 a0) ∧ W.cell? ⟨b4, off4, none⟩ = some (.int .i64 e0) := fun W hW =>
          ⟨(hW.cell (p := ⟨H, 0, none⟩) hHlt).trans cA, (hW.cell (p := ⟨H, 1, none⟩) hHlt).trans cC, (hW.cell (p := ⟨b3, off3, none⟩) hb3).trans ra0, (hW.cell (p := ⟨b4, off4, none⟩) hb4).trans re0⟩
        have HCELLS := Lib.hid CELLS
        have HNW1 := Lib.hid NW1
        have HNW2 := Lib.hid NW2
        have HX1 := Lib.hid hx1
        have HC1 := Lib.hid hc1'
        clear hwv hbv cA cC hc3 hc4 hH ha0 he0 ra0 re0 NW1 NW2 CELLS hx1 hc1' HI1 HI2 HJ1 HJ2 HC HBX r1 r2 f1 f2 hb3 hb4
        refine wp_region_inv (by kernel_rfl) (by repeat (first | exact AllOps.nil | refine AllOps.cons (by decide) ?_)) (JT mk (FTt (.slice (some ⟨g, 0, none⟩) vs.length cX) (.int .i64 k) (.pointer (some ⟨H, 0, none⟩)) (.slice (some ⟨b3, off3, none⟩) xs.length c3) (.slice (some ⟨b3, off3 + 1, none⟩) (xs.length - 1) (c3 - 1)) (.pointer (some ⟨b3, off3, none⟩)) (.int .i64 a0) (.pointer (some ⟨H, 1, none⟩)) (.slice (some ⟨b4, off4, none⟩) cs.length c4) (.slice (some ⟨b4, off4 + 1, none⟩) (cs.length - 1) (c4 - 1)) (.pointer (some ⟨b4, off4, none⟩)) (.int .i64 e0) (.pointer (some ⟨g, k * 2, none⟩))) wv (nnT xs.length cs.length) (xsT xs cs)
          (fun a W => ∃ U L', a = mk U ∧ CopyV W w5.heap.size g cX (vs.set k (turnX vs[k])) L' vs.length ∧ Below w5.heap.size w5 W)) ?h0 ?hs ?he
        case h0 =>
          exact ⟨Or.inl ⟨rfl, fun _ => undef, by rw [hmk], fun i hi hq => by simp at hq; omega, fun hq => by simp at hq, below_drewN (Below.refl _ _) 1, fun i hi => by (unfold liveT at hi; split at hi <;> simp at hi), fun i j hi => by (unfold liveT at hi; split at hi <;> simp at hi)⟩⟩
        case hs =>
          refine AllOps.cons (fun L a W hJ hi hd K hK => ?_) ?_
          · obtain ⟨h26, U, rfl, hF, h24, hB, hR⟩ := hJ.open (by decide) hi
            rw [hmk]
            go_simp
            refine hK.out _ _ ?_
            refine JT.to ?_ (JT.stepv 0 (.slice (some ⟨g, 0, none⟩) vs.length cX) (by omega) hi h26 hF h24 rfl (fun q => by cases q) hB (hR.pure (liveT_same (by decide))))
            rw [hmk]
            simp [updR]
          refine AllOps.cons (fun L a W hJ hi hd K hK => ?_) ?_
          · obtain ⟨h26, U, rfl, hF, h24, hB, hR⟩ := hJ.open (by decide) hi
            rw [hmk]
            go_simp
            refine hK.out _ _ ?_
            refine JT.to ?_ (JT.stepv 1 (.int .i64 k) (by omega) hi h26 hF h24 rfl (fun q => by cases q) hB (hR.pure (liveT_same (by decide))))
            rw [hmk]
            simp [updR]
          refine AllOps.cons (fun L a W hJ hi hd K hK => ?_) ?_
          · obtain ⟨h26, U, rfl, hF, h24, hB, hR⟩ := hJ.open (by decide) hi
            rw [hmk]
            go_simp
            refine hK.out _ _ ?_
            refine JT.to ?_ (JT.stepv 2 (.slice (some ⟨W.heap.size, 0, none⟩) 0 0) (by omega) hi h26 hF h24 trivial (fun q => by cases q) (hB.alloc hB.size _) (hR.row (World.grownBy_alloc W _ none) (World.ownsRow_lit W #[] 0 hB.size (by unfold maxLen; omega) rfl) (Or.inr fun q e => by cases e; exact Nat.le_refl _) (fun j hj hne => ⟨liveT_2 j hj hne, by cases (U j).ownBlock <;> simp⟩)))
            rw [hmk]
            simp [updR]
          refine AllOps.cons (fun L a W hJ hi hd K hK => ?_) ?_
          · obtain ⟨h26, U, rfl, hF, h24, hB, hR⟩ := hJ.open (by decide) hi
            rw [hmk]
            go_simp
            refine hK.out _ _ ?_
            refine JT.to ?_ (JT.stepv 3 (.pointer (some ⟨H, 0, none⟩)) (by omega) hi h26 hF h24 rfl (fun q => by cases q) hB (hR.pure (liveT_same (by decide))))
            rw [hmk]
            simp [updR]
          refine AllOps.cons (fun L a W hJ hi hd K hK => ?_) ?_
          · obtain ⟨h26, U, rfl, hF, h24, hB, hR⟩ := hJ.open (by decide) hi
            have e3 : U 3 = .pointer (some ⟨H, 0, none⟩) := hF 3 (by omega) (hd ⟨3, .data⟩ (by simp) rfl)
            obtain ⟨cA, cC, ra0, re0⟩ := HCELLS.out W hB
            rw [hmk]
            simp only [e3]
            go_simp
            refine hK.out _ _ ?_
            refine JT.to ?_ (JT.stepv 4 (.slice (some ⟨b3, off3, none⟩) xs.length c3) (by omega) hi h26 hF h24 rfl (fun q => by cases q) hB (hR.pure (liveT_same (by decide))))
            rw [hmk]
            simp [updR, e3]
          refine AllOps.cons (fun L a W hJ hi hd K hK => ?_) ?_
          · obtain ⟨h26, U, rfl, hF, h24, hB, hR⟩ := hJ.open (by decide) hi
            have e4 : U 4 = .slice (some ⟨b3, off3, none⟩) xs.length c3 := hF 4 (by omega) (hd ⟨4, .data⟩ (by simp) rfl)
            rw [hmk]
            simp only [e4]
            go_simp
            refine hK.out _ _ ?_
            refine JT.to ?_ (JT.stepv 5 (.slice (some ⟨b3, off3 + 1, none⟩) (xs.length - 1) (c3 - 1)) (by omega) hi h26 hF h24 rfl (fun q => by cases q) hB (hR.pure (liveT_same (by decide))))
            rw [hmk]
            simp [updR, e4]
          refine AllOps.cons (fun L a W hJ hi hd K hK => ?_) ?_
          · obtain ⟨h26, U, rfl, hF, h24, hB, hR⟩ := hJ.open (by decide) hi
            have e5 : U 5 = .slice (some ⟨b3, off3 + 1, none⟩) (xs.length - 1) (c3 - 1) := hF 5 (by omega) (hd ⟨5, .data⟩ (by simp) rfl)
            have lv : liveT L 2 = true := by show (L 2 && !L 6) = true; rw [(hd ⟨2, .data⟩ (by simp) rfl), hi]; rfl
            have own := hR.1 2 lv
            refine step_appI (by rfl) _ _ (by rfl) wv.heap.size (U 2) 0 [] (some ⟨b3, off3 + 1, none⟩) (xs.length - 1) (c3 - 1) ((xs.drop 1).map (Value.int .i64)) (by rw [hmk]; rfl) (by rw [hmk]; exact e5) own (by simp) (fun e => by cases e) (HNW1.out W hB) (ints_oneCell _ _) hB.size (by omega) ?_
            intro v' W' hown' hg' hb' hm' _
            refine hK.out _ _ ?_
            refine JT.to ?_ (JT.stepv 6 v' (by omega) hi h26 hF h24 trivial (fun q => by cases q) (hB.trans hb') (hR.row hg' hown' hm' (fun j hj hne => ⟨(liveT_6 j hj hne).1, hR.2 j 2 (liveT_6 j hj hne).1 lv (liveT_6 j hj hne).2⟩)))
            rw [hmk]
            rfl
          refine AllOps.cons (fun L a W hJ hi hd K hK => ?_) ?_
          · obtain ⟨h26, U, rfl, hF, h24, hB, hR⟩ := hJ.open (by decide) hi
            rw [hmk]
            go_simp
            refine hK.out _ _ ?_
            refine JT.to ?_ (JT.stepv 7 (.pointer (some ⟨H, 0, none⟩)) (by omega) hi h26 hF h24 rfl (fun q => by cases q) hB (hR.pure (liveT_same (by decide))))
            rw [hmk]
            simp [updR]
          refine AllOps.cons (fun L a W hJ hi hd K hK => ?_) ?_
          · obtain ⟨h26, U, rfl, hF, h24, hB, hR⟩ := hJ.open (by decide) hi
            have e7 : U 7 = .pointer (some ⟨H, 0, none⟩) := hF 7 (by omega) (hd ⟨7, .data⟩ (by simp) rfl)
            obtain ⟨cA, cC, ra0, re0⟩ := HCELLS.out W hB
            rw [hmk]
            simp only [e7]
            go_simp
            refine hK.out _ _ ?_
            refine JT.to ?_ (JT.stepv 8 (.slice (some ⟨b3, off3, none⟩) xs.length c3) (by omega) hi h26 hF h24 rfl (fun q => by cases q) hB (hR.pure (liveT_same (by decide))))
            rw [hmk]
            simp [updR, e7]
          refine AllOps.cons (fun L a W hJ hi hd K hK => ?_) ?_
          · obtain ⟨h26, U, rfl, hF, h24, hB, hR⟩ := hJ.open (by decide) hi
            have e8 : U 8 = .slice (some ⟨b3, off3, none⟩) xs.length c3 := hF 8 (by omega) (hd ⟨8, .data⟩ (by simp) rfl)
            rw [hmk]
            simp only [e8]
            go_simp
            refine hK.out _ _ ?_
            refine JT.to ?_ (JT.stepv 9 (.pointer (some ⟨b3, off3, none⟩)) (by omega) hi h26 hF h24 rfl (fun q => by cases q) hB (hR.pure (liveT_same (by decide))))
            rw [hmk]
            simp [updR, e8]
          refine AllOps.cons (fun L a W hJ hi hd K hK => ?_) ?_
          · obtain ⟨h26, U, rfl, hF, h24, hB, hR⟩ := hJ.open (by decide) hi
            have e9 : U 9 = .pointer (some ⟨b3, off3, none⟩) := hF 9 (by omega) (hd ⟨9, .data⟩ (by simp) rfl)
            obtain ⟨cA, cC, ra0, re0⟩ := HCELLS.out W hB
            rw [hmk]
            simp only [e9]
            go_simp
            refine hK.out _ _ ?_
            refine JT.to ?_ (JT.stepv 10 (.int .i64 a0) (by omega) hi h26 hF h24 rfl (fun q => by cases q) hB (hR.pure (liveT_same (by decide))))
            rw [hmk]
            simp [updR, e9]
          refine AllOps.cons (fun L a W hJ hi hd K hK => ?_) ?_
          · obtain ⟨h26, U, rfl, hF, h24, hB, hR⟩ := hJ.open (by decide) hi
            have e10 : U 10 = .int .i64 a0 := hF 10 (by omega) (hd ⟨10, .data⟩ (by simp) rfl)
            rw [hmk]
            simp only [e10]
            go_simp
            refine hK.out _ _ ?_
            have hrow : (W.alloc (.cells #[.int .i64 a0] 3)).ownsRow wv.heap.size 3 1 (.slice (some ⟨W.heap.size, 0, none⟩) 1 1) 1 ((xs.take 1).map (Value.int .i64)) := by rw [HX1.out]; exact World.ownsRow_lit W #[.int .i64 a0] 1 hB.size (by unfold maxLen; omega) rfl
            refine JT.to ?_ (JT.stepv 11 (.slice (some ⟨W.heap.size, 0, none⟩) 1 1) (by omega) hi h26 hF h24 ⟨_, rfl⟩ (fun q => by cases q) (hB.alloc hB.size _) (hR.row (World.grownBy_alloc W _ none) hrow (Or.inr fun q e => by cases e; exact Nat.le_refl _) (fun j hj hne => ⟨liveT_11 j hj hne, by cases (U j).ownBlock <;> simp⟩)))
            rw [hmk]
            simp [updR, e10]
          refine AllOps.cons (fun L a W hJ hi hd K hK => ?_) ?_
          · obtain ⟨h26, U, rfl, hF, h24, hB, hR⟩ := hJ.open (by decide) hi
            obtain ⟨g1, e1⟩ : ∃ g1, U 11 = .slice (some ⟨g1, 0, none⟩) 1 1 := hF 11 (by omega) (hd ⟨11, .data⟩ (by simp) rfl)
            have lv : liveT L 6 = true := by show (L 6 && !L 12) = true; rw [(hd ⟨6, .data⟩ (by simp) rfl), hi]; rfl
            have lo : liveT L 11 = true := by show (L 11 && !L 12) = true; rw [(hd ⟨11, .data⟩ (by simp) rfl), hi]; rfl
            have own := hR.1 6 lv
            have own1 := hR.1 11 lo
            rw [e1] at own1
            refine step_appI (by rfl) _ _ (by rfl) wv.heap.size (U 6) (0 + (xs.length - 1)) ([] ++ (xs.drop 1).map (Value.int .i64)) (some ⟨g1, 0, none⟩) 1 1 ((xs.take 1).map (Value.int .i64)) (by rw [hmk]; rfl) (by rw [hmk]; exact e1) own (by simp; omega) (fun e => by cases e) (fun a e j u hj => by cases e; exact own1.cells (g := g1) rfl j u hj) (ints_oneCell _ _) hB.size (by omega) ?_
            intro v' W' hown' hg' hb' hm' _
            refine hK.out _ _ ?_
            refine JT.to ?_ (JT.stepv 12 v' (by omega) hi h26 hF h24 trivial (fun q => by cases q) (hB.trans hb') (hR.row hg' hown' hm' (fun j hj hne => ⟨(liveT_12 j hj hne).1, hR.2 j 6 (liveT_12 j hj hne).1 lv (liveT_12 j hj hne).2⟩)))
            rw [hmk]
            rfl
          refine AllOps.cons (fun L a W hJ hi hd K hK => ?_) ?_
          · obtain ⟨h26, U, rfl, hF, h24, hB, hR⟩ := hJ.open (by decide) hi
            rw [hmk]
            go_simp
            refine hK.out _ _ ?_
            refine JT.to ?_ (JT.stepv 13 (.slice (some ⟨W.heap.size, 0, none⟩) 0 0) (by omega) hi h26 hF h24 trivial (fun q => by cases q) (hB.alloc hB.size _) (hR.row (World.grownBy_alloc W _ none) (World.ownsRow_lit W #[] 0 hB.size (by unfold maxLen; omega) rfl) (Or.inr fun q e => by cases e; exact Nat.le_refl _) (fun j hj hne => ⟨liveT_13 j hj hne, by cases (U j).ownBlock <;> simp⟩)))
            rw [hmk]
            simp [updR]
          refine AllOps.cons (fun L a W hJ hi hd K hK => ?_) ?_
          · obtain ⟨h26, U, rfl, hF, h24, hB, hR⟩ := hJ.open (by decide) hi
            rw [hmk]
            go_simp
            refine hK.out _ _ ?_
            refine JT.to ?_ (JT.stepv 14 (.pointer (some ⟨H, 1, none⟩)) (by omega) hi h26 hF h24 rfl (fun q => by cases q) hB (hR.pure (liveT_same (by decide))))
            rw [hmk]
            simp [updR]
          refine AllOps.cons (fun L a W hJ hi hd K hK => ?_) ?_
          · obtain ⟨h26, U, rfl, hF, h24, hB, hR⟩ := hJ.open (by decide) hi
            have e14 : U 14 = .pointer (some ⟨H, 1, none⟩) := hF 14 (by omega) (hd ⟨14, .data⟩ (by simp) rfl)
            obtain ⟨cA, cC, ra0, re0⟩ := HCELLS.out W hB
            rw [hmk]
            simp only [e14]
            go_simp
            refine hK.out _ _ ?_
            refine JT.to ?_ (JT.stepv 15 (.slice (some ⟨b4, off4, none⟩) cs.length c4) (by omega) hi h26 hF h24 rfl (fun q => by cases q) hB (hR.pure (liveT_same (by decide))))
            rw [hmk]
            simp [updR, e14]
          refine AllOps.cons (fun L a W hJ hi hd K hK => ?_) ?_
          · obtain ⟨h26, U, rfl, hF, h24, hB, hR⟩ := hJ.open (by decide) hi
            have e15 : U 15 = .slice (some ⟨b4, off4, none⟩) cs.length c4 := hF 15 (by omega) (hd ⟨15, .data⟩ (by simp) rfl)
            rw [hmk]
            simp only [e15]
            go_simp
            refine hK.out _ _ ?_
            refine JT.to ?_ (JT.stepv 16 (.slice (some ⟨b4, off4 + 1, none⟩) (cs.length - 1) (c4 - 1)) (by omega) hi h26 hF h24 rfl (fun q => by cases q) hB (hR.pure (liveT_same (by decide))))
            rw [hmk]
            simp [updR, e15]
          refine AllOps.cons (fun L a W hJ hi hd K hK => ?_) ?_
          · obtain ⟨h26, U, rfl, hF, h24, hB, hR⟩ := hJ.open (by decide) hi
            have e16 : U 16 = .slice (some ⟨b4, off4 + 1, none⟩) (cs.length - 1) (c4 - 1) := hF 16 (by omega) (hd ⟨16, .data⟩ (by simp) rfl)
            have lv : liveT L 13 = true := by show (L 13 && !L 17) = true; rw [(hd ⟨13, .data⟩ (by simp) rfl), hi]; rfl
            have own := hR.1 13 lv
            refine step_appI (by rfl) _ _ (by rfl) wv.heap.size (U 13) 0 [] (some ⟨b4, off4 + 1, none⟩) (cs.length - 1) (c4 - 1) ((cs.drop 1).map (Value.int .i64)) (by rw [hmk]; rfl) (by rw [hmk]; exact e16) own (by simp) (fun e => by cases e) (HNW2.out W hB) (ints_oneCell _ _) hB.size (by omega) ?_
            intro v' W' hown' hg' hb' hm' _
            refine hK.out _ _ ?_
            refine JT.to ?_ (JT.stepv 17 v' (by omega) hi h26 hF h24 trivial (fun q => by cases q) (hB.trans hb') (hR.row hg' hown' hm' (fun j hj hne => ⟨(liveT_17 j hj hne).1, hR.2 j 13 (liveT_17 j hj hne).1 lv (liveT_17 j hj hne).2⟩)))
            rw [hmk]
            rfl
          refine AllOps.cons (fun L a W hJ hi hd K hK => ?_) ?_
          · obtain ⟨h26, U, rfl, hF, h24, hB, hR⟩ := hJ.open (by decide) hi
            rw [hmk]
            go_simp
            refine hK.out _ _ ?_
            refine JT.to ?_ (JT.stepv 18 (.pointer (some ⟨H, 1, none⟩)) (by omega) hi h26 hF h24 rfl (fun q => by cases q) hB (hR.pure (liveT_same (by decide))))
            rw [hmk]
            simp [updR]
          refine AllOps.cons (fun L a W hJ hi hd K hK => ?_) ?_
          · obtain ⟨h26, U, rfl, hF, h24, hB, hR⟩ := hJ.open (by decide) hi
            have e18 : U 18 = .pointer (some ⟨H, 1, none⟩) := hF 18 (by omega) (hd ⟨18, .data⟩ (by simp) rfl)
            obtain ⟨cA, cC, ra0, re0⟩ := HCELLS.out W hB
            rw [hmk]
            simp only [e18]
            go_simp
            refine hK.out _ _ ?_
            refine JT.to ?_ (JT.stepv 19 (.slice (some ⟨b4, off4, none⟩) cs.length c4) (by omega) hi h26 hF h24 rfl (fun q => by cases q) hB (hR.pure (liveT_same (by decide))))
            rw [hmk]
            simp [updR, e18]
          refine AllOps.cons (fun L a W hJ hi hd K hK => ?_) ?_
          · obtain ⟨h26, U, rfl, hF, h24, hB, hR⟩ := hJ.open (by decide) hi
            have e19 : U 19 = .slice (some ⟨b4, off4, none⟩) cs.length c4 := hF 19 (by omega) (hd ⟨19, .data⟩ (by simp) rfl)
            rw [hmk]
            simp only [e19]
            go_simp
            refine hK.out _ _ ?_
            refine JT.to ?_ (JT.stepv 20 (.pointer (some ⟨b4, off4, none⟩)) (by omega) hi h26 hF h24 rfl (fun q => by cases q) hB (hR.pure (liveT_same (by decide))))
            rw [hmk]
            simp [updR, e19]
          refine AllOps.cons (fun L a W hJ hi hd K hK => ?_) ?_
          · obtain ⟨h26, U, rfl, hF, h24, hB, hR⟩ := hJ.open (by decide) hi
            have e20 : U 20 = .pointer (some ⟨b4, off4, none⟩) := hF 20 (by omega) (hd ⟨20, .data⟩ (by simp) rfl)
            obtain ⟨cA, cC, ra0, re0⟩ := HCELLS.out W hB
            rw [hmk]
            simp only [e20]
            go_simp
            refine hK.out _ _ ?_
            refine JT.to ?_ (JT.stepv 21 (.int .i64 e0) (by omega) hi h26 hF h24 rfl (fun q => by cases q) hB (hR.pure (liveT_same (by decide))))
            rw [hmk]
            simp [updR, e20]
          refine AllOps.cons (fun L a W hJ hi hd K hK => ?_) ?_
          · obtain ⟨h26, U, rfl, hF, h24, hB, hR⟩ := hJ.open (by decide) hi
            have e21 : U 21 = .int .i64 e0 := hF 21 (by omega) (hd ⟨21, .data⟩ (by simp) rfl)
            rw [hmk]
            simp only [e21]
            go_simp
            refine hK.out _ _ ?_
            have hrow : (W.alloc (.cells #[.int .i64 e0] 3)).ownsRow wv.heap.size 3 1 (.slice (some ⟨W.heap.size, 0, none⟩) 1 1) 1 ((cs.take 1).map (Value.int .i64)) := by rw [HC1.out]; exact World.ownsRow_lit W #[.int .i64 e0] 1 hB.size (by unfold maxLen; omega) rfl
            refine JT.to ?_ (JT.stepv 22 (.slice (some ⟨W.heap.size, 0, none⟩) 1 1) (by omega) hi h26 hF h24 ⟨_, rfl⟩ (fun q => by cases q) (hB.alloc hB.size _) (hR.row (World.grownBy_alloc W _ none) hrow (Or.inr fun q e => by cases e; exact Nat.le_refl _) (fun j hj hne => ⟨liveT_22 j hj hne, by cases (U j).ownBlock <;> simp⟩)))
            rw [hmk]
            simp [updR, e21]
          refine AllOps.cons (fun L a W hJ hi hd K hK => ?_) ?_
          · obtain ⟨h26, U, rfl, hF, h24, hB, hR⟩ := hJ.open (by decide) hi
            obtain ⟨g1, e1⟩ : ∃ g1, U 22 = .slice (some ⟨g1, 0, none⟩) 1 1 := hF 22 (by omega) (hd ⟨22, .data⟩ (by simp) rfl)
            have lv : liveT L 17 = true := by show (L 17 && !L 23) = true; rw [(hd ⟨17, .data⟩ (by simp) rfl), hi]; rfl
            have lo : liveT L 22 = true := by show (L 22 && !L 23) = true; rw [(hd ⟨22, .data⟩ (by simp) rfl), hi]; rfl
            have own := hR.1 17 lv
            have own1 := hR.1 22 lo
            rw [e1] at own1
            refine step_appI (by rfl) _ _ (by rfl) wv.heap.size (U 17) (0 + (cs.length - 1)) ([] ++ (cs.drop 1).map (Value.int .i64)) (some ⟨g1, 0, none⟩) 1 1 ((cs.take 1).map (Value.int .i64)) (by rw [hmk]; rfl) (by rw [hmk]; exact e1) own (by simp; omega) (fun e => by cases e) (fun a e j u hj => by cases e; exact own1.cells (g := g1) rfl j u hj) (ints_oneCell _ _) hB.size (by omega) ?_
            intro v' W' hown' hg' hb' hm' _
            refine hK.out _ _ ?_
            refine JT.to ?_ (JT.stepv 23 v' (by omega) hi h26 hF h24 trivial (fun q => by cases q) (hB.trans hb') (hR.row hg' hown' hm' (fun j hj hne => ⟨(liveT_23 j hj hne).1, hR.2 j 17 (liveT_23 j hj hne).1 lv (liveT_23 j hj hne).2⟩)))
            rw [hmk]
            rfl
          refine AllOps.cons (fun L a W hJ hi hd K hK => ?_) ?_
          · obtain ⟨h26, U, rfl, hF, h24, hB, hR⟩ := hJ.open (by decide) hi
            have own12 := hR.1 12 (by show L 12 = true; exact (hd ⟨12, .data⟩ (by simp) rfl))
            have own23 := hR.1 23 (by show L 23 = true; exact (hd ⟨23, .data⟩ (by simp) rfl))
            have hl12 : (xs.drop 1 ++ xs.take 1).length = xs.length := by simp; omega
            have hl23 : (cs.drop 1 ++ cs.take 1).length = cs.length := by simp; omega
            have o12 : Own W wv.heap.size (U 12) (xs.drop 1 ++ xs.take 1) := by
              show World.ownsRow _ _ _ _ _ _ _
              rw [show (xs.drop 1 ++ xs.take 1).length = 0 + (xs.length - 1) + 1 from by omega, List.map_append]
              exact own12
            have o23 : Own W wv.heap.size (U 23) (cs.drop 1 ++ cs.take 1) := by
              show World.ownsRow _ _ _ _ _ _ _
              rw [show (cs.drop 1 ++ cs.take 1).length = 0 + (cs.length - 1) + 1 from by omega, List.map_append]
              exact own23
            obtain ⟨A12, c12, e12, _⟩ := o12.form
            obtain ⟨A23, c23, e23, _⟩ := o23.form
            rw [hl12] at e12
            rw [hl23] at e23
            rw [hmk]
            simp only [e12, e23]
            go_simp
            refine hK.out _ _ ?_
            refine JT.to ?_ (JT.stepv 24 (.agg #[U 12, U 23]) (by omega) hi h26 hF h24 trivial (fun _ => ⟨rfl, (hd ⟨12, .data⟩ (by simp) rfl), (hd ⟨23, .data⟩ (by simp) rfl)⟩) hB (hR.pure (liveT_same (by decide))))
            rw [hmk]
            simp [updR, e12, e23]
          refine AllOps.cons (fun L a W hJ hi hd K hK => ?_) ?_
          · obtain ⟨h26, U, rfl, hF, h24, hB, hR⟩ := hJ.open (by decide) hi
            have e0 : U 0 = .slice (some ⟨g, 0, none⟩) vs.length cX := hF 0 (by omega) (hd ⟨0, .data⟩ (by simp) rfl)
            have e1 : U 1 = .int .i64 k := hF 1 (by omega) (hd ⟨1, .data⟩ (by simp) rfl)
            rw [hmk]
            simp only [e0, e1]
            go_simp
            refine hK.out _ _ ?_
            refine JT.to ?_ (JT.stepv 25 (.pointer (some ⟨g, k * 2, none⟩)) (by omega) hi h26 hF h24 rfl (fun q => by cases q) hB (hR.pure (liveT_same (by decide))))
            rw [hmk]
            simp [updR, e0, e1]
          refine AllOps.cons (fun L a W hJ hi hd K hK => ?_) ?_
          · obtain ⟨h26, U, rfl, hF, h24, hB, hR⟩ := hJ.open (by decide) hi
            have e25 : U 25 = .pointer (some ⟨g, k * 2, none⟩) := hF 25 (by omega) (hd ⟨25, .data⟩ (by simp) rfl)
            obtain ⟨e24, l12, l23⟩ := h24 (hd ⟨24, .data⟩ (by simp) rfl)
            have own12 := hR.1 12 (by show L 12 = true; exact l12)
            have own23 := hR.1 23 (by show L 23 = true; exact l23)
            have hl12 : (xs.drop 1 ++ xs.take 1).length = xs.length := by simp; omega
            have hl23 : (cs.drop 1 ++ cs.take 1).length = cs.length := by simp; omega
            have o12 : Own W wv.heap.size (U 12) (xs.drop 1 ++ xs.take 1) := by
              show World.ownsRow _ _ _ _ _ _ _
              rw [show (xs.drop 1 ++ xs.take 1).length = 0 + (xs.length - 1) + 1 from by omega, List.map_append]
              exact own12
            have o23 : Own W wv.heap.size (U 23) (cs.drop 1 ++ cs.take 1) := by
              show World.ownsRow _ _ _ _ _ _ _
              rw [show (cs.drop 1 ++ cs.take 1).length = 0 + (cs.length - 1) + 1 from by omega, List.map_append]
              exact own23
            obtain ⟨A12, c12, e12, _⟩ := o12.form
            obtain ⟨A23, c23, e23, _⟩ := o23.form
            rw [hl12] at e12
            rw [hl23] at e23
            have i12 : IntsF W (some g) (U 12) (xs.drop 1 ++ xs.take 1) := IntsF.of_new o12 (fun q e => by cases e; exact hgv)
            have i23 : IntsF W (some g) (U 23) (cs.drop 1 ++ cs.take 1) := IntsF.of_new o23 (fun q e => by cases e; exact hgv)
            have hCW := HCv.out.below hB
            obtain ⟨_, _, _, _, q1, q2, _, _, _, _, f1, f2⟩ := hCW.at_ hkl
            obtain ⟨st1, st2⟩ := hCW.store hkl i12 i23
            have hvk : (xs.drop 1 ++ xs.take 1, cs.drop 1 ++ cs.take 1) = turnX vs[k] := by rw [HXS.out, HCS.out]; rfl
            rw [hvk] at st1
            rw [e12, e23] at st1 st2
            rw [hmk]
            simp only [e25, e24, e12, e23]
            go_simp
            refine hK.out _ _ ?_
            refine JT.to (b := mk U) ?_ ⟨Or.inr ⟨?_, U, _, rfl, st1, (HBv.out.trans (hB.mono HBv.out.size)).trans st2⟩⟩
            · rw [hmk]; simp [e25, e24, e12, e23]
            · intro i hi27
              obtain q | q | q | q | q | q | q | q | q | q | q | q | q | q | q | q | q | q | q | q | q | q | q | q | q | q | q : i = 0 ∨ i = 1 ∨ i = 2 ∨ i = 3 ∨ i = 4 ∨ i = 5 ∨ i = 6 ∨ i = 7 ∨ i = 8 ∨ i = 9 ∨ i = 10 ∨ i = 11 ∨ i = 12 ∨ i = 13 ∨ i = 14 ∨ i = 15 ∨ i = 16 ∨ i = 17 ∨ i = 18 ∨ i = 19 ∨ i = 20 ∨ i = 21 ∨ i = 22 ∨ i = 23 ∨ i = 24 ∨ i = 25 ∨ i = 26 := by omega
              · subst q; simp [hd ⟨0, .phase⟩ (by simp) rfl]
              · subst q; simp [hd ⟨1, .phase⟩ (by simp) rfl]
              · subst q; simp [hd ⟨2, .phase⟩ (by simp) rfl]
              · subst q; simp [hd ⟨3, .phase⟩ (by simp) rfl]
              · subst q; simp [hd ⟨4, .phase⟩ (by simp) rfl]
              · subst q; simp [hd ⟨5, .phase⟩ (by simp) rfl]
              · subst q; simp [hd ⟨6, .phase⟩ (by simp) rfl]
              · subst q; simp [hd ⟨7, .phase⟩ (by simp) rfl]
              · subst q; simp [hd ⟨8, .phase⟩ (by simp) rfl]
              · subst q; simp [hd ⟨9, .phase⟩ (by simp) rfl]
              · subst q; simp [hd ⟨10, .phase⟩ (by simp) rfl]
              · subst q; simp [hd ⟨11, .phase⟩ (by simp) rfl]
              · subst q; simp [hd ⟨12, .phase⟩ (by simp) rfl]
              · subst q; simp [hd ⟨13, .phase⟩ (by simp) rfl]
              · subst q; simp [hd ⟨14, .phase⟩ (by simp) rfl]
              · subst q; simp [hd ⟨15, .phase⟩ (by simp) rfl]
              · subst q; simp [hd ⟨16, .phase⟩ (by simp) rfl]
              · subst q; simp [hd ⟨17, .phase⟩ (by simp) rfl]
              · subst q; simp [hd ⟨18, .phase⟩ (by simp) rfl]
              · subst q; simp [hd ⟨19, .phase⟩ (by simp) rfl]
              · subst q; simp [hd ⟨20, .phase⟩ (by simp) rfl]
              · subst q; simp [hd ⟨21, .phase⟩ (by simp) rfl]
              · subst q; simp [hd ⟨22, .phase⟩ (by simp) rfl]
              · subst q; simp [hd ⟨23, .phase⟩ (by simp) rfl]
              · subst q; simp [hd ⟨24, .phase⟩ (by simp) rfl]
              · subst q; simp [hd ⟨25, .data⟩ (by simp) rfl]
              · subst q; rfl
          exact AllOps.nil
        case he =>
          intro L a W hJ hall
          rcases hJ.ex with ⟨h26, _⟩ | ⟨_, U, L', rfl, hC, hB⟩
          · rw [hall 26 (by decide)] at h26; cases h26
          rw [hmk]
          have HVW := Lib.hid (HV5.out.below hB)
          have HBW := Lib.hid (below_from HB5.out hB HB5.out.size)
          have HBw := Lib.hid hB
          have HCW := Lib.hid hC
          clear hJ hall hB hC HCELLS HNW1 HNW2 HX1 HC1 HCv HBv HXS HCS hcap3 hcap4 z1 z2 z3 z4 z5 z6 z7 z8 z9 z10 zx zc hx10 hc10 hgv hHlt t1 t4 hmk
          obtain ⟨b', off', A5, c5, A6, c6, e, hbW, s1, s2, i1, l1, m1, i2, l2, m2⟩ := HVW.out.at_ (show 0 < vs.length from hv1)
          cases e
          rw [Nat.zero_mul, Nat.add_zero] at s1 s2
          obtain ⟨u1, hu1⟩ : ∃ u, u = vs[0].1 := ⟨_, rfl⟩
          obtain ⟨u2, hu2⟩ : ∃ u, u = vs[0].2 := ⟨_, rfl⟩
          rw [← hu1] at s1 i1 l1
          rw [← hu2] at s2 i2 l2
          have hv0 : vs.take 1 = [(u1, u2)] := by
            rw [hu1, hu2]
            cases vs with
            | nil => simp at hv1
            | cons y r => rfl
          obtain ⟨Ld, hLd, hcd⟩ := (show Verts W (some ⟨b, off + 2, none⟩) (vs.drop 1) from by
            have := HVW.out.cut 1 (vs.length - 1)
            rw [List.take_of_length_le (by simp)] at this
            exact this).cells (some W.heap.size) (fun g e => by cases e; exact Nat.le_refl _)
          have hld : Ld.length = (vs.length - 1) * 2 := by rw [hLd.1, List.length_drop]
          have HU0 := Lib.hid hv0
          have HLd := Lib.hid hLd
          have HI1 := Lib.hid (show IntsV W (.slice A5 u1.length c5) u1 from ⟨A5, c5, rfl, i1, l1, m1⟩)
          have HI2 := Lib.hid (show IntsV W (.slice A6 u2.length c6) u2 from ⟨A6, c6, rfl, i2, l2, m2⟩)
          have y1 : (1 : Int) ≤ (vs.length : Int) := by omega
          have y2 : (vs.length : Int) ≤ (c : Int) := by omega
          have y3 : (0 : Int) < (vs.length : Int) := by omega
          have y4 : 0 < vs.length := hv1
          have fin : ∀ (W' : World) (V8 : Value), Below W.heap.size W W' → W'.ownsRow W.heap.size 30 2 V8 (0 + (vs.length - 1) + 1) ([] ++ Ld ++ [.slice A5 u1.length c5, .slice A6 u2.length c6]) →
              ∃ A8 c8, V8 = .slice A8 vs.length c8 ∧ Verts W' A8 (vs.drop 1 ++ vs.take 1) ∧ vs.length ≤ c8 ∧ c8 ≤ maxLen := by
            intro W' V8 hb8 ho8
            have hn8 : 0 + (vs.length - 1) + 1 = vs.length := by omega
            rw [hn8, List.nil_append] at ho8
            have hq8 : ∀ q, V8.ownBlock = some q → W.heap.size ≤ q := fun q hq => (World.ownsRow.lt ho8 q hq).1
            have hc8 : VCell W' V8.ownBlock (vs.drop 1 ++ vs.take 1) (Ld ++ [.slice A5 u1.length c5, .slice A6 u2.length c6]) := by
              rw [HU0.out]
              exact (HLd.out.app (VCell.single (IntsF.of_ints HI1.out (fun g e => by cases e; exact Nat.le_refl _)) (IntsF.of_ints HI2.out (fun g e => by cases e; exact Nat.le_refl _)))).imp fun V xs hi => IntsF.of_old hi.intsV hb8 hq8
            obtain ⟨A8, c8, rfl, h81, h82⟩ := OwnX.form ho8
            exact ⟨A8, c8, rfl, hc8.verts ho8 (by simp; omega), h81, h82⟩
          have HFin := Lib.hid fin
          have CEL : ∀ W' : World, Below W.heap.size W W' → W'.cell? ⟨b, off, none⟩ = some (.slice A5 u1.length c5) ∧ W'.cell? ⟨b, off + 1, none⟩ = some (.slice A6 u2.length c6) := fun W' hW' =>
            ⟨(hW'.cell (p := ⟨b, off, none⟩) hbW).trans s1, (hW'.cell (p := ⟨b, off + 1, none⟩) hbW).trans s2⟩
          have HCEL := Lib.hid CEL
          have hone : ∀ u ∈ [Value.slice A5 u1.length c5, .slice A6 u2.length c6], u.oneCell' = true := one_pair rfl rfl
          have HOne := Lib.hid hone
          have HLo := Lib.hid hLd.one
          have HLl := Lib.hid hld
          have lasts : ∀ (A8 : Option Addr) (c8 : Nat) (W' : World), Verts W' A8 (vs.drop 1 ++ vs.take 1) → vs.length ≤ c8 → c8 ≤ maxLen → Calls Try.prog 28 #[.slice A8 vs.length c8] W' fun e w' => e = .returned (.int .i64 out) ∧ Below W'.heap.size W' w' := by
            intro A8 c8 W' hV8 h81 h82
            have hln : (vs.drop 1 ++ vs.take 1).length = vs.length := by simp; omega
            have := impl_PatternMany A8 c8 (vs.drop 1 ++ vs.take 1) W' hV8 (by rw [hln]; exact hvm) (by rw [hln]; exact h81) h82
            rw [hln, pm_turn2 HP.out, ← HO.out] at this
            exact this
          have firsts : ∀ W' : World, CopyV W' w5.heap.size g cX (vs.set k (turnX vs[k])) L' vs.length → Calls Try.prog 28 #[.slice (some ⟨g, 0, none⟩) vs.length cX] W' fun e w' => e = .returned (.int .i64 out) ∧ Below W'.heap.size W' w' := by
            intro W' hC'
            have := impl_PatternMany (some ⟨g, 0, none⟩) cX (vs.set k (turnX vs[k])) W' hC'.verts (by rw [List.length_set]; exact hvm) (by rw [List.length_set]; exact hgX1) hgX2
            rw [List.length_set, pm_turn1 HP.out hkl, ← HO.out] at this
            exact this
          have HLa := Lib.hid lasts
          have HFi := Lib.hid firsts
          clear s1 s2 i1 i2 hu1 hu2 hv0 hLd hld fin CEL hone lasts firsts HV5 HI1 HI2
          by_cases hc1 : c = 1
          · have HN1 : Hid (vs.length = 1) := by show _ = _; omega
            subst hc1
            clear hcd hlc
            go_wp2_with fail
            obtain ⟨mv, hmv⟩ : ∃ mv : (Nat → Value) → Act, mv = fun V => { tmps := #[Value.slice A bs.length cap, Value.slice A2 bs2.length cap2, undef, undef, Value.bool false, Value.slice (some ⟨b, off, none⟩) vs.length 1, Value.int IntKind.i64 out, Value.int IntKind.i64 out, Value.int IntKind.i64 (k : Int), Value.slice (some ⟨g, 0, none⟩) vs.length cX, Value.pointer (some ⟨H, 0, none⟩), V 9, Value.slice A bs.length cap, Value.int IntKind.i64 (bs.length : Int), Value.bool false, Value.bool false, Value.slice A2 bs2.length cap2, Value.int IntKind.i64 (bs2.length : Int), Value.bool false, Value.bool false, Value.slice A bs.length cap, Value.slice (some ⟨b, off, none⟩) vs.length 1, Value.slice (some ⟨b, off, none⟩) vs.length 1, Value.int IntKind.i64 out, Value.slice (some ⟨b, off, none⟩) vs.length 1, Value.int IntKind.i64 out, Value.int IntKind.i64 out, Value.int IntKind.i64 out, Value.bool false, Value.bool false, Value.int IntKind.i64 out, Value.bool false, Value.bool false, undef, undef, undef, Value.slice A2 bs2.length cap2, Value.int IntKind.i64 (bs2.length : Int), Value.slice (some ⟨b, off, none⟩) vs.length 1, Value.int IntKind.i64 (vs.length : Int), Value.int IntKind.i64 (k : Int), Value.slice (some ⟨w5.heap.size, 0, none⟩) 0 0, Value.slice (some ⟨b, off, none⟩) vs.length 1, Value.slice (some ⟨g, 0, none⟩) vs.length cX, Value.slice (some ⟨g, 0, none⟩) vs.length cX, Value.int IntKind.i64 (k : Int), Value.pointer (some ⟨g, k * 2, none⟩), Value.agg #[Value.slice (some ⟨b3, off3, none⟩) xs.length c3, Value.slice (some ⟨b4, off4, none⟩) cs.length c4], U 0, U 1, U 2, U 3, U 4, U 5, U 6, U 7, U 8, U 9, U 10, U 11, U 12, U 13, U 14, U 15, U 16, U 17, U 18, U 19, U 20, U 21, U 22, U 23, U 24, U 25, V 0, V 1, V 2, V 3, V 4, V 5, V 6, V 7, V 8, undef, undef, undef, undef, undef, undef, undef, undef, undef, undef], defers := [] } := ⟨_, rfl⟩
            refine wp_region_inv (by kernel_rfl) (by repeat (first | exact AllOps.nil | refine AllOps.cons (by decide) ?_)) (JV mv (FTv (.slice (some ⟨b, off, none⟩) vs.length 1) (.slice (some ⟨b, off, none⟩) (vs.length - 1) 0) (.pointer (some ⟨b, off, none⟩)) (.agg #[.slice A5 u1.length c5, .slice A6 u2.length c6])) W (nnV vs.length) (xsV Ld (.slice A5 u1.length c5) (.slice A6 u2.length c6))) ?h0 ?hs ?he
            case h0 =>
              exact ⟨fun _ => undef, by rw [hmv], fun i hi hq => by simp at hq; omega, fun hq => by simp at hq, below_drewN (Below.refl _ _) 1, fun i hi => by (unfold liveV at hi; split at hi <;> simp at hi), fun i j hi => by (unfold liveV at hi; split at hi <;> simp at hi)⟩
            case hs =>
              refine AllOps.cons (fun L a W' hJ hi hd K hK => ?_) ?_
              · obtain ⟨V, rfl, hF, h9, hB, hR⟩ := hJ.ex
                rw [hmv]
                go_simp
                refine hK.out _ _ ?_
                refine JV.to ?_ (JV.stepv 0 (.slice (some ⟨W'.heap.size, 0, none⟩) 0 0) hi hF h9 trivial (fun q => by cases q) (hB.alloc hB.size _) (hR.row (World.grownBy_alloc W' _ none) (World.ownsRow_lit W' #[] 0 hB.size (by unfold maxLen; omega) rfl) (Or.inr fun q e => by cases e; exact Nat.le_refl _) (fun j hj hne => ⟨liveV_0 j hj hne, by cases (V j).ownBlock <;> simp⟩)))
                rw [hmv]
                simp [updR]
              refine AllOps.cons (fun L a W' hJ hi hd K hK => ?_) ?_
              · obtain ⟨V, rfl, hF, h9, hB, hR⟩ := hJ.ex
                rw [hmv]
                go_simp
                refine hK.out _ _ ?_
                refine JV.to ?_ (JV.stepv 1 (.slice (some ⟨b, off, none⟩) vs.length 1) hi hF h9 rfl (fun q => by cases q) hB (hR.pure (liveV_same (by decide))))
                rw [hmv]
                simp [updR, HN1.out]
              refine AllOps.cons (fun L a W' hJ hi hd K hK => ?_) ?_
              · obtain ⟨V, rfl, hF, h9, hB, hR⟩ := hJ.ex
                have e1 : V 1 = .slice (some ⟨b, off, none⟩) vs.length 1 := hF 1 (by omega) (hd ⟨1, .data⟩ (by simp) rfl)
                rw [hmv]
                simp only [e1]
                go_simp
                refine hK.out _ _ ?_
                refine JV.to ?_ (JV.stepv 2 (.slice (some ⟨b, off, none⟩) (vs.length - 1) 0) hi hF h9 rfl (fun q => by cases q) hB (hR.pure (liveV_same (by decide))))
                rw [hmv]
                simp [updR, e1, HN1.out]
              refine AllOps.cons (fun L a W' hJ hi hd K hK => ?_) ?_
              · obtain ⟨V, rfl, hF, h9, hB, hR⟩ := hJ.ex
                have e2 : V 2 = .slice (some ⟨b, off, none⟩) (vs.length - 1) 0 := hF 2 (by omega) (hd ⟨2, .data⟩ (by simp) rfl)
                have lv : liveV L 0 = true := by show (L 0 && !L 3) = true; rw [(hd ⟨0, .data⟩ (by simp) rfl), hi]; rfl
                have own := hR.1 0 lv
                refine step_appV (by rfl) _ _ (by rfl) W.heap.size (V 0) 0 [] (some ⟨b, off, none⟩) (vs.length - 1) 0 Ld (by rw [hmv]; rfl) (by rw [hmv]; exact e2) own HLl.out (fun e => by cases e) (fun a e j u hj => by have h0 := HLl.out; rw [HN1.out] at h0; have : Ld = [] := List.eq_nil_of_length_eq_zero (by omega); rw [this] at hj; simp at hj) HLo.out hB.size (by omega) ?_
                intro v' w' hown' hg' hb' hm' _
                refine hK.out _ _ ?_
                refine JV.to ?_ (JV.stepv 3 v' hi hF h9 trivial (fun q => by cases q) (hB.trans hb') (hR.row hg' hown' hm' (fun j hj hne => ⟨(liveV_3 j hj hne).1, hR.2 j 0 (liveV_3 j hj hne).1 lv (liveV_3 j hj hne).2⟩)))
                rw [hmv]
                rfl
              refine AllOps.cons (fun L a W' hJ hi hd K hK => ?_) ?_
              · obtain ⟨V, rfl, hF, h9, hB, hR⟩ := hJ.ex
                rw [hmv]
                go_simp
                refine hK.out _ _ ?_
                refine JV.to ?_ (JV.stepv 4 (.slice (some ⟨b, off, none⟩) vs.length 1) hi hF h9 rfl (fun q => by cases q) hB (hR.pure (liveV_same (by decide))))
                rw [hmv]
                simp [updR, HN1.out]
              refine AllOps.cons (fun L a W' hJ hi hd K hK => ?_) ?_
              · obtain ⟨V, rfl, hF, h9, hB, hR⟩ := hJ.ex
                have e4 : V 4 = .slice (some ⟨b, off, none⟩) vs.length 1 := hF 4 (by omega) (hd ⟨4, .data⟩ (by simp) rfl)
                rw [hmv]
                simp only [e4]
                go_simp
                refine hK.out _ _ ?_
                refine JV.to ?_ (JV.stepv 5 (.pointer (some ⟨b, off, none⟩)) hi hF h9 rfl (fun q => by cases q) hB (hR.pure (liveV_same (by decide))))
                rw [hmv]
                simp [updR, e4, HN1.out]
              refine AllOps.cons (fun L a W' hJ hi hd K hK => ?_) ?_
              · obtain ⟨V, rfl, hF, h9, hB, hR⟩ := hJ.ex
                have e5 : V 5 = .pointer (some ⟨b, off, none⟩) := hF 5 (by omega) (hd ⟨5, .data⟩ (by simp) rfl)
                obtain ⟨cA, cC⟩ := HCEL.out W' hB
                rw [hmv]
                simp only [e5]
                go_simp
                refine hK.out _ _ ?_
                refine JV.to ?_ (JV.stepv 6 (.agg #[.slice A5 u1.length c5, .slice A6 u2.length c6]) hi hF h9 rfl (fun q => by cases q) hB (hR.pure (liveV_same (by decide))))
                rw [hmv]
                simp [updR, e5, HN1.out]
              refine AllOps.cons (fun L a W' hJ hi hd K hK => ?_) ?_
              · obtain ⟨V, rfl, hF, h9, hB, hR⟩ := hJ.ex
                have e6 : V 6 = .agg #[.slice A5 u1.length c5, .slice A6 u2.length c6] := hF 6 (by omega) (hd ⟨6, .data⟩ (by simp) rfl)
                rw [hmv]
                simp only [e6]
                go_simp
                refine hK.out _ _ ?_
                refine JV.to ?_ (JV.stepv 7 (.slice (some ⟨W'.heap.size, 0, none⟩) 1 1) hi hF h9 ⟨_, rfl⟩ (fun q => by cases q) (hB.alloc hB.size _) (hR.row (World.grownBy_alloc W' _ none) (World.ownsRow_lit W' #[.slice A5 u1.length c5, .slice A6 u2.length c6] 1 hB.size (by unfold maxLen; omega) rfl) (Or.inr fun q e => by cases e; exact Nat.le_refl _) (fun j hj hne => ⟨liveV_7 j hj hne, by cases (V j).ownBlock <;> simp⟩)))
                rw [hmv]
                simp [updR, e6, HN1.out]
              refine AllOps.cons (fun L a W' hJ hi hd K hK => ?_) ?_
              · obtain ⟨V, rfl, hF, h9, hB, hR⟩ := hJ.ex
                obtain ⟨g1, e1⟩ : ∃ g1, V 7 = .slice (some ⟨g1, 0, none⟩) 1 1 := hF 7 (by omega) (hd ⟨7, .data⟩ (by simp) rfl)
                have lv : liveV L 3 = true := by show (L 3 && !L 8) = true; rw [(hd ⟨3, .data⟩ (by simp) rfl), hi]; rfl
                have lo : liveV L 7 = true := by show (L 7 && !L 8) = true; rw [(hd ⟨7, .data⟩ (by simp) rfl), hi]; rfl
                have own := hR.1 3 lv
                have own1 := hR.1 7 lo
                rw [e1] at own1
                refine step_appV (by rfl) _ _ (by rfl) W.heap.size (V 3) (0 + (vs.length - 1)) ([] ++ Ld) (some ⟨g1, 0, none⟩) 1 1 [.slice A5 u1.length c5, .slice A6 u2.length c6] (by rw [hmv]; rfl) (by rw [hmv]; exact e1) own (by rfl) (fun e => by cases e) (fun a e j u hj => by cases e; exact own1.cells (g := g1) rfl j u hj) HOne.out hB.size (by omega) ?_
                intro v' w' hown' hg' hb' hm' _
                refine hK.out _ _ ?_
                refine JV.to ?_ (JV.stepv 8 v' hi hF h9 trivial (fun q => by cases q) (hB.trans hb') (hR.row hg' hown' hm' (fun j hj hne => ⟨(liveV_8 j hj hne).1, hR.2 j 3 (liveV_8 j hj hne).1 lv (liveV_8 j hj hne).2⟩)))
                rw [hmv]
                rfl
              refine AllOps.cons (fun L a W' hJ hi hd K hK => ?_) ?_
              · obtain ⟨V, rfl, hF, h9, hB, hR⟩ := hJ.ex
                rw [hmv]
                go_simp
                refine hK.out _ _ ?_
                refine JV.to ?_ (JV.stepv 9 (V 8) hi hF h9 trivial (fun _ => ⟨rfl, (hd ⟨8, .data⟩ (by simp) rfl)⟩) hB (hR.pure (liveV_same (by decide))))
                rw [hmv]
                simp [updR]
              exact AllOps.nil
            case he =>
              intro L a W2 hJ2 hall2
              obtain ⟨V, rfl, hF2, h92, hB2, hR2⟩ := hJ2.ex
              obtain ⟨e9, l8⟩ := h92 (hall2 9 (by decide))
              have own8 := hR2.1 8 (by show L 8 = true; exact l8)
              obtain ⟨A8, c8, e8, hV8, h81, h82⟩ := HFin.out W2 (V 8) hB2 own8
              rw [e8] at e9
              have HB2 := Lib.hid (below_from HBW.out hB2 HBW.out.size)
              have HC2 := Lib.hid (HCW.out.below hB2)
              have HV8 := Lib.hid hV8
              rw [hmv]
              simp only [e9]
              clear hJ2 hall2 hF2 h92 hB2 hR2 own8 hV8 hmv HCEL
              go_wp2_with fail
              refine (HFi.out W2 HC2.out).mono ?_
              rintro e w7 ⟨rfl, hb7⟩
              have HB7 := Lib.hid (below_from HB2.out hb7 HB2.out.size)
              have HV7 := Lib.hid (HV8.out.below hb7)
              clear hb7
              go_wp2_with fail
              refine (HLa.out A8 c8 w7 HV7.out h81 h82).mono ?_
              rintro e w8 ⟨rfl, hb8⟩
              have b8 := below_from HB7.out hb8 HB7.out.size
              clear hb8
              go_wp2_with fail
              go_ret
              exact ⟨rfl, b8⟩
          · have hc2 : ¬ (c - 1 = 0) := by omega
            go_wp2_with fail
            obtain ⟨mv, hmv⟩ : ∃ mv : (Nat → Value) → Act, mv = fun V => { tmps := #[Value.slice A bs.length cap, Value.slice A2 bs2.length cap2, undef, undef, Value.bool false, Value.slice (some ⟨b, off, none⟩) vs.length c, Value.int IntKind.i64 out, Value.int IntKind.i64 out, Value.int IntKind.i64 (k : Int), Value.slice (some ⟨g, 0, none⟩) vs.length cX, Value.pointer (some ⟨H, 0, none⟩), V 9, Value.slice A bs.length cap, Value.int IntKind.i64 (bs.length : Int), Value.bool false, Value.bool false, Value.slice A2 bs2.length cap2, Value.int IntKind.i64 (bs2.length : Int), Value.bool false, Value.bool false, Value.slice A bs.length cap, Value.slice (some ⟨b, off, none⟩) vs.length c, Value.slice (some ⟨b, off, none⟩) vs.length c, Value.int IntKind.i64 out, Value.slice (some ⟨b, off, none⟩) vs.length c, Value.int IntKind.i64 out, Value.int IntKind.i64 out, Value.int IntKind.i64 out, Value.bool false, Value.bool false, Value.int IntKind.i64 out, Value.bool false, Value.bool false, undef, undef, undef, Value.slice A2 bs2.length cap2, Value.int IntKind.i64 (bs2.length : Int), Value.slice (some ⟨b, off, none⟩) vs.length c, Value.int IntKind.i64 (vs.length : Int), Value.int IntKind.i64 (k : Int), Value.slice (some ⟨w5.heap.size, 0, none⟩) 0 0, Value.slice (some ⟨b, off, none⟩) vs.length c, Value.slice (some ⟨g, 0, none⟩) vs.length cX, Value.slice (some ⟨g, 0, none⟩) vs.length cX, Value.int IntKind.i64 (k : Int), Value.pointer (some ⟨g, k * 2, none⟩), Value.agg #[Value.slice (some ⟨b3, off3, none⟩) xs.length c3, Value.slice (some ⟨b4, off4, none⟩) cs.length c4], U 0, U 1, U 2, U 3, U 4, U 5, U 6, U 7, U 8, U 9, U 10, U 11, U 12, U 13, U 14, U 15, U 16, U 17, U 18, U 19, U 20, U 21, U 22, U 23, U 24, U 25, V 0, V 1, V 2, V 3, V 4, V 5, V 6, V 7, V 8, undef, undef, undef, undef, undef, undef, undef, undef, undef, undef], defers := [] } := ⟨_, rfl⟩
            refine wp_region_inv (by kernel_rfl) (by repeat (first | exact AllOps.nil | refine AllOps.cons (by decide) ?_)) (JV mv (FTv (.slice (some ⟨b, off, none⟩) vs.length c) (.slice (some ⟨b, off + 2, none⟩) (vs.length - 1) (c - 1)) (.pointer (some ⟨b, off, none⟩)) (.agg #[.slice A5 u1.length c5, .slice A6 u2.length c6])) W (nnV vs.length) (xsV Ld (.slice A5 u1.length c5) (.slice A6 u2.length c6))) ?h0 ?hs ?he
            case h0 =>
              exact ⟨fun _ => undef, by rw [hmv], fun i hi hq => by simp at hq; omega, fun hq => by simp at hq, below_drewN (Below.refl _ _) 1, fun i hi => by (unfold liveV at hi; split at hi <;> simp at hi), fun i j hi => by (unfold liveV at hi; split at hi <;> simp at hi)⟩
            case hs =>
              refine AllOps.cons (fun L a W' hJ hi hd K hK => ?_) ?_
              · obtain ⟨V, rfl, hF, h9, hB, hR⟩ := hJ.ex
                rw [hmv]
                go_simp
                refine hK.out _ _ ?_
                refine JV.to ?_ (JV.stepv 0 (.slice (some ⟨W'.heap.size, 0, none⟩) 0 0) hi hF h9 trivial (fun q => by cases q) (hB.alloc hB.size _) (hR.row (World.grownBy_alloc W' _ none) (World.ownsRow_lit W' #[] 0 hB.size (by unfold maxLen; omega) rfl) (Or.inr fun q e => by cases e; exact Nat.le_refl _) (fun j hj hne => ⟨liveV_0 j hj hne, by cases (V j).ownBlock <;> simp⟩)))
                rw [hmv]
                simp [updR]
              refine AllOps.cons (fun L a W' hJ hi hd K hK => ?_) ?_
              · obtain ⟨V, rfl, hF, h9, hB, hR⟩ := hJ.ex
                rw [hmv]
                go_simp
                refine hK.out _ _ ?_
                refine JV.to ?_ (JV.stepv 1 (.slice (some ⟨b, off, none⟩) vs.length c) hi hF h9 rfl (fun q => by cases q) hB (hR.pure (liveV_same (by decide))))
                rw [hmv]
                simp [updR]
              refine AllOps.cons (fun L a W' hJ hi hd K hK => ?_) ?_
              · obtain ⟨V, rfl, hF, h9, hB, hR⟩ := hJ.ex
                have e1 : V 1 = .slice (some ⟨b, off, none⟩) vs.length c := hF 1 (by omega) (hd ⟨1, .data⟩ (by simp) rfl)
                rw [hmv]
                simp only [e1]
                go_simp
                refine hK.out _ _ ?_
                refine JV.to ?_ (JV.stepv 2 (.slice (some ⟨b, off + 2, none⟩) (vs.length - 1) (c - 1)) hi hF h9 rfl (fun q => by cases q) hB (hR.pure (liveV_same (by decide))))
                rw [hmv]
                simp [updR, e1]
              refine AllOps.cons (fun L a W' hJ hi hd K hK => ?_) ?_
              · obtain ⟨V, rfl, hF, h9, hB, hR⟩ := hJ.ex
                have e2 : V 2 = .slice (some ⟨b, off + 2, none⟩) (vs.length - 1) (c - 1) := hF 2 (by omega) (hd ⟨2, .data⟩ (by simp) rfl)
                have lv : liveV L 0 = true := by show (L 0 && !L 3) = true; rw [(hd ⟨0, .data⟩ (by simp) rfl), hi]; rfl
                have own := hR.1 0 lv
                refine step_appV (by rfl) _ _ (by rfl) W.heap.size (V 0) 0 [] (some ⟨b, off + 2, none⟩) (vs.length - 1) (c - 1) Ld (by rw [hmv]; rfl) (by rw [hmv]; exact e2) own HLl.out (fun e => by cases e) (fun a e j u hj => by cases e; rw [Addr.add_lit]; exact (hB.cell (p := ⟨b, off + 2 + j, none⟩) hbW).trans (hcd j u hj)) HLo.out hB.size (by omega) ?_
                intro v' w' hown' hg' hb' hm' _
                refine hK.out _ _ ?_
                refine JV.to ?_ (JV.stepv 3 v' hi hF h9 trivial (fun q => by cases q) (hB.trans hb') (hR.row hg' hown' hm' (fun j hj hne => ⟨(liveV_3 j hj hne).1, hR.2 j 0 (liveV_3 j hj hne).1 lv (liveV_3 j hj hne).2⟩)))
                rw [hmv]
                rfl
              refine AllOps.cons (fun L a W' hJ hi hd K hK => ?_) ?_
              · obtain ⟨V, rfl, hF, h9, hB, hR⟩ := hJ.ex
                rw [hmv]
                go_simp
                refine hK.out _ _ ?_
                refine JV.to ?_ (JV.stepv 4 (.slice (some ⟨b, off, none⟩) vs.length c) hi hF h9 rfl (fun q => by cases q) hB (hR.pure (liveV_same (by decide))))
                rw [hmv]
                simp [updR]
              refine AllOps.cons (fun L a W' hJ hi hd K hK => ?_) ?_
              · obtain ⟨V, rfl, hF, h9, hB, hR⟩ := hJ.ex
                have e4 : V 4 = .slice (some ⟨b, off, none⟩) vs.length c := hF 4 (by omega) (hd ⟨4, .data⟩ (by simp) rfl)
                rw [hmv]
                simp only [e4]
                go_simp
                refine hK.out _ _ ?_
                refine JV.to ?_ (JV.stepv 5 (.pointer (some ⟨b, off, none⟩)) hi hF h9 rfl (fun q => by cases q) hB (hR.pure (liveV_same (by decide))))
                rw [hmv]
                simp [updR, e4]
              refine AllOps.cons (fun L a W' hJ hi hd K hK => ?_) ?_
              · obtain ⟨V, rfl, hF, h9, hB, hR⟩ := hJ.ex
                have e5 : V 5 = .pointer (some ⟨b, off, none⟩) := hF 5 (by omega) (hd ⟨5, .data⟩ (by simp) rfl)
                obtain ⟨cA, cC⟩ := HCEL.out W' hB
                rw [hmv]
                simp only [e5]
                go_simp
                refine hK.out _ _ ?_
                refine JV.to ?_ (JV.stepv 6 (.agg #[.slice A5 u1.length c5, .slice A6 u2.length c6]) hi hF h9 rfl (fun q => by cases q) hB (hR.pure (liveV_same (by decide))))
                rw [hmv]
                simp [updR, e5]
              refine AllOps.cons (fun L a W' hJ hi hd K hK => ?_) ?_
              · obtain ⟨V, rfl, hF, h9, hB, hR⟩ := hJ.ex
                have e6 : V 6 = .agg #[.slice A5 u1.length c5, .slice A6 u2.length c6] := hF 6 (by omega) (hd ⟨6, .data⟩ (by simp) rfl)
                rw [hmv]
                simp only [e6]
                go_simp
                refine hK.out _ _ ?_
                refine JV.to ?_ (JV.stepv 7 (.slice (some ⟨W'.heap.size, 0, none⟩) 1 1) hi hF h9 ⟨_, rfl⟩ (fun q => by cases q) (hB.alloc hB.size _) (hR.row (World.grownBy_alloc W' _ none) (World.ownsRow_lit W' #[.slice A5 u1.length c5, .slice A6 u2.length c6] 1 hB.size (by unfold maxLen; omega) rfl) (Or.inr fun q e => by cases e; exact Nat.le_refl _) (fun j hj hne => ⟨liveV_7 j hj hne, by cases (V j).ownBlock <;> simp⟩)))
                rw [hmv]
                simp [updR, e6]
              refine AllOps.cons (fun L a W' hJ hi hd K hK => ?_) ?_
              · obtain ⟨V, rfl, hF, h9, hB, hR⟩ := hJ.ex
                obtain ⟨g1, e1⟩ : ∃ g1, V 7 = .slice (some ⟨g1, 0, none⟩) 1 1 := hF 7 (by omega) (hd ⟨7, .data⟩ (by simp) rfl)
                have lv : liveV L 3 = true := by show (L 3 && !L 8) = true; rw [(hd ⟨3, .data⟩ (by simp) rfl), hi]; rfl
                have lo : liveV L 7 = true := by show (L 7 && !L 8) = true; rw [(hd ⟨7, .data⟩ (by simp) rfl), hi]; rfl
                have own := hR.1 3 lv
                have own1 := hR.1 7 lo
                rw [e1] at own1
                refine step_appV (by rfl) _ _ (by rfl) W.heap.size (V 3) (0 + (vs.length - 1)) ([] ++ Ld) (some ⟨g1, 0, none⟩) 1 1 [.slice A5 u1.length c5, .slice A6 u2.length c6] (by rw [hmv]; rfl) (by rw [hmv]; exact e1) own (by rfl) (fun e => by cases e) (fun a e j u hj => by cases e; exact own1.cells (g := g1) rfl j u hj) HOne.out hB.size (by omega) ?_
                intro v' w' hown' hg' hb' hm' _
                refine hK.out _ _ ?_
                refine JV.to ?_ (JV.stepv 8 v' hi hF h9 trivial (fun q => by cases q) (hB.trans hb') (hR.row hg' hown' hm' (fun j hj hne => ⟨(liveV_8 j hj hne).1, hR.2 j 3 (liveV_8 j hj hne).1 lv (liveV_8 j hj hne).2⟩)))
                rw [hmv]
                rfl
              refine AllOps.cons (fun L a W' hJ hi hd K hK => ?_) ?_
              · obtain ⟨V, rfl, hF, h9, hB, hR⟩ := hJ.ex
                rw [hmv]
                go_simp
                refine hK.out _ _ ?_
                refine JV.to ?_ (JV.stepv 9 (V 8) hi hF h9 trivial (fun _ => ⟨rfl, (hd ⟨8, .data⟩ (by simp) rfl)⟩) hB (hR.pure (liveV_same (by decide))))
                rw [hmv]
                simp [updR]
              exact AllOps.nil
            case he =>
              intro L a W2 hJ2 hall2
              obtain ⟨V, rfl, hF2, h92, hB2, hR2⟩ := hJ2.ex
              obtain ⟨e9, l8⟩ := h92 (hall2 9 (by decide))
              have own8 := hR2.1 8 (by show L 8 = true; exact l8)
              obtain ⟨A8, c8, e8, hV8, h81, h82⟩ := HFin.out W2 (V 8) hB2 own8
              rw [e8] at e9
              have HB2 := Lib.hid (below_from HBW.out hB2 HBW.out.size)
              have HC2 := Lib.hid (HCW.out.below hB2)
              have HV8 := Lib.hid hV8
              rw [hmv]
              simp only [e9]
              clear hJ2 hall2 hF2 h92 hB2 hR2 own8 hV8 hmv HCEL
              go_wp2_with fail
              refine (HFi.out W2 HC2.out).mono ?_
              rintro e w7 ⟨rfl, hb7⟩
              have HB7 := Lib.hid (below_from HB2.out hb7 HB2.out.size)
              have HV7 := Lib.hid (HV8.out.below hb7)
              clear hb7
              go_wp2_with fail
              refine (HLa.out A8 c8 w7 HV7.out h81 h82).mono ?_
              rintro e w8 ⟨rfl, hb8⟩
              have b8 := below_from HB7.out hb8 HB7.out.size
              clear hb8
              go_wp2_with fail
              go_ret
              exact ⟨rfl, b8⟩
end Go.Proofs.Ytnccpifdajcejaa
