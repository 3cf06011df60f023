/- Right layers of a ring: the reference's test is the program's. No condition but sizes. All orders, the reference's way: rows of rows of numbers. No condition but sizes. Right layers of a ring, counted the reference's way. No condition but sizes. Right layers of a strip: the reference's test is the program's, on every order. No condition but sizes. -/
import Derived.Test.YtkdlipbegdiaaaaGreatDoorEzBP29
import Derived.Test.YtkdlipbegdiaaaaGreatDoorEzBP28
import Derived.Test.YtkdlipbegdiaaaaGreatDoorEzBP12
import Derived.Test.YtkdlipbegdiaaaaGreatDoorEzBP5
namespace Go.Proofs.YtkdlipbegdiaaaaGreatDoor
theorem lvAt_hit (L : List Int) (k : Nat) (j : Int) (h : 0 ≤ lvAt L k j) : L.getD (lvAt L k j).toNat 0 = j := by
  induction k with
  | zero => rw [show lvAt L 0 j = -1 from rfl] at h; omega
  | succ k ih =>
    rw [lvAt_succ] at h ⊢
    split
    · rename_i e; simpa using e
    · rename_i e; rw [if_neg e] at h; exact ih h
theorem lvTo_getD {L : List Int} {n k j : Nat} (h : j < n) : (lvTo L n k).getD j 0 = lvAt L k (j : Int) := by
  rw [List.getD_eq_getElem?_getD, lvTo_get h]; rfl
theorem lvTo_ne {L : List Int} {n k i j : Nat} (hi : i < n) (hj : j < n) (h : ∀ j, j < n → 0 ≤ lvAt L k (j : Int)) (hij : i ≠ j) : (lvTo L n k).getD i 0 ≠ (lvTo L n k).getD j 0 := by
  rw [lvTo_getD hi, lvTo_getD hj]
  intro e
  have h1 := lvAt_hit L k i (h i hi)
  have h2 := lvAt_hit L k j (h j hj)
  rw [e] at h1
  rw [h1] at h2; omega
theorem bet_sym {a b c d : Int} (_h1 : a ≠ b) (h2 : a ≠ c) (h3 : a ≠ d) (h4 : b ≠ c) (h5 : b ≠ d) (h6 : c ≠ d) : (betB c a b != betB d a b) = (betB a c d != betB b c d) := by
  have key : ∀ x y z : Int, betB x y z = true ↔ (y < x ∧ x < z) ∨ (z < x ∧ x < y) := by
    intro x y z
    unfold betB
    rw [Bool.and_eq_true, decide_eq_true_eq, decide_eq_true_eq]
    omega
  have k1 := key c a b
  have k2 := key d a b
  have k3 := key a c d
  have k4 := key b c d
  generalize betB c a b = u1 at *
  generalize betB d a b = u2 at *
  generalize betB a c d = u3 at *
  generalize betB b c d = u4 at *
  cases u1 <;> cases u2 <;> cases u3 <;> cases u4 <;> simp at k1 k2 k3 k4 ⊢ <;> omega
/-- all that the counting of a ring's orders asks of an order -/
structure OrdF (n : Nat) (L : List Int) : Prop where
  len : L.length = n
  ok : okL L n = true
  lv : ∀ j, j < n → 0 ≤ lvAt L n (j : Int)
theorem ord_of {n : Nat} (hn : n = 2 ∨ n = 4 ∨ n = 6) : ∀ L, L ∈ genO n n [] → OrdF n L := by
  have key : ∀ ps, permOk n ps = true → ∀ L, L ∈ genO n n [] → OrdF n L := by
    intro ps hP L hL
    rw [gen_perm hP] at hL
    obtain ⟨p, hp, rfl⟩ := List.mem_map.1 hL
    have hf := perm_f hP hp
    refine ⟨by simp [zs, hf.len], hf.ok, fun j hj => ?_⟩
    have := lvTo_getD (L := zs p) (k := n) hj
    rw [hf.lv, gd_getD _ _ (by simp [invN]; exact hj)] at this
    rw [← this]; omega
  rcases hn with rfl | rfl | rfl
  · exact key _ perm2
  · exact key _ perm4
  · exact key _ perm6
end Go.Proofs.YtkdlipbegdiaaaaGreatDoor
namespace Go.Proofs.YtkdlipbegdiaaaaGreatDoor
open Go.RowKit
theorem mem_drop_yesR {z : Int} {xs : List Int} {k : Nat} {r : List Int} (h : xs.drop k = z :: r) : z ∈ xs := List.mem_of_mem_drop (h ▸ List.mem_cons_self ..)
set_option maxHeartbeats 400000 in
theorem spec_l2HasR (A : Option Addr) (cap : Nat) (xs : List Int) (z : Int) (w : World) (h : Ints w A xs) (hl : xs.length ≤ maxLen) :
    Calls Tryz.prog 67 #[.slice A xs.length cap, .int .i64 z] w fun e w' => e = .returned (.bool (decide (z ∈ xs))) ∧ w = w' := by
  unfold maxLen at hl
  go_enter Tryz.func67, Tryz.ntmps67
  go_wp2_with fail
  go_loop [5] (fun s5 => ∃ k : Nat, k ≤ xs.length ∧ s5 = .int .i64 k ∧ Hid ((z ∈ xs) ↔ (z ∈ xs.drop k))) (fun s5 => xs.length - (intOf s5).toNat)
  case atStart => exact ⟨0, Nat.zero_le _, rfl, by show _ ↔ _; simp⟩
  case round =>
    obtain ⟨k, hk, rfl, H⟩ := hrel
    by_cases hlt : k < xs.length
    · obtain ⟨b, off, y, rfl, _, HX, hc, _⟩ := h.at_ hlt
      have k1 : (k : Int) < (xs.length : Int) := by omega
      by_cases q : y = z
      · have d : (y == z) = true := by rw [beq_iff_eq]; exact q
        have hm : z ∈ xs := q ▸ mem_drop_yesR HX.out
        have HM := Lib.hid hm
        clear q hm
        go_wp2_with fail
        go_ret
        exact ⟨ret_bool (by rw [decide_eq_true HM.out]), rfl⟩
      · have d : (y == z) = false := by rw [beq_eq_false_iff_ne]; exact q
        have H2 : Hid ((z ∈ xs) ↔ (z ∈ xs.drop (k + 1))) := by
          show _ ↔ _
          rw [H.out, HX.out, List.mem_cons]
          exact ⟨fun e => e.resolve_left (fun e => q e.symm), Or.inr⟩
        clear q
        go_wp2_with fail
        go_round
        case rel => exact ⟨k + 1, by omega, by go_num, H2⟩
        case measure => simp [intOf]; omega
    · obtain rfl : k = xs.length := by omega
      have hm : ¬ z ∈ xs := by rw [H.out]; simp
      have HM := Lib.hid hm
      clear hm
      go_wp2_with fail
      go_ret
      exact ⟨ret_bool (by rw [decide_eq_false HM.out]), rfl⟩
/-- rows of numbers told by a row, from H0 on, apart of a block -/
def Tol (w : World) (H0 : Nat) (ob : Option Nat) (vs : List Value) (LL : List (List Int)) : Prop :=
  vs.length = LL.length ∧ ∀ (i : Nat) (u : Value) (L : List Int), vs[i]? = some u → LL[i]? = some L → ∃ b off c, u = .slice (some ⟨b, off, none⟩) L.length c ∧ Ints w (some ⟨b, off, none⟩) L ∧ H0 ≤ b ∧ b < w.heap.size ∧ ob ≠ some b
theorem Tol.nil (w : World) (H0 : Nat) (ob : Option Nat) : Tol w H0 ob [] [] := ⟨rfl, fun i u L a _ => by simp at a⟩
theorem Tol.below {w w' : World} {H0 : Nat} {ob : Option Nat} {vs : List Value} {LL : List (List Int)} (h : Tol w H0 ob vs LL) (hb : Below w.heap.size w w') : Tol w' H0 ob vs LL := by
  refine ⟨h.1, fun i u L a c => ?_⟩
  obtain ⟨b, off, cp, e, hi, h0, h1, h2⟩ := h.2 i u L a c
  exact ⟨b, off, cp, e, hi.below hb, h0, Nat.lt_of_lt_of_le h1 hb.size, h2⟩
theorem ints_far {w w' : World} {b off : Nat} {L : List Int} {ob : Option Nat} (h : Ints w (some ⟨b, off, none⟩) L) (hg : w.grownBy w' ob) (hne : ob ≠ some b) : Ints w' (some ⟨b, off, none⟩) L := by
  intro hn
  obtain ⟨b', off', e, hb, hc⟩ := h hn
  cases e
  exact ⟨b, off, rfl, Nat.lt_of_lt_of_le hb hg.size, fun j u hj => (hg.cell_far ⟨b, off + j, none⟩ hb (fun e => hne e.symm)).trans (hc j u hj)⟩
theorem Tol.appended {w w' : World} {H0 : Nat} {s s' : Value} {vs : List Value} {LL : List (List Int)} (h : Tol w H0 s.ownBlock vs LL) (hg : w.grownBy w' s.ownBlock) (hm : MovedX w s s') : Tol w' H0 s'.ownBlock vs LL := by
  refine ⟨h.1, fun i u L a c => ?_⟩
  obtain ⟨b, off, cp, e, hi, h0, h1, h2⟩ := h.2 i u L a c
  refine ⟨b, off, cp, e, ints_far hi hg h2, h0, Nat.lt_of_lt_of_le h1 hg.size, fun e2 => ?_⟩
  rcases hm with h3 | h3
  · rw [h3] at e2; exact h2 e2
  · have := h3 b e2; omega
theorem Tol.app {w : World} {H0 : Nat} {ob : Option Nat} {vs us : List Value} {LL MM : List (List Int)} (h : Tol w H0 ob vs LL) (h' : Tol w H0 ob us MM) : Tol w H0 ob (vs ++ us) (LL ++ MM) := by
  refine ⟨by simp [h.1, h'.1], fun k v X h1 h2 => ?_⟩
  by_cases hk : k < vs.length
  · rw [List.getElem?_append_left hk] at h1
    rw [List.getElem?_append_left (by rw [← h.1]; exact hk)] at h2
    exact h.2 k v X h1 h2
  · rw [List.getElem?_append_right (by omega)] at h1
    rw [List.getElem?_append_right (by rw [← h.1]; omega), ← h.1] at h2
    exact h'.2 _ v X h1 h2
theorem Tol.low {w : World} {H H0 : Nat} {ob ob' : Option Nat} {vs : List Value} {LL : List (List Int)} (h : Tol w H ob vs LL) (hH : H0 ≤ H) (ho : ∀ g, ob' = some g → g < H) : Tol w H0 ob' vs LL := by
  refine ⟨h.1, fun i u L a c => ?_⟩
  obtain ⟨b, off, cp, e, hi, h0, h1, h2⟩ := h.2 i u L a c
  exact ⟨b, off, cp, e, hi, by omega, h1, fun e2 => by have := ho b e2; omega⟩
/-- the orders of the first i beginnings -/
def genP (n k : Nat) (xs : List Int) (i : Nat) : List (List Int) := (List.range i).flatMap fun (j : Nat) => if (j : Int) ∈ xs then [] else genO n k (xs ++ [(j : Int)])
theorem genP_succ (n k : Nat) (xs : List Int) (i : Nat) : genP n k xs (i + 1) = genP n k xs i ++ (if (i : Int) ∈ xs then [] else genO n k (xs ++ [(i : Int)])) := by
  unfold genP; rw [List.range_succ, List.flatMap_append]; simp
theorem genO_len (n : Nat) (hn : n ≤ 7) : ∀ k xs, (genO n k xs).length ≤ 7 ^ k := by
  intro k
  induction k with
  | zero => intro xs; simp [genO]
  | succ k ih =>
    intro xs
    have key : ∀ i, (genP n k xs i).length ≤ i * 7 ^ k := by
      intro i
      induction i with
      | zero => simp [genP]
      | succ i ih2 =>
        rw [genP_succ, List.length_append]
        have : (if (i : Int) ∈ xs then [] else genO n k (xs ++ [(i : Int)])).length ≤ 7 ^ k := by
          split
          · simp
          · exact ih _
        rw [Nat.add_mul]; omega
    have h1 := key n
    have h2 : n * 7 ^ k ≤ 7 * 7 ^ k := Nat.mul_le_mul_right _ hn
    show (genP n k xs n).length ≤ _
    rw [Nat.pow_succ]; omega
theorem genP_len {n : Nat} (hn : n ≤ 7) {k i : Nat} (hi : i ≤ 7) (hk : k ≤ 6) (xs : List Int) : (genP n k xs i).length ≤ 823543 := by
  have key : ∀ i, (genP n k xs i).length ≤ i * 7 ^ k := by
    intro i
    induction i with
    | zero => simp [genP]
    | succ i ih2 =>
      rw [genP_succ, List.length_append]
      have : (if (i : Int) ∈ xs then [] else genO n k (xs ++ [(i : Int)])).length ≤ 7 ^ k := by
        split
        · simp
        · exact genO_len n hn _ _
      rw [Nat.add_mul]; omega
  have h1 := key i
  have h2 : 7 ^ k ≤ 7 ^ 6 := Nat.pow_le_pow_right (by omega) hk
  have h3 : i * 7 ^ k ≤ 7 * 7 ^ 6 := Nat.mul_le_mul hi h2
  omega
theorem own_none (w : World) {B : Nat} (hB : B ≤ w.heap.size) : Own (w.alloc (.cells #[] 3)) B (.slice (some ⟨w.heap.size, 0, none⟩) 0 0) [] :=
  World.ownsRow_lit w #[] 0 hB (by unfold maxLen; omega) rfl
theorem ints_lit (w : World) (z : Int) : Ints (w.alloc (.cells #[.int .i64 z] 3)) (some ⟨w.heap.size, 0, none⟩) [z] := Ints.of_own (own_one w z (Nat.le_refl _))
theorem tol_cell {w : World} {H0 : Nat} {ob : Option Nat} {vs : List Value} {LL : List (List Int)} (h : Tol w H0 ob vs LL) (u : Value) (hu : u ∈ vs) : u.oneCell' = true := by
  obtain ⟨i, hi⟩ := List.getElem?_of_mem hu
  have hlt : i < vs.length := (List.getElem?_eq_some_iff.1 hi).1
  obtain ⟨b, off, c, rfl, _⟩ := h.2 i u _ hi (List.getElem?_eq_getElem (by rw [← h.1]; exact hlt))
  rfl
set_option maxHeartbeats 4000000 in
set_option maxRecDepth 100000 in
theorem spec_l2All (n : Nat) (h1 : 1 ≤ n) (hn : n ≤ 7) : ∀ (k : Nat) (A : Option Addr) (cap : Nat) (xs : List Int) (w : World) (H0 : Nat), xs.length + k = n → Ints w A xs → H0 ≤ w.heap.size → (∀ b off, A = some ⟨b, off, none⟩ → H0 ≤ b) →
    Calls Tryz.prog 46 #[.int .i64 n, .slice A xs.length cap] w fun e w' => ∃ v VL, e = .returned v ∧ OwnW w' w.heap.size v (genO n k xs).length VL ∧ Tol w' H0 v.ownBlock VL (genO n k xs) ∧ Below w.heap.size w w' := by
  intro k
  induction k with
  | zero =>
    intro A cap xs w H0 hk h hz hA
    obtain ⟨b, off, rfl, hb, _⟩ := h (fun e => by rw [e] at hk; simp at hk; omega)
    have hH := hA b off rfl
    have hk' : xs.length = n := by omega
    subst hk'
    have d0 : ((xs.length : Int) == (xs.length : Int)) = true := by simp
    have HI := Lib.hid h
    clear hA h
    go_enter Tryz.func46, Tryz.ntmps46
    go_wp2_with fail
    go_ret
    refine ⟨_, [.slice (some ⟨b, off, none⟩) xs.length cap], rfl, World.ownsRow_lit w #[.slice (some ⟨b, off, none⟩) xs.length cap] 1 (Nat.le_refl _) (by unfold maxLen; omega) rfl, ?_, (Below.refl _ _).alloc (Nat.le_refl _) _⟩
    refine ⟨rfl, fun i u L a c => ?_⟩
    cases i with
    | succ i => simp at a
    | zero =>
      have e1 : Value.slice (some ⟨b, off, none⟩) xs.length cap = u := by simpa using a
      have e2 : xs = L := by simpa [genO] using c
      subst e1 e2
      refine ⟨b, off, cap, rfl, HI.out.below ((Below.refl _ _).alloc (Nat.le_refl _) _), hH, by simp; omega, fun e => ?_⟩
      have e3 : w.heap.size = b := by simpa [Value.ownBlock] using e
      omega
  | succ k ih =>
    intro A cap xs w H0 hk h hz hA
    have HIH := Lib.hid ih
    have HI := Lib.hid h
    have HXL : Hid (xs.length + (k + 1) = n) := hk
    have hxl : xs.length ≤ 7 := by omega
    have hk5 : k ≤ 6 := by omega
    have d0 : ((xs.length : Int) == (n : Int)) = false := by rw [beq_eq_false_iff_ne]; omega
    clear ih h hA hk
    go_enter Tryz.func46, Tryz.ntmps46
    go_wp2_with fail
    go_loopg [5, 6] (n + 1) (fun g s5 s6 wr => ∃ (i : Nat) (VL : List Value), i ≤ n ∧ s6 = .int .i64 i ∧ n - i < g ∧ Hid (OwnW wr w.heap.size s5 (genP n k xs i).length VL) ∧ Hid (Tol wr H0 s5.ownBlock VL (genP n k xs i)) ∧ Hid (Below w.heap.size w wr))
    case atStart => exact ⟨0, [], by omega, rfl, by omega, World.ownsRow_lit w #[] 0 (Nat.le_refl _) (by unfold maxLen; omega) rfl, Tol.nil _ _ _, (Below.refl _ _).alloc (Nat.le_refl _) _⟩
    case round =>
      obtain ⟨i, VL, hi, rfl, hg, HO, HT, HB⟩ := hrel
      cases gk with
      | zero => omega
      | succ gl =>
      have kw2 : IntKind.i64.wrap ((i : Int) + 1) = (i : Int) + 1 := IntWalk.i64_in _ (by omega)
      by_cases hlt : i < n
      · have k1 : (i : Int) < (n : Int) := by omega
        have HX : Hid (∀ W, Below wr.heap.size wr W → Ints W A xs) := fun W hb => (HI.out.below HB.out).below (hb.mono (Nat.le_refl _))
        go_wp2_with fail
        refine (spec_l2HasR A cap xs i wr (HI.out.below HB.out) (by unfold maxLen; omega)).mono ?_
        rintro e w' ⟨rfl, rfl⟩
        by_cases q : (i : Int) ∈ xs
        · have HE : Hid (genP n k xs (i + 1) = genP n k xs i) := by show _ = _; rw [genP_succ, if_pos q, List.append_nil]
          rw [decide_eq_true q]
          clear q
          go_wp2_with fail
          go_roundg gl
          case measure => omega
          case rel => exact ⟨i + 1, VL, by omega, by go_num, by omega, by rw [HE.out]; exact HO, by rw [HE.out]; exact HT, HB⟩
        · have HE : Hid (genP n k xs (i + 1) = genP n k xs i ++ genO n k (xs ++ [(i : Int)])) := by show _ = _; rw [genP_succ, if_neg q]
          rw [decide_eq_false q]
          clear q
          have hzr : w.heap.size ≤ wr.heap.size := HB.out.size
          obtain ⟨ys, hys⟩ : ∃ ys, ys = xs ++ [(i : Int)] := ⟨_, rfl⟩
          have HYL : Hid (ys.length + k = n) := by show _ = _; rw [hys, List.length_append]; have := HXL.out; simp; omega
          have HYS := Lib.hid hys
          have HML : Hid ((genP n k xs i).length + (genO n k ys).length ≤ 2000000) := by
            have e1 := genP_len hn (show i ≤ 7 by omega) (show k ≤ 6 by omega) xs
            have e2 := genO_len n hn k ys
            have e3 : 7 ^ k ≤ 7 ^ 6 := Nat.pow_le_pow_right (by omega) (by omega)
            show _ ≤ _
            omega
          rw [← hys] at HE
          clear hys
          go_wp2_with (at_builtin; go_loud (refine wpList_app (W := wr.alloc (.cells #[] 3)) rfl _ _ rfl wr.heap.size (.slice (some ⟨wr.heap.size, 0, none⟩) 0 0) [] xs _ _ (by rfl) xs.length rfl (by rfl) (own_none wr (Nat.le_refl _)) (HX.out _ ((Below.refl _ _).alloc (Nat.le_refl _) _)) (by simp) (by simp; omega) ?_))
          intro vA wA hA27' hgA hbA
          have HA27 : Hid (Own wA wr.heap.size vA xs) := (by show Own _ _ _ _; simpa using hA27')
          have HB27 : Hid (Below wr.heap.size wr wA) := ((Below.refl _ _).alloc (Nat.le_refl _) _).trans hbA
          clear hA27' hgA hbA
          go_wp2_with (at_builtin; go_loud (refine wpList_app (W := wA.alloc (.cells #[.int .i64 (i : Int)] 3)) rfl _ _ rfl wr.heap.size vA xs [(i : Int)] _ _ (by rfl) 1 rfl (by rfl) (own_belowX HA27.out ((Below.refl _ _).alloc (Nat.le_refl _) _)) (ints_lit _ _) (Nat.le_trans HB27.out.size (by simp)) (by simp; omega) ?_))
          intro vB wB hB30 hgB hbB
          have HB30 : Hid (Below wr.heap.size wr wB) := (HB27.out.alloc HB27.out.size _).trans hbB
          rw [← HYS.out] at hB30
          have hlt30 : ∀ g, vB.ownBlock = some g → wr.heap.size ≤ g := fun g e => (hB30.lt g e).1
          obtain ⟨A30, c30, rfl, hi30, _, _⟩ := Own.form hB30
          have HA30 : Hid (∀ b off, A30 = some ⟨b, off, none⟩ → wr.heap.size ≤ b) := fun b off e => hlt30 b (by rw [e]; rfl)
          have HI30 := Lib.hid hi30
          clear hgB hbB hB30 hlt30 hi30
          go_wp2_with fail
          refine (HIH.out A30 c30 ys wB wr.heap.size HYL.out HI30.out HB30.out.size HA30.out).mono ?_
          rintro e w6 ⟨v6, VL6, rfl, hO6, hT6, hb6'⟩
          obtain ⟨A6, c6, rfl, hr6, _, _⟩ := own_formX hO6
          have hb6 : Below wr.heap.size wr w6 := HB30.out.trans (hb6'.mono HB30.out.size)
          have HB6 := Lib.hid hb6
          have HL6 : Hid (VL6.length = (genO n k ys).length) := hT6.1
          have HR6 := Lib.hid hr6
          have HT6 := Lib.hid hT6
          clear hr6 hT6 hO6 hb6' hb6
          go_wp2_with (at_builtin; go_loud (refine wpList_appW rfl _ _ rfl w.heap.size _ _ VL A6 (genO n k ys).length c6 VL6 (by rfl) (by rfl) (own_belowX HO.out HB6.out) (by rw [HL6.out]; simp) (fun e => by subst e; have := HR6.out.none_; rw [← HL6.out, this]; rfl) HR6.out.news (tol_cell HT6.out) (Nat.le_trans hzr HB6.out.size) (Nat.le_trans HML.out (by omega)) ?_))
          intro vC wC hC hgC hbC hmC hrC
          have hC2 : OwnW wC w.heap.size vC (genP n k xs (i + 1)).length (VL ++ VL6) := by rw [HE.out, List.length_append]; exact hC
          have hT2 : Tol wC H0 vC.ownBlock (VL ++ VL6) (genP n k xs (i + 1)) := by
            rw [HE.out]
            exact ((HT.out.below HB6.out).app (HT6.out.low (by omega) fun g e => (HO.out.lt g e).2)).appended hgC hmC
          have HC2 := Lib.hid hC2
          have HT2 := Lib.hid hT2
          have HB2 : Hid (Below w.heap.size w wC) := HB.out.trans ((HB6.out.mono hzr).trans hbC)
          clear hC2 hT2 hC hgC hbC hmC hrC
          go_wp2_with fail
          go_roundg gl
          case measure => omega
          case rel => exact ⟨i + 1, VL ++ VL6, by omega, by go_num, by omega, HC2, HT2, HB2⟩
      · obtain rfl : i = n := by omega
        go_wp2_with fail
        go_ret
        exact ⟨_, VL, rfl, HO.out, HT.out, HB.out⟩
end Go.Proofs.YtkdlipbegdiaaaaGreatDoor
namespace Go.Proofs.YtkdlipbegdiaaaaGreatDoor
open Go.RowKit
/-- what a row reads as, apart of a block -/
def RowA (w : World) (ob : Option Nat) (A : Option Addr) (L : List Value) : Prop := RowV w A L ∧ ∀ b off, A = some ⟨b, off, none⟩ → b < w.heap.size ∧ ob ≠ some b
theorem RowA.below {w w' : World} {ob : Option Nat} {A : Option Addr} {L : List Value} (h : RowA w ob A L) (hb : Below w.heap.size w w') : RowA w' ob A L :=
  ⟨h.1.below hb, fun b off e => ⟨Nat.lt_of_lt_of_le (h.2 b off e).1 hb.size, (h.2 b off e).2⟩⟩
theorem RowA.appended {w w' : World} {s s' : Value} {A : Option Addr} {L : List Value} (h : RowA w s.ownBlock A L) (hg : w.grownBy w' s.ownBlock) (hm : MovedX w s s') : RowA w' s'.ownBlock A L := by
  refine ⟨fun hn => ?_, fun b off e => ?_⟩
  · obtain ⟨b, off, e, hb, hc⟩ := h.1 hn
    have h2 := (h.2 b off e).2
    exact ⟨b, off, e, Nat.lt_of_lt_of_le hb hg.size, fun j u hj => (hg.cell_far ⟨b, off + j, none⟩ hb (fun e => h2 e.symm)).trans (hc j u hj)⟩
  · obtain ⟨h1, h2⟩ := h.2 b off e
    refine ⟨Nat.lt_of_lt_of_le h1 hg.size, fun e2 => ?_⟩
    rcases hm with h3 | h3
    · rw [h3] at e2; exact h2 e2
    · have := h3 b e2; omega
theorem take_filter_succ {α : Type} (p : α → Bool) (l : List α) (k : Nat) (hk : k < l.length) : ((l.take (k + 1)).filter p).length = ((l.take k).filter p).length + if p l[k] = true then 1 else 0 := by
  rw [List.take_succ_eq_append_getElem hk, List.filter_append, List.length_append]
  congr 1
  simp only [List.filter_cons, List.filter_nil]
  split <;> rfl
end Go.Proofs.YtkdlipbegdiaaaaGreatDoor
namespace Go.Proofs.YtkdlipbegdiaaaaGreatDoor
/-- the fold k of a strip, the reference's way -/
def fqSK (xs : List Int) (s : ByteArray) (k : Nat) : Fq := (k, k + 1, plcAt xs (k + 1), s.data.toList.getD k 0)
/-- and the program's -/
def fdSK (xs : List Int) (s : ByteArray) (k : Nat) : Fd := (k, k + 1, plcAt xs (k + 1), isV s k == (k % 2 == 0))
theorem pairQ_eqS {xs : List Int} {s : ByteArray} {n k m : Nat} {lv : List Int} (hk : k + 1 < n) (hm : m + 1 < n) (hkm : k ≠ m) (hd : ∀ i j, i < n → j < n → i ≠ j → lv.getD i 0 ≠ lv.getD j 0) :
    pairQ lv (fqSK xs s k) (fqSK xs s m) = pairOk lv (fdSK xs s m) (fdSK xs s k) := by
  unfold pairQ pairOk crossB apartB fqSK fdSK
  simp only []
  by_cases hpp : plcAt xs (m + 1) = plcAt xs (k + 1)
  · by_cases hpar : m % 2 = k % 2
    · have hb := bet_sym (hd k (k + 1) (by omega) hk (by omega)) (hd k m (by omega) (by omega) hkm) (hd k (m + 1) (by omega) hm (by omega)) (hd (k + 1) m hk (by omega) (by omega)) (hd (k + 1) (m + 1) hk hm (by omega)) (hd m (m + 1) (by omega) hm (by omega))
      have e3 : (m % 2 == k % 2) = true := by rw [beq_iff_eq]; omega
      have e4 : ((m + 1) % 2 == (k + 1) % 2) = true := by rw [beq_iff_eq]; omega
      have e5 : ((k + 1) % 2 == (m + 1) % 2) = true := by rw [beq_iff_eq]; omega
      rw [e3, e4, e5, hpp, beq_self_eq_true, hb]
      simp only [bne, Bool.true_and]
      generalize betB (lv.getD m 0) (lv.getD k 0) (lv.getD (k + 1) 0) = u1 at hb ⊢
      generalize betB (lv.getD (m + 1) 0) (lv.getD k 0) (lv.getD (k + 1) 0) = u2 at hb ⊢
      generalize betB (lv.getD k 0) (lv.getD m 0) (lv.getD (m + 1) 0) = u3 at hb ⊢
      generalize betB (lv.getD (k + 1) 0) (lv.getD m 0) (lv.getD (m + 1) 0) = u4 at hb ⊢
      revert hb
      cases u1 <;> cases u2 <;> cases u3 <;> cases u4 <;> decide
    · have e3 : (m % 2 == k % 2) = false := by rw [beq_eq_false_iff_ne]; omega
      have e4 : ((m + 1) % 2 == (k + 1) % 2) = false := by rw [beq_eq_false_iff_ne]; omega
      have e5 : ((k + 1) % 2 == (m + 1) % 2) = false := by rw [beq_eq_false_iff_ne]; omega
      rw [e3, e4, e5]; simp
  · have e3 : (plcAt xs (m + 1) == plcAt xs (k + 1)) = false := by rw [beq_eq_false_iff_ne]; exact hpp
    have e4 : (plcAt xs (k + 1) == plcAt xs (m + 1)) = false := by rw [beq_eq_false_iff_ne]; omega
    rw [e3, e4]; simp
theorem dirQ_eqS {xs : List Int} {s : ByteArray} {k : Nat} {lv : List Int} (hk : k < s.size) : dirQ lv (fqSK xs s k) = (decide (lv.getD (fdSK xs s k).1 0 < lv.getD (fdSK xs s k).2.1 0) == (fdSK xs s k).2.2.2) := by
  unfold dirQ fqSK fdSK
  simp only []
  rw [isV_at hk]
  have : s.data.toList.getD k 0 = s[k] := by
    rw [List.getD_eq_getElem?_getD, List.getElem?_eq_getElem (by simpa using hk)]; simp; rfl
  rw [this]
theorem rightQ_eqS {xs : List Int} {s : ByteArray} {n : Nat} {lv : List Int} (hs : s.size + 1 = n) (hd : ∀ i j, i < n → j < n → i ≠ j → lv.getD i 0 ≠ lv.getD j 0) :
    rightQ lv (plcL xs) n (fqTo xs s.data.toList s.size) = rightGo lv (plcL xs) n (fdS xs s s.size) := by
  obtain ⟨m, hm⟩ : ∃ m, m = s.size := ⟨_, rfl⟩
  have hfd : fdS xs s m = (List.range m).map (fdSK xs s) := rfl
  have hfq : fqTo xs s.data.toList m = (List.range m).map (fqSK xs s) := rfl
  have hlen : (fqTo xs s.data.toList m).length = m := fqTo_len _ _ _
  have hget : ∀ k, k < m → (fqTo xs s.data.toList m)[k]? = some (fqSK xs s k) := fun k hk => by rw [hfq]; simp [hk]
  rw [← hm]
  apply boolx
  rw [rightGo_iff, hfd, List.pairwise_map, pair_range]
  unfold rightQ
  rw [hlen, List.all_eq_true]
  have hfold : ∀ k, k < m → (foldQ lv (plcL xs) n (fqTo xs s.data.toList m) k = true ↔ (dirQ lv (fqSK xs s k) = true ∧ ∀ i, i < n → partQ lv (plcL xs) (fqSK xs s k) i = true) ∧ ∀ j, j < k → pairQ lv (fqSK xs s k) (fqSK xs s j) = true) := by
    intro k hk
    unfold foldQ
    rw [hget k hk]
    simp only []
    rw [Bool.and_eq_true, Bool.and_eq_true, List.all_eq_true, List.all_eq_true]
    constructor
    · rintro ⟨⟨h1, h2⟩, h3⟩
      refine ⟨⟨h1, fun i hi => h2 i (List.mem_range.2 hi)⟩, fun j hj => ?_⟩
      have := h3 j (List.mem_range.2 hj)
      rw [hget j (by omega)] at this; exact this
    · rintro ⟨⟨h1, h2⟩, h3⟩
      refine ⟨⟨h1, fun i hi => h2 i (List.mem_range.1 hi)⟩, fun j hj => ?_⟩
      rw [List.mem_range] at hj
      rw [hget j (by omega)]; exact h3 j hj
  constructor
  · intro h
    refine ⟨fun f hf => ?_, fun i j hij hj => ?_⟩
    · obtain ⟨k, hk, rfl⟩ := List.mem_map.1 hf
      rw [List.mem_range] at hk
      have := ((hfold k hk).1 (h k (List.mem_range.2 hk))).1
      exact ⟨by rw [← dirQ_eqS (by omega)]; exact this.1, this.2⟩
    · have := ((hfold j hj).1 (h j (List.mem_range.2 hj))).2 i hij
      rw [pairQ_eqS (n := n) (by omega) (by omega) (by omega) hd] at this
      exact this
  · rintro ⟨h1, h2⟩ k hk
    rw [List.mem_range] at hk
    rw [hfold k hk]
    have := h1 _ (List.mem_map.2 ⟨k, List.mem_range.2 hk, rfl⟩)
    refine ⟨⟨by rw [dirQ_eqS (by omega)]; exact this.1, this.2⟩, fun j hj => ?_⟩
    rw [pairQ_eqS (n := n) (by omega) (by omega) (by omega) hd]
    exact h2 j k hj hk
/-- every order of n numbers is one of places -/
def ordChk (n : Nat) : Bool := (genO n n []).all fun L => Nat.beq L.length n && okL L n && (List.range n).all fun j => decide (0 ≤ lvAt L n (j : Int))
theorem ordChk1 : ordChk 1 = true := by decide +kernel
theorem ordChk3 : ordChk 3 = true := by decide +kernel
theorem ordChk5 : ordChk 5 = true := by decide +kernel
theorem ordF_of {n : Nat} (h : ordChk n = true) : ∀ L, L ∈ genO n n [] → OrdF n L := by
  intro L hL
  have := List.all_eq_true.1 h L hL
  simp only [Bool.and_eq_true, List.all_eq_true, decide_eq_true_eq] at this
  exact ⟨Nat.eq_of_beq_eq_true this.1.1, this.1.2, fun j hj => this.2 j (List.mem_range.2 hj)⟩
theorem ord_six {n : Nat} (h1 : 1 ≤ n) (h6 : n ≤ 6) : ∀ L, L ∈ genO n n [] → OrdF n L := by
  have : n = 1 ∨ n = 3 ∨ n = 5 ∨ (n = 2 ∨ n = 4 ∨ n = 6) := by omega
  rcases this with rfl | rfl | rfl | h
  · exact ordF_of ordChk1
  · exact ordF_of ordChk3
  · exact ordF_of ordChk5
  · exact ord_of h
/-- the reference's count of a strip's right layers -/
theorem count_strip {xs : List Int} {s : ByteArray} (h1 : 1 ≤ xs.length) (h6 : xs.length ≤ 6) (hs : s.size + 1 = xs.length) :
    ((genO xs.length xs.length []).filter fun L => rightQ (lvTo L xs.length L.length) (plcL xs) xs.length (fqTo xs s.data.toList s.size)).length = smany xs s := by
  unfold smany rcount
  rw [ordSum_gen]
  have key : ∀ (l : List (List Int)), (∀ L ∈ l, OrdF xs.length L) → (l.filter fun L => rightQ (lvTo L xs.length L.length) (plcL xs) xs.length (fqTo xs s.data.toList s.size)).length = (l.map (rwt xs.length (plcL xs) (fdS xs s s.size))).sum := by
    intro l
    induction l with
    | nil => intro _; rfl
    | cons L r ih =>
      intro h
      have hL := h L (by simp)
      have he := rightQ_eqS (xs := xs) (lv := lvTo L xs.length xs.length) hs (fun i j hi hj hij => lvTo_ne hi hj hL.lv hij)
      rw [List.filter_cons, List.map_cons, List.sum_cons, ← ih (fun L' h' => h L' (by simp [h']))]
      unfold rwt rightB
      rw [hL.ok, hL.len, he, Bool.true_and]
      cases rightGo (lvTo L xs.length xs.length) (plcL xs) xs.length (fdS xs s s.size) with
      | true => simp; omega
      | false => simp
  exact key _ (ord_six h1 h6)
end Go.Proofs.YtkdlipbegdiaaaaGreatDoor
