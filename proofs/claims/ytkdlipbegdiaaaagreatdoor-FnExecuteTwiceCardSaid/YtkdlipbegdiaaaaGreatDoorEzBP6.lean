/- Bytes and numbers at a place, of pieces and of what is put together. No program, no condition. The reference's 'l1Crimp': the angles and folds behind a crimp. No condition but sizes. The reference's 'l1Folds', and whether angles or lengths fold by it: as the program's. No condition but sizes. Rows of bytes that the call itself made: append, and the text they make. No condition. -/
import Derived.Test.YtkdlipbegdiaaaaGreatDoorEzBP4
import Derived.Test.YtkdlipbegdiaaaaGreatDoorEzBP5
import Derived.Test.YtkdlipbegdiaaaaGreatDoorEzBP3
namespace Go.Proofs.YtkdlipbegdiaaaaGreatDoor
theorem byteAt_append (a b : ByteArray) (k : Nat) : byteAt (a ++ b) k = if k < a.size then byteAt a k else byteAt b (k - a.size) := by
  unfold byteAt
  simp only [ByteArray.data_append, Array.toList_append, List.getD_eq_getElem?_getD]
  by_cases h : k < a.size
  · rw [if_pos h, List.getElem?_append_left (by simpa using h)]
  · rw [if_neg h, List.getElem?_append_right (by simpa using h)]; simp
theorem byteAt_extract (s : ByteArray) (a b k : Nat) (h : a + k < b) : byteAt (s.extract a b) k = byteAt s (a + k) := by
  unfold byteAt
  simp only [ByteArray.data_extract, Array.toList_extract, List.getD_eq_getElem?_getD]
  rw [List.extract_eq_take_drop, List.getElem?_take, if_pos (by omega), List.getElem?_drop]
theorem angleAt_append (a b : List Int) (k : Nat) : angleAt (a ++ b) k = if k < a.length then angleAt a k else angleAt b (k - a.length) := by
  unfold angleAt
  simp only [List.getD_eq_getElem?_getD]
  by_cases h : k < a.length
  · rw [if_pos h, List.getElem?_append_left h]
  · rw [if_neg h, List.getElem?_append_right (by omega)]
theorem angleAt_drop (a : List Int) (m k : Nat) : angleAt (a.drop m) k = angleAt a (m + k) := by
  unfold angleAt
  simp only [List.getD_eq_getElem?_getD, List.getElem?_drop]
theorem angleAt_take (a : List Int) (m k : Nat) (h : k < m) : angleAt (a.take m) k = angleAt a k := by
  unfold angleAt
  simp only [List.getD_eq_getElem?_getD, List.getElem?_take, if_pos h]
theorem angleAt_one (z : Int) : angleAt [z] 0 = z := rfl
end Go.Proofs.YtkdlipbegdiaaaaGreatDoor
namespace Go.Proofs.YtkdlipbegdiaaaaGreatDoor
open Go.RowKit
theorem mod_prv {n i : Nat} (h : i < n) : (i + n - 1) % n = prv n i := by
  unfold prv
  split
  · next e => subst e; rw [show 0 + n - 1 = n - 1 by omega, Nat.mod_eq_of_lt (by omega)]
  · rw [show i + n - 1 = (i - 1) + n by omega, Nat.add_mod_right, Nat.mod_eq_of_lt (by omega)]
theorem angleAt_cell {w : World} {b off : Nat} {xs : List Int} {k : Nat} (h : Ints w (some ⟨b, off, none⟩) xs) (hk : k < xs.length) : w.cell? ⟨b, off + k, none⟩ = some (.int .i64 (angleAt xs k)) := by
  obtain ⟨b', off', x, e, hb, HX, hc, _⟩ := h.at_ hk
  have e2 : (⟨b, off, none⟩ : Addr) = ⟨b', off', none⟩ := Option.some.inj e
  rw [angle_of HX.out]
  have : b = b' := congrArg Addr.block e2
  have : off = off' := congrArg Addr.off e2
  subst_vars
  exact hc
/-- what a crimp at i leaves -/
structure Crimped (xs : List Int) (s : ByteArray) (i : Nat) (xs' : List Int) (s' : ByteArray) : Prop where
  len : xs'.length = xs.length - 2
  angle : ∀ k, k < xs.length - 2 → angleAt xs' k = crimpX xs.length (angleAt xs) i k
  size : s'.size = xs.length - 2
  fold : ∀ k, k < xs.length - 2 → byteAt s' k = byteAt s (sig xs.length i k)
theorem crimped_first {n : Nat} {xs : List Int} {s : ByteArray} {i : Nat} (h4 : 4 ≤ n) (hn : xs.length = n) (hs : s.size = n) (i0 : i = 0) :
    Crimped xs s i ([angleAt xs (prv n i) + angleAt xs (nxt n i) - angleAt xs i] ++ (xs.drop 2).take (n - 3)) (s.extract (n - 1) s.size ++ s.extract 2 (n - 1)) := by
  subst i0
  refine ⟨by rw [hn, List.length_append, List.length_take, List.length_drop, hn]; simp; omega, fun k hk => ?_, by rw [hn, ByteArray.size_append, ByteArray.size_extract, ByteArray.size_extract, hs]; omega, fun k hk => ?_⟩
  · rw [hn] at hk ⊢
    rw [angleAt_append]
    have l1 : ([angleAt xs (prv n 0) + angleAt xs (nxt n 0) - angleAt xs 0] : List Int).length = 1 := rfl
    rw [l1]
    unfold crimpX
    by_cases hk0 : k = 0
    · subst hk0
      rw [if_pos (by omega), angleAt_one, if_pos (by unfold sig prv; simp)]
      omega
    · rw [if_neg (by omega), angleAt_take _ _ _ (by omega), angleAt_drop, if_neg (by unfold sig prv; simp [hk0]; omega)]
      unfold sig
      rw [if_pos rfl, if_neg hk0]
      congr 1; omega
  · rw [hn] at hk ⊢
    rw [byteAt_append]
    have l1 : (s.extract (n - 1) s.size).size = 1 := by rw [ByteArray.size_extract, hs]; omega
    rw [l1]
    unfold sig
    rw [if_pos rfl]
    by_cases hk0 : k = 0
    · subst hk0
      rw [if_pos (by omega), byteAt_extract _ _ _ _ (by omega), if_pos rfl]; rfl
    · rw [if_neg (by omega), byteAt_extract _ _ _ _ (by omega), if_neg hk0]
      congr 1; omega
theorem crimped_last {n : Nat} {xs : List Int} {s : ByteArray} {i : Nat} (h4 : 4 ≤ n) (hn : xs.length = n) (hs : s.size = n) (i0 : ¬ i = 0) (i1 : i = n - 1) :
    Crimped xs s i ([angleAt xs (prv n i) + angleAt xs (nxt n i) - angleAt xs i] ++ (xs.drop 1).take (n - 3)) (s.extract (n - 2) (n - 1) ++ s.extract 1 (n - 2)) := by
  refine ⟨by rw [hn, List.length_append, List.length_take, List.length_drop, hn]; simp; omega, fun k hk => ?_, by rw [hn, ByteArray.size_append, ByteArray.size_extract, ByteArray.size_extract, hs]; omega, fun k hk => ?_⟩
  · rw [hn] at hk ⊢
    rw [angleAt_append]
    have l1 : ([angleAt xs (prv n i) + angleAt xs (nxt n i) - angleAt xs i] : List Int).length = 1 := rfl
    rw [l1]
    have hp : prv n i = n - 2 := by unfold prv; rw [if_neg i0]; omega
    have hs1 : sig n i k = if k = 0 then n - 2 else k := by unfold sig; rw [if_neg i0, if_pos i1]
    unfold crimpX
    rw [hs1]
    by_cases hk0 : k = 0
    · subst hk0
      rw [if_pos (by omega), angleAt_one, if_pos rfl, if_pos hp.symm]
      omega
    · rw [if_neg (by omega), angleAt_take _ _ _ (by omega), angleAt_drop, if_neg hk0, if_neg (by omega)]
      congr 1; omega
  · rw [hn] at hk ⊢
    rw [byteAt_append]
    have l1 : (s.extract (n - 2) (n - 1)).size = 1 := by rw [ByteArray.size_extract, hs]; omega
    rw [l1]
    unfold sig
    rw [if_neg i0, if_pos i1]
    by_cases hk0 : k = 0
    · subst hk0
      rw [if_pos (by omega), byteAt_extract _ _ _ _ (by omega), if_pos rfl]; rfl
    · rw [if_neg (by omega), byteAt_extract _ _ _ _ (by omega), if_neg hk0]
      congr 1; omega
theorem crimped_mid {n : Nat} {xs : List Int} {s : ByteArray} {i : Nat} (h4 : 4 ≤ n) (hn : xs.length = n) (hs : s.size = n) (hi : i < n) (i0 : ¬ i = 0) (i1 : ¬ i = n - 1) :
    Crimped xs s i (xs.take (i - 1) ++ [angleAt xs (prv n i) + angleAt xs (nxt n i) - angleAt xs i] ++ (xs.drop (i + 2)).take (n - (i + 2))) (s.extract 0 i ++ s.extract (i + 2) s.size) := by
  refine ⟨by simp [hn]; omega, fun k hk => ?_, by rw [hn, ByteArray.size_append, ByteArray.size_extract, ByteArray.size_extract, hs]; omega, fun k hk => ?_⟩
  · rw [hn] at hk ⊢
    rw [List.append_assoc, angleAt_append, angleAt_append]
    have l1 : ([angleAt xs (prv n i) + angleAt xs (nxt n i) - angleAt xs i] : List Int).length = 1 := rfl
    have l2 : (xs.take (i - 1)).length = i - 1 := by rw [List.length_take, hn]; omega
    rw [l1, l2]
    have hp : prv n i = i - 1 := by unfold prv; rw [if_neg i0]
    have hs1 : sig n i k = if k < i then k else k + 2 := by unfold sig; rw [if_neg i0, if_neg i1]
    unfold crimpX
    rw [hs1]
    by_cases a : k < i - 1
    · have a2 : k < i := by omega
      rw [if_pos a, angleAt_take _ _ _ a, if_pos a2, if_neg (by omega)]
    · rw [if_neg a]
      by_cases b : k = i - 1
      · have a2 : k < i := by omega
        rw [if_pos (by omega), if_pos a2, if_pos (by omega), b, Nat.sub_self, angleAt_one]
        omega
      · have a2 : ¬ k < i := by omega
        rw [if_neg (by omega), if_neg a2, if_neg (by omega), angleAt_take _ _ _ (by omega), angleAt_drop]
        congr 1; omega
  · rw [hn] at hk ⊢
    rw [byteAt_append]
    have l1 : (s.extract 0 i).size = i := by rw [ByteArray.size_extract, hs]; omega
    rw [l1]
    unfold sig
    rw [if_neg i0, if_neg i1]
    by_cases a : k < i
    · rw [if_pos a, if_pos a, byteAt_extract _ _ _ _ (by omega), Nat.zero_add]
    · rw [if_neg a, if_neg a, byteAt_extract _ _ _ _ (by omega)]
      congr 1; omega
set_option maxHeartbeats 2000000 in
set_option maxRecDepth 100000 in
theorem spec_l1Crimp_n (b off cap n : Nat) (xs : List Int) (s : ByteArray) (i : Nat) (w : World) (h : Ints w (some ⟨b, off, none⟩) xs) (HN : Hid (xs.length = n)) (h4 : 4 ≤ n) (hl : n ≤ 100) (hcap : n ≤ cap) (hcm : cap ≤ maxLen)
    (HS : Hid (s.size = n)) (hi : i < n) (HX : Hid (∀ k, k < n → -1000000 ≤ angleAt xs k ∧ angleAt xs k ≤ 1000000)) :
    Calls Tryz.prog 116 #[.slice (some ⟨b, off, none⟩) n cap, .string s, .int .i64 i] w fun e w' => ∃ v xs' s', e = .returned (.tuple #[v, .string s']) ∧ Own w' w.heap.size v xs' ∧ Crimped xs s i xs' s' ∧ Below w.heap.size w w' := by
  unfold maxLen at hcm
  obtain ⟨p, hp⟩ : ∃ p, p = prv n i := ⟨_, rfl⟩
  obtain ⟨q, hq⟩ : ∃ q, q = nxt n i := ⟨_, rfl⟩
  have hpn : p < n := by rw [hp]; exact prv_lt hi
  have hqn : q < n := by rw [hq]; exact nxt_lt hi
  have c1 := angleAt_cell h (k := p) (by rw [HN.out]; exact hpn)
  have c2 := angleAt_cell h (k := q) (by rw [HN.out]; exact hqn)
  have c3 := angleAt_cell h (k := i) (by rw [HN.out]; exact hi)
  obtain ⟨x1, x2⟩ := HX.out p hpn
  obtain ⟨x3, x4⟩ := HX.out q hqn
  obtain ⟨x5, x6⟩ := HX.out i hi
  have w1 : IntKind.i64.wrap ((i : Int) + (n : Int)) = (i : Int) + n := IntWalk.i64_in _ (by omega)
  have w2 : IntKind.i64.wrap ((i : Int) + (n : Int) - 1) = (i : Int) + n - 1 := IntWalk.i64_in _ (by omega)
  have w3 : ((i : Int) + (n : Int) - 1).tmod (n : Int) = (p : Int) := by
    rw [show ((i : Int) + (n : Int) - 1) = ((i + n - 1 : Nat) : Int) by omega, Int.tmod_eq_emod_of_nonneg (by omega), hp, ← mod_prv hi]; rfl
  have w4 : IntKind.i64.wrap (p : Int) = (p : Int) := IntWalk.i64_in _ (by omega)
  have w5 : IntKind.i64.wrap ((i : Int) + 1) = (i : Int) + 1 := IntWalk.i64_in _ (by omega)
  have w6 : ((i : Int) + 1).tmod (n : Int) = (q : Int) := by
    rw [Int.tmod_eq_emod_of_nonneg (by omega), hq, ← mod_nxt hi]; rfl
  have w7 : IntKind.i64.wrap (q : Int) = (q : Int) := IntWalk.i64_in _ (by omega)
  have w8 : ((n : Int) == 0) = false := by rw [beq_eq_false_iff_ne]; omega
  have w9 : (0 : Int) ≤ (q : Int) := by omega
  have w10 : (q : Int) < (n : Int) := by omega
  have w11 : (0 : Int) ≤ (p : Int) := by omega
  have w12 : (p : Int) < (n : Int) := by omega
  have w13 : (0 : Int) ≤ (i : Int) := by omega
  have w14 : (i : Int) < (n : Int) := by omega
  have HP := Lib.hid hp
  have HQ := Lib.hid hq
  clear hp hq
  go_enter Tryz.func116, Tryz.ntmps116
  go_wp2_with fail
  go_quiet (fail)
  clear w1 w2 w3 w4 w5 w6 w7 w8 w9 w10 w11 w12 w13 w14 c1 c2 c3
  obtain ⟨z, hz⟩ : ∃ z, z = angleAt xs p + angleAt xs q - angleAt xs i := ⟨_, rfl⟩
  rw [← hz]
  have z1 : -4000000 ≤ z ∧ z ≤ 4000000 := by omega
  have HZ := Lib.hid hz
  clear hz x1 x2 x3 x4 x5 x6 hpn hqn
  by_cases i0 : i = 0
  · have hi0 : ((i : Int) == 0) = true := by simp [i0]
    have I0 := Lib.hid i0
    clear i0
    go_upto_region 5 with (fail)
    have b1 : IntKind.i64.wrap ((n : Int) - 1) = (n : Int) - 1 := IntWalk.i64_in _ (by omega)
    have b2 : (2 : Int) ≤ (n : Int) - 1 := by omega
    have b3 : (n : Int) - 1 ≤ (cap : Int) := by omega
    have b4 : (cap : Int) ≠ 2 := by omega
    have b5 : cap ≠ 2 := by omega
    have b6 : (n : Int) - 1 ≤ (s.size : Int) := by have := HS.out; omega
    have b7 : (0 : Int) ≤ (n : Int) - 1 := by omega
    have b8 : ((n : Int) - 1).toNat = n - 1 := by omega
    have b9 : n - 1 ≤ s.size := by have := HS.out; omega
    have b10 : (1 : Int) ≤ (n : Int) := by omega
    have b11 : (n : Int) ≤ (s.size : Int) + 1 := by have := HS.out; omega
    have b12 : ∀ W, (Op.stringOp .add (s.extract (n - 1) s.size) (s.extract 2 (n - 1))).run Tryz.prog W = .ok (.string (s.extract (n - 1) s.size ++ s.extract 2 (n - 1))) W := fun W =>
      run_string_add_sum W _ _ (by have := HS.out; simp only [ByteArray.size_extract]; omega)
    have hlen : ((xs.drop 2).take (n - 3)).length = n - 1 - 2 := by rw [List.length_take, List.length_drop, HN.out]; omega
    have HL := Lib.hid hlen
    have HC := Lib.hid (h.cut 2 (n - 3))
    clear hlen
    go_region_held3 (fun w' => True) (trivial) ((refine step_app (by rfl) _ _ (by rfl) w.heap.size _ [z] ((xs.drop 2).take (n - 3)) _ _ (by rfl) (n - 1 - 2) HL.out (by rfl) (own_one (w.drewN _) z (Nat.le_refl _)) (Ints.alloc (w := w.drewN _) HC.out _) (Nat.le_of_lt (by simp)) (by rw [HL.out]; simp; omega) ?_; intro v' w1 hown hgrow hb1))
    have hz : z = angleAt xs (prv n i) + angleAt xs (nxt n i) - angleAt xs i := by rw [HZ.out, HP.out, HQ.out]
    go_wp2_with fail
    go_ret2
    refine ⟨_, _, _, rfl, hown, ?_, ((below_drewN (Below.refl _ _) _).alloc (Nat.le_refl _) _).trans hb1⟩
    rw [hz]
    exact crimped_first h4 HN.out HS.out I0.out
  · have hi0 : ((i : Int) == 0) = false := by simp [i0]
    have I0 := Lib.hid i0
    clear i0
    by_cases i1 : i = n - 1
    · have hi1 : ((i : Int) == (n : Int) - 1) = true := by simp; omega
      have I1 := Lib.hid i1
      clear i1
      go_upto_region 7 with (fail)
      have b1 : IntKind.i64.wrap ((n : Int) - 1) = (n : Int) - 1 := IntWalk.i64_in _ (by omega)
      have b1' : IntKind.i64.wrap ((n : Int) - 2) = (n : Int) - 2 := IntWalk.i64_in _ (by omega)
      have b2 : (1 : Int) ≤ (n : Int) - 2 := by omega
      have b2' : (3 : Int) ≤ (n : Int) := by omega
      have b3 : (n : Int) - 2 ≤ (cap : Int) := by omega
      have b3' : (n : Int) ≤ (cap : Int) + 2 := by omega
      have b5 : cap ≠ 1 := by omega
      have b6 : (n : Int) ≤ (s.size : Int) + 1 := by have := HS.out; omega
      have b6' : (n : Int) ≤ (s.size : Int) + 2 := by have := HS.out; omega
      have b7 : (0 : Int) ≤ (n : Int) - 2 := by omega
      have b7' : (n : Int) - 1 ≤ (s.size : Int) := by have := HS.out; omega
      have b7'' : (n : Int) - 2 ≤ (s.size : Int) := by have := HS.out; omega
      have b8 : ((n : Int) - 1).toNat = n - 1 := by omega
      have b8' : ((n : Int) - 2).toNat = n - 2 := by omega
      have b9 : (n : Int) - 2 ≤ (n : Int) - 1 := by omega
      have b10 : (1 : Int) ≤ (n : Int) := by omega
      have b11 : (2 : Int) ≤ (n : Int) := by omega
      have b12 : ∀ W, (Op.stringOp .add (s.extract (n - 2) (n - 1)) (s.extract 1 (n - 2))).run Tryz.prog W = .ok (.string (s.extract (n - 2) (n - 1) ++ s.extract 1 (n - 2))) W := fun W =>
        run_string_add_sum W _ _ (by have := HS.out; simp only [ByteArray.size_extract]; omega)
      have hlen : ((xs.drop 1).take (n - 3)).length = n - 2 - 1 := by rw [List.length_take, List.length_drop, HN.out]; omega
      have HL := Lib.hid hlen
      have HC := Lib.hid (h.cut 1 (n - 3))
      clear hlen
      go_region_held3 (fun w' => True) (trivial) ((refine step_app (by rfl) _ _ (by rfl) w.heap.size _ [z] ((xs.drop 1).take (n - 3)) _ _ (by rfl) (n - 2 - 1) HL.out (by rfl) (own_one (w.drewN _) z (Nat.le_refl _)) (Ints.alloc (w := w.drewN _) HC.out _) (Nat.le_of_lt (by simp)) (by rw [HL.out]; simp; omega) ?_; intro v' w1 hown hgrow hb1))
      have hz : z = angleAt xs (prv n i) + angleAt xs (nxt n i) - angleAt xs i := by rw [HZ.out, HP.out, HQ.out]
      go_wp2_with fail
      go_ret2
      refine ⟨_, _, _, rfl, hown, ?_, ((below_drewN (Below.refl _ _) _).alloc (Nat.le_refl _) _).trans hb1⟩
      rw [hz]
      exact crimped_last h4 HN.out HS.out I0.out I1.out
    · have hi1 : ((i : Int) == (n : Int) - 1) = false := by simp; omega
      have i3 : i + 1 < n := by omega
      have I1 := Lib.hid i1
      clear i1
      have p1 : 1 ≤ i := by have := I0.out; omega
      have hT : Ints w (some ⟨b, off, none⟩) (xs.take (i - 1)) := by have := h.cut 0 (i - 1); simpa using this
      have hTl : (xs.take (i - 1)).length = i - 1 := by rw [List.length_take, HN.out]; omega
      have HL1 := Lib.hid hTl
      have HT := Lib.hid hT
      clear hTl hT
      have g1 : (1 : Int) ≤ (i : Int) := by omega
      have g2 : (i : Int) - 1 ≤ (cap : Int) := by omega
      go_upto_region 8 with (fail)
      go_upto_region 9 with (at_builtin; go_loud (refine wpList_app (by rfl) _ _ (by rfl) w.heap.size _ [] (xs.take (i - 1)) _ _ (by rfl) (i - 1) HL1.out (by rfl) (own_empty (w.drewN nq) (Nat.le_refl _)) (Ints.alloc (w := w.drewN nq) HT.out _) (Nat.le_of_lt (by simp)) (by rw [HL1.out]; simp; omega) ?_))
      intro v1 w1 hown1 hgr1 hb1
      have hB1 := ((below_drewN (Below.refl w.heap.size w) nq).alloc (Nat.le_refl _) (.cells #[] 3)).trans hb1
      have hz1 := hB1.size
      have hn1 : (xs.take (i - 1)).length ≤ 1000 := by rw [HL1.out]; omega
      clear hgr1 hb1
      go_upto_region 9 with (fail)
      go_upto_region 10 with (at_builtin; go_loud (refine wpList_push (W := w1) rfl _ _ rfl w.heap.size _ _ z (by rfl) (by rfl) hown1 hz1 (by omega) ?_))
      intro v2 w2 hown2 hgr2 hb2
      have hB2 := hB1.trans hb2
      have hz2 := hB2.size
      have hn2 : (xs.take (i - 1) ++ [z]).length ≤ 1001 := by rw [List.length_append]; simp at hn1 ⊢; omega
      have HI2 := Lib.hid (h.below hB2)
      clear hgr2 hb2 hown1 hz1 hB1
      go_upto_region 10 with (fail)
      have b1 : IntKind.i64.wrap ((i : Int) + 2) = (i : Int) + 2 := IntWalk.i64_in _ (by omega)
      have b2 : (i : Int) + 2 ≤ (n : Int) := by omega
      have b3 : (0 : Int) ≤ (i : Int) + 2 := by omega
      have b4 : (n : Int) ≤ (cap : Int) := by omega
      have b5 : (i : Int) ≤ (s.size : Int) := by have := HS.out; omega
      have b6 : (i : Int) + 2 ≤ (s.size : Int) := by have := HS.out; omega
      have b7 : (0 : Int) ≤ (i : Int) := by omega
      have b8 : ((i : Int) + 2).toNat = i + 2 := by omega
      have b12 : ∀ W, (Op.stringOp .add (s.extract 0 i) (s.extract (i + 2) s.size)).run Tryz.prog W = .ok (.string (s.extract 0 i ++ s.extract (i + 2) s.size)) W := fun W =>
        run_string_add_sum W _ _ (by have := HS.out; simp only [ByteArray.size_extract]; omega)
      have hlen : ((xs.drop (i + 2)).take (n - (i + 2))).length = n - (i + 2) := by rw [List.length_take, List.length_drop, HN.out]; omega
      have HL := Lib.hid hlen
      clear hlen
      have hz : z = angleAt xs (prv n i) + angleAt xs (nxt n i) - angleAt xs i := by rw [HZ.out, HP.out, HQ.out]
      have HZ2 := Lib.hid hz
      clear hz
      by_cases hc : cap = i + 2
      · have hnil : (xs.drop (i + 2)).take (n - (i + 2)) = [] := by apply List.eq_nil_of_length_eq_zero; rw [HL.out]; omega
        have HC := Lib.hid (show ∀ A, Ints w2 A ((xs.drop (i + 2)).take (n - (i + 2))) from fun A => by rw [hnil]; exact Ints.nil _ _)
        clear hnil
        go_region_held3 (fun w' => True) (trivial) ((refine step_app (by rfl) _ _ (by rfl) w.heap.size _ _ ((xs.drop (i + 2)).take (n - (i + 2))) _ _ (by rfl) (n - (i + 2)) HL.out (by rfl) (show Own (w2.drewN _) w.heap.size v2 _ from hown2) (HC.out _) hz2 (by rw [HL.out]; omega) ?_; intro v' w3 hown hgrow hb3))
        go_wp2_with fail
        go_ret2
        refine ⟨_, _, _, rfl, hown, ?_, (below_drewN hB2 _).trans hb3⟩
        rw [HZ2.out]
        exact crimped_mid h4 HN.out HS.out hi I0.out I1.out
      · have b13 : ¬ cap = i + 2 := hc
        have HC := Lib.hid (HI2.out.cut (i + 2) (n - (i + 2)))
        go_region_held3 (fun w' => True) (trivial) ((refine step_app (by rfl) _ _ (by rfl) w.heap.size _ _ ((xs.drop (i + 2)).take (n - (i + 2))) _ _ (by rfl) (n - (i + 2)) HL.out (by rfl) (show Own (w2.drewN _) w.heap.size v2 _ from hown2) (show Ints (w2.drewN _) _ _ from HC.out) hz2 (by rw [HL.out]; omega) ?_; intro v' w3 hown hgrow hb3))
        go_wp2_with fail
        go_ret2
        refine ⟨_, _, _, rfl, hown, ?_, (below_drewN hB2 _).trans hb3⟩
        rw [HZ2.out]
        exact crimped_mid h4 HN.out HS.out hi I0.out I1.out
end Go.Proofs.YtkdlipbegdiaaaaGreatDoor
namespace Go.Proofs.YtkdlipbegdiaaaaGreatDoor
open Go.RowKit
section
variable {n : Nat} {x x' : Nat → Int} {f f' : Nat → Nat}
theorem allowedB_congr (hx : ∀ k, k < n → x k = x' k) (hf : ∀ k, k < n → f k = f' k) {i : Nat} (hi : i < n) : allowedB n x f i = allowedB n x' f' i := by
  rw [Bool.eq_iff_iff, allowed_iff hi, allowed_iff hi, hf i hi, hf _ (nxt_lt hi), hx i hi]
  constructor
  · rintro ⟨a, b, c⟩; exact ⟨a, b, fun m hm => by rw [← hx m hm]; exact c m hm⟩
  · rintro ⟨a, b, c⟩; exact ⟨a, b, fun m hm => by rw [hx m hm]; exact c m hm⟩
theorem firstC_congr (hx : ∀ k, k < n → x k = x' k) (hf : ∀ k, k < n → f k = f' k) : firstC n x f = firstC n x' f' := by
  unfold firstC
  rw [List.filter_congr (fun i hi => allowedB_congr hx hf (List.mem_range.1 hi))]
theorem crimpX_congr (hx : ∀ k, k < n → x k = x' k) (hn : 4 ≤ n) {i : Nat} (hi : i < n) {k : Nat} (hk : k < n - 2) : crimpX n x i k = crimpX n x' i k := by
  unfold crimpX
  rw [hx _ (prv_lt hi), hx _ (nxt_lt hi), hx _ hi, hx _ (sig_lt hn hi hk).1]
end
theorem foldsN_congr (g : Nat) : ∀ {n : Nat} {x x' : Nat → Int} {f f' : Nat → Nat}, (∀ k, k < n → x k = x' k) → (∀ k, k < n → f k = f' k) → foldsN g n x f = foldsN g n x' f' := by
  induction g with
  | zero => intro n x x' f f' _ _; rfl
  | succ g ih =>
    intro n x x' f f' hx hf
    rw [foldsN, foldsN, firstC_congr hx hf]
    cases h : firstC n x' f' with
    | none =>
      dsimp only
      by_cases h2 : n = 2
      · subst h2
        rw [hx 0 (by omega), hx 1 (by omega), hf 0 (by omega), hf 1 (by omega)]
      · simp [h2]
    | some i =>
      have hh := crimps_some h
      exact ih (fun k hk => crimpX_congr hx hh.2.2 hh.2.1 hk) (fun k hk => hf _ (sig_lt hh.2.2 hh.2.1 hk).1)
set_option maxHeartbeats 2000000 in
set_option maxRecDepth 100000 in
theorem spec_l1Folds (A : Option Addr) (cap : Nat) (xs : List Int) (s : ByteArray) (w : World) (h : Ints w A xs) (h2 : 2 ≤ xs.length) (hl : xs.length ≤ 10) (hcap : xs.length ≤ cap) (hcm : cap ≤ maxLen)
    (hs : s.size = xs.length) (hx : ∀ k, k < xs.length → -1000 ≤ angleAt xs k ∧ angleAt xs k ≤ 1000) :
    Calls Tryz.prog 93 #[.slice A xs.length cap, .string s] w fun e w' => e = .returned (.bool (ffB xs s)) ∧ Below w.heap.size w w' := by
  go_enter Tryz.func93, Tryz.ntmps93
  go_wp2_with fail
  refine (spec_l1Crimps A cap xs s w h (by omega) hs).mono ?_
  rintro e w0 ⟨v0, rfl, hown0, hb0⟩
  have HH := Lib.hid (show ffB xs s = foldsN 10 xs.length (angleAt xs) (byteAt s) from rfl)
  go_wp2_with fail
  go_loopg [0, 1, 5] 10 (fun g s0 s1 s5 wr => ∃ ys t A c B M, s0 = .slice A ys.length c ∧ s1 = .string t ∧ Ints wr A ys ∧ ys.length ≤ c ∧ c ≤ maxLen ∧ Hid (t.size = ys.length) ∧ 2 ≤ ys.length ∧ ys.length ≤ 10 ∧ ys.length ≤ 2 * g ∧
    Own wr B s5 (crimpsTo ys.length (angleAt ys) (byteAt t) ys.length) ∧ Below w.heap.size w wr ∧ (∀ k, k < ys.length → -M ≤ angleAt ys k ∧ angleAt ys k ≤ M) ∧ 0 ≤ M ∧ M * 3 ^ (ys.length / 2) ≤ 243000 ∧
    Hid (ffB xs s = foldsN g ys.length (angleAt ys) (byteAt t)))
  case atStart => exact ⟨xs, s, A, cap, _, 1000, rfl, rfl, h.below hb0, hcap, hcm, hs, h2, hl, by omega, hown0, hb0, hx, by omega, by
    have h3 : (3 : Int) ^ (xs.length / 2) ≤ 3 ^ 5 := by
      obtain h | h | h | h | h | h : xs.length / 2 = 0 ∨ xs.length / 2 = 1 ∨ xs.length / 2 = 2 ∨ xs.length / 2 = 3 ∨ xs.length / 2 = 4 ∨ xs.length / 2 = 5 := by omega
      all_goals rw [h]; decide
    omega, rfl⟩
  case round =>
    obtain ⟨ys, t, A, c, B, M, rfl, rfl, hI, hc1, hc2, HT, hy2, hy10, hg, hown, hbel, hM1, hM, hM2, H⟩ := hrel
    cases gk with
    | zero => omega
    | succ g =>
    cases hc : firstC ys.length (angleAt ys) (byteAt t) with
    | none =>
      rw [crimps_none hc] at hown
      have HC := Lib.hid hc
      clear hc
      obtain ⟨A5, c5, rfl, _, _, _⟩ := hown.form
      obtain ⟨b, off, _, rfl, _, _, _, _⟩ := hI.at_ (k := 0) (by omega)
      have a0 := angleAt_cell hI (k := 0) (by omega)
      have a1 := angleAt_cell hI (k := 1) (by omega)
      rw [Nat.add_zero] at a0
      have t0 : 0 < t.size := by have := HT.out; omega
      have t1 : 1 < t.size := by have := HT.out; omega
      have e0 := byteAt_eq t 0 t0
      have e1 := byteAt_eq t 1 t1
      by_cases z : ys.length = 2
      · have hz : ((ys.length : Int) == 2) = true := by simp; omega
        have Z := Lib.hid z
        clear z
        have l0 : 0 < ys.length := by omega
        have l1 : 1 < ys.length := by omega
        have l0' : (0 : Int) < (ys.length : Int) := by omega
        have l1' : (1 : Int) < (ys.length : Int) := by omega
        have t0' : (0 : Int) < (t.size : Int) := by omega
        have t1' : (1 : Int) < (t.size : Int) := by omega
        by_cases q1 : angleAt ys 0 = angleAt ys 1
        · have d1 : (angleAt ys 0 == angleAt ys 1) = true := by simp [q1]
          have Q1 := Lib.hid q1
          clear q1
          have HE := Lib.hid (And.intro e0 e1)
          clear e0 e1
          go_wp2_with fail
          go_quiet (fail)
          go_wp2_with fail
          go_ret
          exact ⟨ret_bool (by rw [H.out, foldsN, HC.out]; simp [Z.out, Q1.out, HE.out.1, HE.out.2, cast_beq]), below_drewN hbel _⟩
        · have d1 : (angleAt ys 0 == angleAt ys 1) = false := by simp [q1]
          have Q1 := Lib.hid q1
          clear q1 e0 e1
          go_wp2_with fail
          go_quiet (fail)
          go_wp2_with fail
          go_ret
          exact ⟨ret_bool (by rw [H.out, foldsN, HC.out]; simp [Q1.out]), below_drewN hbel _⟩
      · have hz : ((ys.length : Int) == 2) = false := by rw [beq_eq_false_iff_ne]; omega
        have Z := Lib.hid z
        clear z e0 e1
        go_wp2_with fail
        go_quiet (fail)
        go_wp2_with fail
        go_ret
        exact ⟨ret_bool (by rw [H.out, foldsN, HC.out]; simp [Z.out]), below_drewN hbel _⟩
    | some i =>
      obtain ⟨⟨r, hr⟩, hin, h4⟩ := crimps_some hc
      have HC := Lib.hid hc
      rw [hr] at hown
      clear hc hr
      obtain ⟨A5, c5, rfl, hI5, hcap5, _⟩ := hown.form
      obtain ⟨bb, off5, y, rfl, hbb, HY, hcell, _⟩ := hI5.at_ (k := 0) (by simp)
      have hy : y = (i : Int) := by have := HY.out; simp at this; exact this.symm
      subst hy
      rw [Nat.add_zero] at hcell
      rw [List.length_cons] at *
      clear hI5 hown HY
      have hpow : (3 : Int) ^ (ys.length / 2) = 3 * 3 ^ ((ys.length - 2) / 2) := by
        have : ys.length / 2 = (ys.length - 2) / 2 + 1 := by omega
        rw [this, Int.pow_succ]; omega
      have hpos : (1 : Int) ≤ 3 ^ (ys.length / 2) := by
        obtain h | h | h | h | h | h : ys.length / 2 = 0 ∨ ys.length / 2 = 1 ∨ ys.length / 2 = 2 ∨ ys.length / 2 = 3 ∨ ys.length / 2 = 4 ∨ ys.length / 2 = 5 := by omega
        all_goals rw [h]; decide
      have hMle : M ≤ 243000 := Int.le_trans (by simpa using Int.mul_le_mul_of_nonneg_left hpos hM) hM2
      have hpM : 3 * M * 3 ^ ((ys.length - 2) / 2) ≤ 243000 := by rw [hpow] at hM2; rw [Int.mul_comm 3 M, Int.mul_assoc]; exact hM2
      have HP := Lib.hid hpM
      clear hM2 hpow hpos hpM
      obtain ⟨b, off, _, rfl, _, _, _, _⟩ := hI.at_ (k := 0) (by omega)
      go_wp2_with fail
      refine (spec_l1Crimp_n b off c ys.length ys t i wr hI (Lib.hid rfl) h4 (by omega) hc1 hc2 HT hin (Lib.hid fun k hk => by have := hM1 k hk; omega)).mono ?_
      rintro e w1 ⟨v, ys', t', rfl, hown1, hcr, hb1⟩
      obtain ⟨A1, c1, rfl, hI1, hcc1, hcc2⟩ := hown1.form
      have hlen := hcr.len
      have hsz := hcr.size
      have hb1' := below_from hbel hb1 hbel.size
      have HCR := Lib.hid hcr
      have e2 : t'.size = ys'.length := by omega
      have E2 := Lib.hid e2
      have l2 : 2 ≤ ys'.length := by omega
      have l10 : ys'.length ≤ 10 := by omega
      have lg : ys'.length ≤ 2 * g := by omega
      have HLE := Lib.hid hlen
      clear hlen hsz hcr e2 hown1
      go_wp2_with fail
      refine (spec_l1Crimps A1 c1 ys' t' w1 hI1 (by omega) E2.out).mono ?_
      rintro e w2 ⟨v2, rfl, hown2, hb2⟩
      have hI2 := hI1.below hb2
      have hb2' := below_from hb1' hb2 hb1'.size
      go_wp2_with fail
      go_roundg g
      case measure => omega
      case rel =>
        have hlen := HLE.out
        have hcr := HCR.out
        refine ⟨ys', t', A1, c1, _, 3 * M, rfl, rfl, hI2, hcc1, hcc2, E2.out, l2, l10, lg, hown2, hb2', fun k hk => ?_, by omega, by rw [hlen]; exact HP.out, H.out.trans ?_⟩
        · rw [hcr.angle k (by omega)]
          exact crimpX_bd h4 hin hM1 hM k (by omega)
        · rw [foldsN, HC.out, hlen]
          exact foldsN_congr g (fun k hk => (hcr.angle k hk).symm) (fun k hk => (hcr.fold k hk).symm)
set_option maxHeartbeats 800000 in
theorem spec_VertexFolds (A : Option Addr) (cap : Nat) (xs : List Int) (s : ByteArray) (w : World) (h : Ints w A xs) (hl : xs.length ≤ maxLen) (hs : s.size ≤ maxLen) (hcap : xs.length ≤ cap) (hcm : cap ≤ maxLen) :
    Calls Tryz.prog 60 #[.slice A xs.length cap, .string s] w fun e w' => e = .returned (.bool (vfB xs s)) ∧ Below w.heap.size w w' := by
  cases hv : acB xs with
  | false =>
    have HV := Lib.hid hv; clear hv
    go_enter Tryz.func60, Tryz.ntmps60
    go_wp2_with fail
    refine (spec_AnglesCloses A cap xs w h hl).mono ?_
    rintro e w' ⟨rfl, rfl⟩
    rw [HV.out]
    go_wp2_with fail
    go_ret
    exact ⟨ret_bool (by unfold vfB; rw [HV.out]; rfl), Below.refl _ _⟩
  | true =>
    have hv2 := hv
    unfold acB at hv2
    rw [Bool.and_eq_true] at hv2
    obtain ⟨_, h2, h10, hx, _⟩ := avB_parts hv2.1
    have HV := Lib.hid hv; clear hv
    have HX := Lib.hid hx; clear hx hv2
    cases hf : fvB s.data.toList xs.length with
    | false =>
      have HF := Lib.hid hf; clear hf
      go_enter Tryz.func60, Tryz.ntmps60
      go_wp2_with fail
      refine (spec_AnglesCloses A cap xs w h hl).mono ?_
      rintro e w' ⟨rfl, rfl⟩
      rw [HV.out]
      go_wp2_with fail
      refine (spec_FoldsValid s xs.length w hs).mono ?_
      rintro e w' ⟨rfl, rfl⟩
      rw [HF.out]
      go_wp2_with fail
      go_ret
      exact ⟨ret_bool (by unfold vfB; rw [HV.out, HF.out]; rfl), Below.refl _ _⟩
    | true =>
      have hsz := fvB_size hf
      have HF := Lib.hid hf; clear hf
      have HS := Lib.hid hsz; clear hsz
      go_enter Tryz.func60, Tryz.ntmps60
      go_wp2_with fail
      refine (spec_AnglesCloses A cap xs w h hl).mono ?_
      rintro e w' ⟨rfl, rfl⟩
      rw [HV.out]
      go_wp2_with fail
      refine (spec_FoldsValid s xs.length w hs).mono ?_
      rintro e w' ⟨rfl, rfl⟩
      rw [HF.out]
      go_wp2_with fail
      refine (spec_l1Folds A cap xs s w h h2 h10 hcap hcm HS.out (fun k hk => by have := HX.out _ (angleAt_mem hk); omega)).mono ?_
      rintro e w2 ⟨rfl, hb2⟩
      go_wp2_with fail
      go_ret
      exact ⟨ret_bool (by unfold vfB; rw [HV.out, HF.out]; rfl), hb2⟩
end Go.Proofs.YtkdlipbegdiaaaaGreatDoor
namespace Go.Proofs.YtkdlipbegdiaaaaGreatDoor
open Go.RowKit
theorem Tryz.infoByte : (Tryz.prog.info? 5).map (fun i => (i.zero, i.size, i.bytes)) = some (some (.int .u8 0), 1, 1) := by kernel_rfl
/-- the bytes bs as values -/
def byteVals (bs : List UInt8) : List Value := bs.map fun c => Value.int .u8 (c.toNat : Int)
theorem byteVals_len (bs : List UInt8) : (byteVals bs).length = bs.length := by simp [byteVals]
/-- the bytes bs, in a row that the call itself made, from block B on -/
abbrev OwnB (w : World) (B : Nat) (v : Value) (bs : List UInt8) : Prop := w.ownsRow B 5 1 v bs.length (byteVals bs)
theorem wpList_pushB {ops : Array Oper} {rest : List Oper} {o : Oper} {a : Act} {Q : Exit → Act → World → Prop} {W : World} (hgd : o.guard = none) (s x : Operand)
    (ho : o.op = .call { callee := .builtin .append, args := #[s, x], argTypes := #[22, 22] })
    (B : Nat) (v : Value) (bs : List UInt8) (z : UInt8) (zi : Int) (hzi : (z.toNat : Int) = zi) (hs : a.eval s = v) (hx : a.eval x = .slice (some ⟨W.heap.size, 0, none⟩) 1 1) (hown : OwnB W B v bs) (hB : B ≤ W.heap.size) (hn : bs.length ≤ 1000000000000)
    (h : ∀ v' w', OwnB w' B v' (bs ++ [z]) → W.grownBy w' v.ownBlock → Below B W w' → wpList Tryz.prog ops Q rest (a.put o.dst v') w') :
    wpList Tryz.prog ops Q (o :: rest) a (W.alloc (.cells #[.int .u8 zi] 5)) := by
  subst hzi
  obtain ⟨i0, hi, hz0, hz1, hz2⟩ := info_parts Tryz.infoByte
  refine wpList_append_own _ hgd s x 22 ho B 5 i0 (.int .u8 0) 1 1 Tryz.underlying22 hi hz0 hz1 hz2 rfl (by decide) v _ _ hs (hown.alloc _) ⟨W.heap.size, 0, none⟩ 1 1 [.int .u8 (z.toNat : Int)] hx rfl ?_ ?_ ?_ ?_ ?_ ?_
  · intro j u hj
    match j, hj with
    | 0, hj => simp at hj; subst hj; simp [Addr.add]
  · intro u hu; simp at hu; subst hu; rfl
  · unfold maxLen; omega
  · omega
  · simp; omega
  · intro v' w' ho' hg _
    have hg' : W.grownBy w' v.ownBlock := ⟨hg.os, hg.tape, hg.output, Nat.le_trans (by simp) hg.size, fun k hk hne => (hg.block k (by simp; omega) hne).trans (Below.heap_alloc W _ k hk)⟩
    refine h v' w' (by simpa [OwnB, byteVals] using ho') hg' ((Below.refl _ _).grown hg' hB fun k hk => (hown.lt k hk).1)
/-- rows of different element types are different rows -/
theorem own_ne {w : World} {B B' : Nat} {e e' : TypeId} {z z' : Nat} {v v' : Value} {n n' : Nat} {xs xs' : List Value} (h : w.ownsRow B e z v n xs) (h' : w.ownsRow B' e' z' v' n' xs') (hne : e ≠ e') :
    v.ownBlock = none ∨ v.ownBlock ≠ v'.ownBlock := by
  rcases h.2 with ⟨rfl, _⟩ | ⟨g, cap, cur, rfl, _, hg, _⟩
  · exact Or.inl rfl
  · rcases h'.2 with ⟨rfl, _⟩ | ⟨g', cap', cur', rfl, _, hg', _⟩
    · exact Or.inr (by simp [Value.ownBlock])
    · refine Or.inr fun e0 => ?_
      have e1 : g = g' := by simpa [Value.ownBlock] using e0
      subst e1
      rw [hg] at hg'
      injection hg' with hg'
      injection hg' with _ ht
      exact hne ht
/-- the text that a row of bytes makes -/
theorem run_ownB_string {w : World} {B : Nat} {v : Value} {bs : List UInt8} (h : OwnB w B v bs) : (convert 22 9 v).run Tryz.prog w = .ok (.string ⟨bs.toArray⟩) w := by
  rcases h.2 with ⟨rfl, h0⟩ | ⟨g, cap, cur, rfl, hb, hg, hnc, hcm, _, htake⟩
  · have : bs = [] := List.eq_nil_of_length_eq_zero h0
    subst this
    rw [run_convert_bytes_nil w 22 5 Tryz.underlying22 Tryz.underlying5 0 0 9 Tryz.underlying9]
    rfl
  · refine run_convert_bytes_back w 22 9 5 ⟨g, 0, none⟩ cap bs Tryz.underlying22 Tryz.underlying5 Tryz.underlying9 fun j hj => ?_
    have := h.cells (g := g) rfl j (.int .u8 (bs[j].toNat : Int)) (by simp [byteVals, hj])
    exact this
end Go.Proofs.YtkdlipbegdiaaaaGreatDoor
