/- The reference's 'l1Crimp': the angles and folds behind a crimp. No condition but sizes. -/
import Derived.Test.YtngpeehjjcgmmaaSpecD
import Derived.Test.YtngpeehjjcgmmaaApp
import Derived.Test.YtngpeehjjcgmmaaText
namespace Go.Proofs.Ytngpeehjjcgmmaa
open Go.RowKit

theorem mod_prv {n i : Nat} (h : i < n) : (i + n - 1) % n = prv n i := by
  unfold prv
  split
  · next e => subst e; rw [show 0 + n - 1 = n - 1 by omega, Nat.mod_eq_of_lt (by omega)]
  · rw [show i + n - 1 = (i - 1) + n by omega, Nat.add_mod_right, Nat.mod_eq_of_lt (by omega)]

theorem angleAt_cell {w : World} {b off : Nat} {xs : List Int} {k : Nat} (h : Ints w (some ⟨b, off, none⟩) xs) (hk : k < xs.length) : w.cell? ⟨b, off + k, none⟩ = some (.int .i64 (angleAt xs k)) := by
  obtain ⟨b', off', x, e, hb, HX, hc, _⟩ := h.at_ hk
  have e2 : (⟨b, off, none⟩ : Addr) = ⟨b', off', none⟩ := Option.some.inj e
  rw [angle_of HX.out]
  have : b = b' := congrArg Addr.block e2
  have : off = off' := congrArg Addr.off e2
  subst_vars
  exact hc

/-- what a crimp at i leaves -/
structure Crimped (xs : List Int) (s : ByteArray) (i : Nat) (xs' : List Int) (s' : ByteArray) : Prop where
  len : xs'.length = xs.length - 2
  angle : ∀ k, k < xs.length - 2 → angleAt xs' k = crimpX xs.length (angleAt xs) i k
  size : s'.size = xs.length - 2
  fold : ∀ k, k < xs.length - 2 → byteAt s' k = byteAt s (sig xs.length i k)

theorem crimped_first {n : Nat} {xs : List Int} {s : ByteArray} {i : Nat} (h4 : 4 ≤ n) (hn : xs.length = n) (hs : s.size = n) (i0 : i = 0) :
    Crimped xs s i ([angleAt xs (prv n i) + angleAt xs (nxt n i) - angleAt xs i] ++ (xs.drop 2).take (n - 3)) (s.extract (n - 1) s.size ++ s.extract 2 (n - 1)) := by
  subst i0
  refine ⟨by rw [hn, List.length_append, List.length_take, List.length_drop, hn]; simp; omega, fun k hk => ?_, by rw [hn, ByteArray.size_append, ByteArray.size_extract, ByteArray.size_extract, hs]; omega, fun k hk => ?_⟩
  · rw [hn] at hk ⊢
    rw [angleAt_append]
    have l1 : ([angleAt xs (prv n 0) + angleAt xs (nxt n 0) - angleAt xs 0] : List Int).length = 1 := rfl
    rw [l1]
    unfold crimpX
    by_cases hk0 : k = 0
    · subst hk0
      rw [if_pos (by omega), angleAt_one, if_pos (by unfold sig prv; simp)]
      omega
    · rw [if_neg (by omega), angleAt_take _ _ _ (by omega), angleAt_drop, if_neg (by unfold sig prv; simp [hk0]; omega)]
      unfold sig
      rw [if_pos rfl, if_neg hk0]
      congr 1; omega
  · rw [hn] at hk ⊢
    rw [byteAt_append]
    have l1 : (s.extract (n - 1) s.size).size = 1 := by rw [ByteArray.size_extract, hs]; omega
    rw [l1]
    unfold sig
    rw [if_pos rfl]
    by_cases hk0 : k = 0
    · subst hk0
      rw [if_pos (by omega), byteAt_extract _ _ _ _ (by omega), if_pos rfl]; rfl
    · rw [if_neg (by omega), byteAt_extract _ _ _ _ (by omega), if_neg hk0]
      congr 1; omega
theorem crimped_last {n : Nat} {xs : List Int} {s : ByteArray} {i : Nat} (h4 : 4 ≤ n) (hn : xs.length = n) (hs : s.size = n) (i0 : ¬ i = 0) (i1 : i = n - 1) :
    Crimped xs s i ([angleAt xs (prv n i) + angleAt xs (nxt n i) - angleAt xs i] ++ (xs.drop 1).take (n - 3)) (s.extract (n - 2) (n - 1) ++ s.extract 1 (n - 2)) := by
  refine ⟨by rw [hn, List.length_append, List.length_take, List.length_drop, hn]; simp; omega, fun k hk => ?_, by rw [hn, ByteArray.size_append, ByteArray.size_extract, ByteArray.size_extract, hs]; omega, fun k hk => ?_⟩
  · rw [hn] at hk ⊢
    rw [angleAt_append]
    have l1 : ([angleAt xs (prv n i) + angleAt xs (nxt n i) - angleAt xs i] : List Int).length = 1 := rfl
    rw [l1]
    have hp : prv n i = n - 2 := by unfold prv; rw [if_neg i0]; omega
    have hs1 : sig n i k = if k = 0 then n - 2 else k := by unfold sig; rw [if_neg i0, if_pos i1]
    unfold crimpX
    rw [hs1]
    by_cases hk0 : k = 0
    · subst hk0
      rw [if_pos (by omega), angleAt_one, if_pos rfl, if_pos hp.symm]
      omega
    · rw [if_neg (by omega), angleAt_take _ _ _ (by omega), angleAt_drop, if_neg hk0, if_neg (by omega)]
      congr 1; omega
  · rw [hn] at hk ⊢
    rw [byteAt_append]
    have l1 : (s.extract (n - 2) (n - 1)).size = 1 := by rw [ByteArray.size_extract, hs]; omega
    rw [l1]
    unfold sig
    rw [if_neg i0, if_pos i1]
    by_cases hk0 : k = 0
    · subst hk0
      rw [if_pos (by omega), byteAt_extract _ _ _ _ (by omega), if_pos rfl]; rfl
    · rw [if_neg (by omega), byteAt_extract _ _ _ _ (by omega), if_neg hk0]
      congr 1; omega
theorem crimped_mid {n : Nat} {xs : List Int} {s : ByteArray} {i : Nat} (h4 : 4 ≤ n) (hn : xs.length = n) (hs : s.size = n) (hi : i < n) (i0 : ¬ i = 0) (i1 : ¬ i = n - 1) :
    Crimped xs s i (xs.take (i - 1) ++ [angleAt xs (prv n i) + angleAt xs (nxt n i) - angleAt xs i] ++ (xs.drop (i + 2)).take (n - (i + 2))) (s.extract 0 i ++ s.extract (i + 2) s.size) := by
  refine ⟨by simp [hn]; omega, fun k hk => ?_, by rw [hn, ByteArray.size_append, ByteArray.size_extract, ByteArray.size_extract, hs]; omega, fun k hk => ?_⟩
  · rw [hn] at hk ⊢
    rw [List.append_assoc, angleAt_append, angleAt_append]
    have l1 : ([angleAt xs (prv n i) + angleAt xs (nxt n i) - angleAt xs i] : List Int).length = 1 := rfl
    have l2 : (xs.take (i - 1)).length = i - 1 := by rw [List.length_take, hn]; omega
    rw [l1, l2]
    have hp : prv n i = i - 1 := by unfold prv; rw [if_neg i0]
    have hs1 : sig n i k = if k < i then k else k + 2 := by unfold sig; rw [if_neg i0, if_neg i1]
    unfold crimpX
    rw [hs1]
    by_cases a : k < i - 1
    · have a2 : k < i := by omega
      rw [if_pos a, angleAt_take _ _ _ a, if_pos a2, if_neg (by omega)]
    · rw [if_neg a]
      by_cases b : k = i - 1
      · have a2 : k < i := by omega
        rw [if_pos (by omega), if_pos a2, if_pos (by omega), b, Nat.sub_self, angleAt_one]
        omega
      · have a2 : ¬ k < i := by omega
        rw [if_neg (by omega), if_neg a2, if_neg (by omega), angleAt_take _ _ _ (by omega), angleAt_drop]
        congr 1; omega
  · rw [hn] at hk ⊢
    rw [byteAt_append]
    have l1 : (s.extract 0 i).size = i := by rw [ByteArray.size_extract, hs]; omega
    rw [l1]
    unfold sig
    rw [if_neg i0, if_neg i1]
    by_cases a : k < i
    · rw [if_pos a, if_pos a, byteAt_extract _ _ _ _ (by omega), Nat.zero_add]
    · rw [if_neg a, if_neg a, byteAt_extract _ _ _ _ (by omega)]
      congr 1; omega

set_option maxHeartbeats 2000000 in
set_option maxRecDepth 100000 in
theorem spec_l1Crimp_n (b off cap n : Nat) (xs : List Int) (s : ByteArray) (i : Nat) (w : World) (h : Ints w (some ⟨b, off, none⟩) xs) (HN : Hid (xs.length = n)) (h4 : 4 ≤ n) (hl : n ≤ 100) (hcap : n ≤ cap) (hcm : cap ≤ maxLen)
    (HS : Hid (s.size = n)) (hi : i < n) (HX : Hid (∀ k, k < n → -1000000 ≤ angleAt xs k ∧ angleAt xs k ≤ 1000000)) :
    Calls Try.prog 47 #[.slice (some ⟨b, off, none⟩) n cap, .string s, .int .i64 i] w fun e w' => ∃ v xs' s', e = .returned (.tuple #[v, .string s']) ∧ Own w' w.heap.size v xs' ∧ Crimped xs s i xs' s' ∧ Below w.heap.size w w' := by
  unfold maxLen at hcm
  obtain ⟨p, hp⟩ : ∃ p, p = prv n i := ⟨_, rfl⟩
  obtain ⟨q, hq⟩ : ∃ q, q = nxt n i := ⟨_, rfl⟩
  have hpn : p < n := by rw [hp]; exact prv_lt hi
  have hqn : q < n := by rw [hq]; exact nxt_lt hi
  have c1 := angleAt_cell h (k := p) (by rw [HN.out]; exact hpn)
  have c2 := angleAt_cell h (k := q) (by rw [HN.out]; exact hqn)
  have c3 := angleAt_cell h (k := i) (by rw [HN.out]; exact hi)
  obtain ⟨x1, x2⟩ := HX.out p hpn
  obtain ⟨x3, x4⟩ := HX.out q hqn
  obtain ⟨x5, x6⟩ := HX.out i hi
  have w1 : IntKind.i64.wrap ((i : Int) + (n : Int)) = (i : Int) + n := IntWalk.i64_in _ (by omega)
  have w2 : IntKind.i64.wrap ((i : Int) + (n : Int) - 1) = (i : Int) + n - 1 := IntWalk.i64_in _ (by omega)
  have w3 : ((i : Int) + (n : Int) - 1).tmod (n : Int) = (p : Int) := by
    rw [show ((i : Int) + (n : Int) - 1) = ((i + n - 1 : Nat) : Int) by omega, Int.tmod_eq_emod_of_nonneg (by omega), hp, ← mod_prv hi]; rfl
  have w4 : IntKind.i64.wrap (p : Int) = (p : Int) := IntWalk.i64_in _ (by omega)
  have w5 : IntKind.i64.wrap ((i : Int) + 1) = (i : Int) + 1 := IntWalk.i64_in _ (by omega)
  have w6 : ((i : Int) + 1).tmod (n : Int) = (q : Int) := by
    rw [Int.tmod_eq_emod_of_nonneg (by omega), hq, ← mod_nxt hi]; rfl
  have w7 : IntKind.i64.wrap (q : Int) = (q : Int) := IntWalk.i64_in _ (by omega)
  have w8 : ((n : Int) == 0) = false := by rw [beq_eq_false_iff_ne]; omega
  have w9 : (0 : Int) ≤ (q : Int) := by omega
  have w10 : (q : Int) < (n : Int) := by omega
  have w11 : (0 : Int) ≤ (p : Int) := by omega
  have w12 : (p : Int) < (n : Int) := by omega
  have w13 : (0 : Int) ≤ (i : Int) := by omega
  have w14 : (i : Int) < (n : Int) := by omega
  have HP := Lib.hid hp
  have HQ := Lib.hid hq
  clear hp hq
  go_enter Try.func47, Try.ntmps47
  go_wp2_with fail
  go_quiet (fail)
  clear w1 w2 w3 w4 w5 w6 w7 w8 w9 w10 w11 w12 w13 w14 c1 c2 c3
  obtain ⟨z, hz⟩ : ∃ z, z = angleAt xs p + angleAt xs q - angleAt xs i := ⟨_, rfl⟩
  rw [← hz]
  have z1 : -4000000 ≤ z ∧ z ≤ 4000000 := by omega
  have HZ := Lib.hid hz
  clear hz x1 x2 x3 x4 x5 x6 hpn hqn
  by_cases i0 : i = 0
  · have hi0 : ((i : Int) == 0) = true := by simp [i0]
    have I0 := Lib.hid i0
    clear i0
    go_upto_region 5 with (fail)
    have b1 : IntKind.i64.wrap ((n : Int) - 1) = (n : Int) - 1 := IntWalk.i64_in _ (by omega)
    have b2 : (2 : Int) ≤ (n : Int) - 1 := by omega
    have b3 : (n : Int) - 1 ≤ (cap : Int) := by omega
    have b4 : (cap : Int) ≠ 2 := by omega
    have b5 : cap ≠ 2 := by omega
    have b6 : (n : Int) - 1 ≤ (s.size : Int) := by have := HS.out; omega
    have b7 : (0 : Int) ≤ (n : Int) - 1 := by omega
    have b8 : ((n : Int) - 1).toNat = n - 1 := by omega
    have b9 : n - 1 ≤ s.size := by have := HS.out; omega
    have b10 : (1 : Int) ≤ (n : Int) := by omega
    have b11 : (n : Int) ≤ (s.size : Int) + 1 := by have := HS.out; omega
    have b12 : ∀ W, (Op.stringOp .add (s.extract (n - 1) s.size) (s.extract 2 (n - 1))).run Try.prog W = .ok (.string (s.extract (n - 1) s.size ++ s.extract 2 (n - 1))) W := fun W =>
      run_string_add_sum W _ _ (by have := HS.out; simp only [ByteArray.size_extract]; omega)
    have hlen : ((xs.drop 2).take (n - 3)).length = n - 1 - 2 := by rw [List.length_take, List.length_drop, HN.out]; omega
    have HL := Lib.hid hlen
    have HC := Lib.hid (h.cut 2 (n - 3))
    clear hlen
    go_region_held3 (fun w' => True) (trivial) ((refine step_app (by rfl) _ _ (by rfl) w.heap.size _ [z] ((xs.drop 2).take (n - 3)) _ _ (by rfl) (n - 1 - 2) HL.out (by rfl) (own_one (w.drewN _) z (Nat.le_refl _)) (Ints.alloc (w := w.drewN _) HC.out _) (Nat.le_of_lt (by simp)) (by rw [HL.out]; simp; omega) ?_; intro v' w1 hown hgrow hb1))
    have hz : z = angleAt xs (prv n i) + angleAt xs (nxt n i) - angleAt xs i := by rw [HZ.out, HP.out, HQ.out]
    go_wp2_with fail
    go_ret2
    refine ⟨_, _, _, rfl, hown, ?_, ((below_drewN (Below.refl _ _) _).alloc (Nat.le_refl _) _).trans hb1⟩
    rw [hz]
    exact crimped_first h4 HN.out HS.out I0.out
  · have hi0 : ((i : Int) == 0) = false := by simp [i0]
    have I0 := Lib.hid i0
    clear i0
    by_cases i1 : i = n - 1
    · have hi1 : ((i : Int) == (n : Int) - 1) = true := by simp; omega
      have I1 := Lib.hid i1
      clear i1
      go_upto_region 7 with (fail)
      have b1 : IntKind.i64.wrap ((n : Int) - 1) = (n : Int) - 1 := IntWalk.i64_in _ (by omega)
      have b1' : IntKind.i64.wrap ((n : Int) - 2) = (n : Int) - 2 := IntWalk.i64_in _ (by omega)
      have b2 : (1 : Int) ≤ (n : Int) - 2 := by omega
      have b2' : (3 : Int) ≤ (n : Int) := by omega
      have b3 : (n : Int) - 2 ≤ (cap : Int) := by omega
      have b3' : (n : Int) ≤ (cap : Int) + 2 := by omega
      have b5 : cap ≠ 1 := by omega
      have b6 : (n : Int) ≤ (s.size : Int) + 1 := by have := HS.out; omega
      have b6' : (n : Int) ≤ (s.size : Int) + 2 := by have := HS.out; omega
      have b7 : (0 : Int) ≤ (n : Int) - 2 := by omega
      have b7' : (n : Int) - 1 ≤ (s.size : Int) := by have := HS.out; omega
      have b7'' : (n : Int) - 2 ≤ (s.size : Int) := by have := HS.out; omega
      have b8 : ((n : Int) - 1).toNat = n - 1 := by omega
      have b8' : ((n : Int) - 2).toNat = n - 2 := by omega
      have b9 : (n : Int) - 2 ≤ (n : Int) - 1 := by omega
      have b10 : (1 : Int) ≤ (n : Int) := by omega
      have b11 : (2 : Int) ≤ (n : Int) := by omega
      have b12 : ∀ W, (Op.stringOp .add (s.extract (n - 2) (n - 1)) (s.extract 1 (n - 2))).run Try.prog W = .ok (.string (s.extract (n - 2) (n - 1) ++ s.extract 1 (n - 2))) W := fun W =>
        run_string_add_sum W _ _ (by have := HS.out; simp only [ByteArray.size_extract]; omega)
      have hlen : ((xs.drop 1).take (n - 3)).length = n - 2 - 1 := by rw [List.length_take, List.length_drop, HN.out]; omega
      have HL := Lib.hid hlen
      have HC := Lib.hid (h.cut 1 (n - 3))
      clear hlen
      go_region_held3 (fun w' => True) (trivial) ((refine step_app (by rfl) _ _ (by rfl) w.heap.size _ [z] ((xs.drop 1).take (n - 3)) _ _ (by rfl) (n - 2 - 1) HL.out (by rfl) (own_one (w.drewN _) z (Nat.le_refl _)) (Ints.alloc (w := w.drewN _) HC.out _) (Nat.le_of_lt (by simp)) (by rw [HL.out]; simp; omega) ?_; intro v' w1 hown hgrow hb1))
      have hz : z = angleAt xs (prv n i) + angleAt xs (nxt n i) - angleAt xs i := by rw [HZ.out, HP.out, HQ.out]
      go_wp2_with fail
      go_ret2
      refine ⟨_, _, _, rfl, hown, ?_, ((below_drewN (Below.refl _ _) _).alloc (Nat.le_refl _) _).trans hb1⟩
      rw [hz]
      exact crimped_last h4 HN.out HS.out I0.out I1.out
    · have hi1 : ((i : Int) == (n : Int) - 1) = false := by simp; omega
      have i3 : i + 1 < n := by omega
      have I1 := Lib.hid i1
      clear i1
      have p1 : 1 ≤ i := by have := I0.out; omega
      have hT : Ints w (some ⟨b, off, none⟩) (xs.take (i - 1)) := by have := h.cut 0 (i - 1); simpa using this
      have hTl : (xs.take (i - 1)).length = i - 1 := by rw [List.length_take, HN.out]; omega
      have HL1 := Lib.hid hTl
      have HT := Lib.hid hT
      clear hTl hT
      have g1 : (1 : Int) ≤ (i : Int) := by omega
      have g2 : (i : Int) - 1 ≤ (cap : Int) := by omega
      go_upto_region 8 with (fail)
      go_upto_region 9 with (at_builtin; go_loud (refine wpList_app (by rfl) _ _ (by rfl) w.heap.size _ [] (xs.take (i - 1)) _ _ (by rfl) (i - 1) HL1.out (by rfl) (own_empty (w.drewN nq) (Nat.le_refl _)) (Ints.alloc (w := w.drewN nq) HT.out _) (Nat.le_of_lt (by simp)) (by rw [HL1.out]; simp; omega) ?_))
      intro v1 w1 hown1 hgr1 hb1
      have hB1 := ((below_drewN (Below.refl w.heap.size w) nq).alloc (Nat.le_refl _) (.cells #[] 3)).trans hb1
      have hz1 := hB1.size
      have hn1 : (xs.take (i - 1)).length ≤ 1000 := by rw [HL1.out]; omega
      clear hgr1 hb1
      go_upto_region 9 with (fail)
      go_upto_region 10 with (at_builtin; go_loud (refine wpList_push (W := w1) rfl _ _ rfl w.heap.size _ _ z (by rfl) (by rfl) hown1 hz1 (by omega) ?_))
      intro v2 w2 hown2 hgr2 hb2
      have hB2 := hB1.trans hb2
      have hz2 := hB2.size
      have hn2 : (xs.take (i - 1) ++ [z]).length ≤ 1001 := by rw [List.length_append]; simp at hn1 ⊢; omega
      have HI2 := Lib.hid (h.below hB2)
      clear hgr2 hb2 hown1 hz1 hB1
      go_upto_region 10 with (fail)
      have b1 : IntKind.i64.wrap ((i : Int) + 2) = (i : Int) + 2 := IntWalk.i64_in _ (by omega)
      have b2 : (i : Int) + 2 ≤ (n : Int) := by omega
      have b3 : (0 : Int) ≤ (i : Int) + 2 := by omega
      have b4 : (n : Int) ≤ (cap : Int) := by omega
      have b5 : (i : Int) ≤ (s.size : Int) := by have := HS.out; omega
      have b6 : (i : Int) + 2 ≤ (s.size : Int) := by have := HS.out; omega
      have b7 : (0 : Int) ≤ (i : Int) := by omega
      have b8 : ((i : Int) + 2).toNat = i + 2 := by omega
      have b12 : ∀ W, (Op.stringOp .add (s.extract 0 i) (s.extract (i + 2) s.size)).run Try.prog W = .ok (.string (s.extract 0 i ++ s.extract (i + 2) s.size)) W := fun W =>
        run_string_add_sum W _ _ (by have := HS.out; simp only [ByteArray.size_extract]; omega)
      have hlen : ((xs.drop (i + 2)).take (n - (i + 2))).length = n - (i + 2) := by rw [List.length_take, List.length_drop, HN.out]; omega
      have HL := Lib.hid hlen
      clear hlen
      have hz : z = angleAt xs (prv n i) + angleAt xs (nxt n i) - angleAt xs i := by rw [HZ.out, HP.out, HQ.out]
      have HZ2 := Lib.hid hz
      clear hz
      by_cases hc : cap = i + 2
      · have hnil : (xs.drop (i + 2)).take (n - (i + 2)) = [] := by apply List.eq_nil_of_length_eq_zero; rw [HL.out]; omega
        have HC := Lib.hid (show ∀ A, Ints w2 A ((xs.drop (i + 2)).take (n - (i + 2))) from fun A => by rw [hnil]; exact Ints.nil _ _)
        clear hnil
        go_region_held3 (fun w' => True) (trivial) ((refine step_app (by rfl) _ _ (by rfl) w.heap.size _ _ ((xs.drop (i + 2)).take (n - (i + 2))) _ _ (by rfl) (n - (i + 2)) HL.out (by rfl) (show Own (w2.drewN _) w.heap.size v2 _ from hown2) (HC.out _) hz2 (by rw [HL.out]; omega) ?_; intro v' w3 hown hgrow hb3))
        go_wp2_with fail
        go_ret2
        refine ⟨_, _, _, rfl, hown, ?_, (below_drewN hB2 _).trans hb3⟩
        rw [HZ2.out]
        exact crimped_mid h4 HN.out HS.out hi I0.out I1.out
      · have b13 : ¬ cap = i + 2 := hc
        have HC := Lib.hid (HI2.out.cut (i + 2) (n - (i + 2)))
        go_region_held3 (fun w' => True) (trivial) ((refine step_app (by rfl) _ _ (by rfl) w.heap.size _ _ ((xs.drop (i + 2)).take (n - (i + 2))) _ _ (by rfl) (n - (i + 2)) HL.out (by rfl) (show Own (w2.drewN _) w.heap.size v2 _ from hown2) (show Ints (w2.drewN _) _ _ from HC.out) hz2 (by rw [HL.out]; omega) ?_; intro v' w3 hown hgrow hb3))
        go_wp2_with fail
        go_ret2
        refine ⟨_, _, _, rfl, hown, ?_, (below_drewN hB2 _).trans hb3⟩
        rw [HZ2.out]
        exact crimped_mid h4 HN.out HS.out hi I0.out I1.out
end Go.Proofs.Ytngpeehjjcgmmaa
