/- Words checked, told by letters and ranked: the program's and the reference's. No condition but sizes. -/
import Derived.Test.YtnckbiacfnokiaaZordC
import Derived.Test.YtnckbiacfnokiaaZordP
namespace Go.Proofs.Ytnckbiacfnokiaa
open Go.RowKit

theorem ext_list (T : ByteArray) (a b : Nat) : (T.extract a b).data.toList = (T.data.toList.drop a).take (b - a) := by
  rw [ByteArray.data_extract, Array.toList_extract, List.extract_eq_take_drop]
theorem ext_front (T : ByteArray) (m : Nat) : T.extract 0 m = bts (T.data.toList.take m) := by
  apply ByteArray.ext; apply Array.ext'
  show (T.extract 0 m).data.toList = T.data.toList.take m
  rw [ext_list]; simp
theorem ext_back (T : ByteArray) (m : Nat) : T.extract m T.size = bts (T.data.toList.drop m) := by
  apply ByteArray.ext; apply Array.ext'
  show (T.extract m T.size).data.toList = T.data.toList.drop m
  rw [ext_list, List.take_of_length_le (by rw [List.length_drop, size_list]; exact Nat.le_refl _)]
theorem bts_size (l : Tx) : (bts l).size = l.length := by show (List.toArray l).size = _; simp
theorem bts_ne {a b : Tx} (h : a ≠ b) : ((bts a).toList == (bts b).toList) = false := by
  rw [ByteArray.toList_eq, ByteArray.toList_eq, beq_eq_false_iff_ne]; exact h
theorem quo2 (n : Nat) : ((n : Int).tdiv 2 = ((n / 2 : Nat) : Int)) ∧ ((n : Int) / 2 = ((n / 2 : Nat) : Int)) ∧ ((n : Int).tmod 2 = ((n % 2 : Nat) : Int)) ∧ ((n : Int) % 2 = ((n % 2 : Nat) : Int)) := by
  have h1 : (0 : Int) ≤ (n : Int) := by omega
  refine ⟨?_, ?_, ?_, ?_⟩
  · rw [Int.tdiv_eq_ediv_of_nonneg h1]; omega
  · omega
  · rw [Int.tmod_eq_emod_of_nonneg h1]; omega
  · omega
theorem crsB_eq (T : ByteArray) (h : T.size ≤ 63) : crsB T.data.toList = fvB T.data.toList (T.size : Int) := by
  unfold crsB fvB
  rw [size_list, decide_eq_true h, decide_eq_true rfl]
theorem crsB_long (T : ByteArray) (h : ¬ T.size ≤ 63) : crsB T.data.toList = false := by
  unfold crsB
  rw [size_list, decide_eq_false h]; rfl
set_option maxHeartbeats 400000 in
theorem impl_isCreases (T : ByteArray) (w : World) (hs : T.size ≤ maxLen) :
    Calls Try.prog 23 #[.string T] w fun e w' => e = .returned (.bool (crsB T.data.toList)) ∧ w = w' := by
  have hs2 := hs
  unfold maxLen at hs2
  by_cases h : T.size ≤ 63
  · have d1 : decide ((T.size : Int) ≤ 63) = true := by simp; omega
    obtain ⟨b, hb⟩ : ∃ b, b = fvB T.data.toList (T.size : Int) := ⟨_, rfl⟩
    have HC := Lib.hid (crsB_eq T h)
    have HB := Lib.hid hb
    clear hb
    go_enter Try.func23, Try.ntmps23
    go_wp2_with fail
    refine (impl_FoldsValid T (T.size : Int) w hs).mono ?_
    rintro e _ ⟨rfl, rfl⟩
    rw [← HB.out]
    go_wp2_with fail
    go_ret
    exact ⟨by rw [HC.out, ← HB.out]; rfl, rfl⟩
  · have d1 : decide ((T.size : Int) ≤ 63) = false := by simp; omega
    have HC := Lib.hid (crsB_long T h)
    go_enter Try.func23, Try.ntmps23
    go_wp2_with fail
    go_ret
    exact ⟨by rw [HC.out]; rfl, rfl⟩
set_option maxHeartbeats 2000000 in
theorem impl_WordValid (T0 : ByteArray) (w : World) (hs : T0.size ≤ maxLen) :
    Calls Try.prog 8 #[.string T0] w fun e w' => e = .returned (.bool (wrdB T0.data.toList)) ∧ Below w.heap.size w w' := by
  cases hc : crsB T0.data.toList with
  | false =>
    have hr : wrdB T0.data.toList = false := by unfold wrdB; rw [hc]; rfl
    have HR := Lib.hid hr
    have HC := Lib.hid hc
    clear hr hc
    go_enter Try.func8, Try.ntmps8
    go_wp2_with fail
    refine (impl_isCreases T0 w hs).mono ?_
    rintro e _ ⟨rfl, rfl⟩
    rw [HC.out]
    go_wp2_with fail
    go_ret
    exact ⟨ret_bool (by rw [HR.out]), Below.refl _ _⟩
  | true =>
    have hr : wrdB T0.data.toList = wv T0.data.toList := by unfold wrdB; rw [hc]; rfl
    have h63 : T0.size ≤ 63 := by
      unfold crsB at hc
      rw [size_list] at hc
      simp only [Bool.and_eq_true, decide_eq_true_eq] at hc
      exact hc.1
    have HR := Lib.hid hr
    have HC := Lib.hid hc
    clear hr hc
    go_enter Try.func8, Try.ntmps8
    go_wp2_with fail
    refine (impl_isCreases T0 w hs).mono ?_
    rintro e _ ⟨rfl, rfl⟩
    rw [HC.out]
    have HB0 : Hid (Below w.heap.size w w) := Below.refl _ _
    go_wp2_with fail
    go_loopg [0, 3] (T0.size + 1) (fun g s0 s3 wr => ∃ (T : ByteArray), s3 = s3 ∧ s0 = .string T ∧ T.size < g ∧ T.size ≤ 63 ∧ Hid (Below w.heap.size w wr) ∧ Hid (wrdB T0.data.toList = wv T.data.toList))
    case atStart => exact ⟨T0, rfl, rfl, by omega, h63, HB0, HR⟩
    case round =>
      obtain ⟨T, _, rfl, hg, h63, HB, HW⟩ := hrel
      cases gk with
      | zero => omega
      | succ g =>
      by_cases h0 : T.size = 0
      · have d0 : decide ((0 : Int) < (T.size : Int)) = false := decide_eq_false (by omega)
        have hx : wrdB T0.data.toList = true := by
          rw [HW.out]
          have : T.data.toList = [] := List.eq_nil_of_length_eq_zero (by rw [size_list]; exact h0)
          rw [this]; rfl
        have HX := Lib.hid hx
        have p0 : ¬ (0 < T.size) := by omega
        clear hx
        go_wp2_with fail
        go_ret
        exact ⟨ret_bool (by rw [HX.out]), HB.out⟩
      · have p0 : 0 < T.size := by omega
        have d0 : decide ((0 : Int) < (T.size : Int)) = true := by simp; omega
        obtain ⟨q1, q2, q3, q4⟩ := quo2 T.size
        by_cases he : T.size % 2 = 0
        · have d1 : (((T.size % 2 : Nat) : Int) == 0) = true := by rw [he]; rfl
          have hx : wrdB T0.data.toList = false := by
            rw [HW.out]
            exact wv_even (by rw [size_list]; exact h0) (by rw [size_list]; exact he)
          have HX := Lib.hid hx
          rw [he] at q3 q4
          clear h0 hx he
          go_wp2_with fail
          go_ret
          exact ⟨ret_bool (by rw [HX.out]), HB.out⟩
        · have he1 : T.size % 2 = 1 := by omega
          obtain ⟨m, hm⟩ : ∃ m, m = T.size / 2 := ⟨_, rfl⟩
          have hm1 : 2 * m + 1 = T.size := by omega
          rw [he1] at q3 q4
          rw [← hm] at q1 q2
          obtain ⟨T1, hT1⟩ : ∃ T1, T1 = bts (T.data.toList.take m) := ⟨_, rfl⟩
          obtain ⟨T2, hT2⟩ : ∃ T2, T2 = bts (T.data.toList.drop (m + 1)) := ⟨_, rfl⟩
          obtain ⟨O, hO⟩ : ∃ O, O = bts (othL (T.data.toList.take m)) := ⟨_, rfl⟩
          have e1 : T.extract 0 m = T1 := by rw [hT1]; exact ext_front T m
          have e2 : T.extract (m + 1) T.size = T2 := by rw [hT2]; exact ext_back T (m + 1)
          have hz1 : T1.size = m := by rw [hT1, bts_size, List.length_take, size_list]; omega
          have ho : ∀ W : World, Calls Try.prog 24 #[.string T1] W fun e w' => e = .returned (.string O) ∧ Below W.heap.size W w' := fun W => by
            have := impl_otherSide T1 W (by omega)
            rw [hT1] at this ⊢
            rw [hO]; exact this
          have hwv := wv_odd (l := T.data.toList) (by rw [size_list]; exact he1)
          rw [size_list, ← hm] at hwv
          have HO := Lib.hid ho
          have m1 : (m : Int) + 1 ≤ (T.size : Int) := by omega
          have m0 : (0 : Int) ≤ (m : Int) + 1 := by omega
          have m2 : (m : Int) ≤ (T.size : Int) := by omega
          have m3 : (0 : Int) ≤ (m : Int) := by omega
          have mw : IntKind.i64.wrap ((m : Int) + 1) = (m : Int) + 1 := IntWalk.i64_in _ (by omega)
          have mt : ((m : Int) + 1).toNat = m + 1 := by omega
          by_cases hd : T.data.toList.drop (m + 1) = othL (T.data.toList.take m)
          · have d3 : (T2.toList != O.toList) = false := by
              have : T2 = O := by rw [hT2, hO, hd]
              rw [this]; simp
            have d4 : (T2.toList == O.toList) = true := by
              have : T2 = O := by rw [hT2, hO, hd]
              rw [this]; simp
            have hx : wrdB T0.data.toList = wv T1.data.toList := by
              rw [HW.out, hwv, decide_eq_true hd, Bool.true_and, hT1]
            have HX := Lib.hid hx
            clear h0 hx he he1 hm hT1 hT2 hO hd hwv ho HW
            go_wp2_with fail
            go_region_held3 (fun w' => True) (trivial) ((go_simp; go_at_call 24; refine (HO.out _).mono ?_; rintro e w1 ⟨rfl, hbx⟩))
            all_goals
              have HB1 := Lib.hid (below_from (below_drewN HB.out 1) hbx HB.out.size)
              clear hbx
              go_wp2_with fail
              go_roundg g
              case measure => omega
              case rel => exact ⟨T1, trivial, rfl, by omega, by omega, HB1, HX⟩
          · have d3 : (T2.toList != O.toList) = true := by
              rw [hT2, hO, bne, bts_ne hd]; rfl
            have d4 : (T2.toList == O.toList) = false := by rw [hT2, hO]; exact bts_ne hd
            have hx : wrdB T0.data.toList = false := by
              rw [HW.out, hwv, decide_eq_false hd, Bool.false_and]
            have HX := Lib.hid hx
            clear h0 hx he he1 hm hT1 hT2 hO hd hwv ho HW
            go_wp2_with fail
            go_region_held3 (fun w' => True) (trivial) ((go_simp; go_at_call 24; refine (HO.out _).mono ?_; rintro e w1 ⟨rfl, hbx⟩))
            all_goals
              have HB1 := Lib.hid (below_from (below_drewN HB.out 1) hbx HB.out.size)
              clear hbx
              go_wp2_with fail
              go_ret
              exact ⟨ret_bool (by rw [HX.out]), HB1.out⟩
end Go.Proofs.Ytnckbiacfnokiaa
