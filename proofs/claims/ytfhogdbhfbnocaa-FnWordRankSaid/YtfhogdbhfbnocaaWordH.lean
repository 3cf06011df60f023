/- The reference's WordValid and WordRank; the law on ranks. No condition but sizes. -/
import Derived.Test.YtfhogdbhfbnocaaWordG
namespace Go.Proofs.Ytfhogdbhfbnocaa
open Go.RowKit

set_option maxHeartbeats 1000000 in
theorem spec_WordValid (T : ByteArray) (w : World) (hs : T.size ≤ maxLen) :
    Calls Try.prog 21 #[.string T] w fun e w' => e = .returned (.bool (wrdB T.data.toList)) ∧ ∃ m, w.drewN m = w' := by
  cases hc : crsB T.data.toList with
  | false =>
    have hr : wrdB T.data.toList = false := by unfold wrdB; rw [hc]; rfl
    have HR := Lib.hid hr
    have HC := Lib.hid hc
    clear hr hc
    go_enter Try.func21, Try.ntmps21
    go_wp2_with fail
    refine (spec_l5Creases T w hs).mono ?_
    rintro e _ ⟨rfl, rfl⟩
    rw [HC.out]
    go_wp2_with fail
    go_ret
    exact ⟨by rw [HR.out]; rfl, 0, rfl⟩
  | true =>
    have hr : wrdB T.data.toList = wv T.data.toList := by unfold wrdB; rw [hc]; rfl
    obtain ⟨z, hz⟩ : ∃ z, z = foldN (T.size : Int) := ⟨_, rfl⟩
    by_cases h0 : 0 ≤ z
    · obtain ⟨n, hn6, e1, e2⟩ := foldN_ge (z := (T.size : Int)) (by rw [← hz]; exact h0)
      have hsz : T.size + 1 = 2 ^ n := by omega
      have d1 : decide ((0 : Int) ≤ z) = true := decide_eq_true h0
      have hw := fun W : World => spec_l5Word n T W hn6 hsz
      have HR := Lib.hid hr
      have HC := Lib.hid hc
      have HZ := Lib.hid hz
      have HW := Lib.hid hw
      clear hr hc hz hw e1 e2 hsz
      go_enter Try.func21, Try.ntmps21
      go_wp2_with fail
      refine (spec_l5Creases T w hs).mono ?_
      rintro e _ ⟨rfl, rfl⟩
      rw [HC.out]
      go_wp2_with fail
      refine (spec_l5Folds (T.size : Int) w).mono ?_
      rintro e _ ⟨rfl, rfl⟩
      rw [← HZ.out]
      go_wp2_with fail
      refine (HW.out w).mono ?_
      rintro e w1 ⟨rfl, hm⟩
      rw [← HR.out]
      go_wp2_with fail
      go_ret
      exact ⟨rfl, hm⟩
    · have d1 : decide ((0 : Int) ≤ z) = false := decide_eq_false h0
      have hr2 : wrdB T.data.toList = false := by
        cases hq : wrdB T.data.toList with
        | false => rfl
        | true =>
          exfalso
          obtain ⟨n, hn6, hn⟩ := wrd_iff.1 hq
          have h1 := wlI_size hn
          rw [size_list] at h1
          have h2 := foldN_at hn6
          have h3 : ((2 ^ n : Nat) : Int) - 1 = (T.size : Int) := by omega
          rw [h3, ← hz] at h2
          omega
      have HR := Lib.hid hr2
      have HC := Lib.hid hc
      have HZ := Lib.hid hz
      clear hr hr2 hc hz
      go_enter Try.func21, Try.ntmps21
      go_wp2_with fail
      refine (spec_l5Creases T w hs).mono ?_
      rintro e _ ⟨rfl, rfl⟩
      rw [HC.out]
      go_wp2_with fail
      refine (spec_l5Folds (T.size : Int) w).mono ?_
      rintro e _ ⟨rfl, rfl⟩
      rw [← HZ.out]
      go_wp2_with fail
      go_ret
      exact ⟨by rw [HR.out]; rfl, 0, rfl⟩
set_option maxHeartbeats 1000000 in
theorem spec_WordRank (T : ByteArray) (w : World) (hs : T.size ≤ maxLen) :
    Calls Try.prog 9 #[.string T] w fun e w' => e = .returned (.int .i64 (rankZ T.data.toList)) ∧ Below w.heap.size w w' := by
  cases hc : wrdB T.data.toList with
  | false =>
    have HR := Lib.hid (rankZ_no hc)
    have HC := Lib.hid hc
    clear hc
    go_enter Try.func9, Try.ntmps9
    go_wp2_with fail
    refine (spec_WordValid T w hs).mono ?_
    rintro e _ ⟨rfl, m, rfl⟩
    rw [HC.out]
    go_wp2_with fail
    go_ret
    exact ⟨ret_int (by rw [HR.out]), below_drewN (Below.refl _ _) m⟩
  | true =>
    obtain ⟨n, hn6, hn⟩ := wrd_iff.1 hc
    have hsz := wlI_size hn
    rw [size_list] at hsz
    have hf : foldN (T.size : Int) = (n : Int) := by
      have h3 : ((2 ^ n : Nat) : Int) - 1 = (T.size : Int) := by omega
      rw [← h3]; exact foldN_at hn6
    have HR := Lib.hid (rankZ_at hn6 hn)
    have HC := Lib.hid hc
    have HF := Lib.hid hf
    clear hc hn hsz hf
    go_enter Try.func9, Try.ntmps9
    go_wp2_with fail
    refine (spec_WordValid T w hs).mono ?_
    rintro e _ ⟨rfl, m, rfl⟩
    rw [HC.out]
    go_wp2_with fail
    refine (spec_l5Folds (T.size : Int) _).mono ?_
    rintro e _ ⟨rfl, rfl⟩
    rw [HF.out]
    go_wp2_with fail
    refine (spec_l5Rank T n _ hn6).mono ?_
    rintro e w2 ⟨rfl, hb⟩
    have hb2 := below_from (below_drewN (Below.refl w.heap.size w) m) hb (Nat.le_refl _)
    go_wp2_with fail
    go_ret
    exact ⟨ret_int (by rw [HR.out]), hb2⟩
set_option maxHeartbeats 1000000 in
theorem law_FnExactWordRank (T : ByteArray) (w : World) (hs : T.size ≤ maxLen) :
    Calls Try.prog 4 #[.string T] w fun e w' => e = .returned (.bool true) ∧ Below w.heap.size w w' := by
  have hs2 := hs
  unfold maxLen at hs2
  by_cases g1 : 1048576 < T.size
  · have d1 : decide ((1048576 : Int) < (T.size : Int)) = true := decide_eq_true (by omega)
    go_enter Try.func4, Try.ntmps4
    go_wp2_with fail
    go_ret
    exact ⟨rfl, Below.refl _ _⟩
  · have d1 : decide ((1048576 : Int) < (T.size : Int)) = false := decide_eq_false (by omega)
    obtain ⟨z, hz⟩ : ∃ z, z = rankZ T.data.toList := ⟨_, rfl⟩
    have h1 := spec_WordRank T w hs
    have h2 := fun W : World => impl_WordRank T W hs
    rw [← hz] at h1
    rw [← hz] at h2
    have dz : (z != z) = false := by simp
    have H1 := Lib.hid h1
    have H2 := Lib.hid h2
    clear hz h1 h2
    go_enter Try.func4, Try.ntmps4
    go_wp2_with fail
    refine H1.out.mono ?_
    rintro e w1 ⟨rfl, hb1⟩
    go_wp2_with fail
    refine (H2.out w1).mono ?_
    rintro e w2 ⟨rfl, hb2⟩
    have b2 := below_from hb1 hb2 hb1.size
    go_wp2_with fail
    go_ret
    exact ⟨rfl, b2⟩
end Go.Proofs.Ytfhogdbhfbnocaa
