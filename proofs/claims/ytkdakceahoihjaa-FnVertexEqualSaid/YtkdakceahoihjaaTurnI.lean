/- The program's AnglesTurn, AnglesBack, FoldsBalance, FoldsSwap. No condition but sizes. -/
import Derived.Laws.OwnMore
import Derived.Test.YtkdakceahoihjaaConfC
import Derived.Test.YtkdakceahoihjaaFoldsNum
namespace Go.Proofs.Ytkdakceahoihjaa
open Go.RowKit

set_option maxHeartbeats 1000000 in
set_option maxRecDepth 100000 in
theorem impl_AnglesTurn (A : Option Addr) (cap : Nat) (xs : List Int) (k : Nat) (w : World) (h : Ints w A xs) (hv : avB xs = true) (hk : k < xs.length) (hcap : xs.length ≤ cap) (_hcm : cap ≤ maxLen) :
    Calls Try.prog 23 #[.slice A xs.length cap, .int .i64 k] w fun e w' => ∃ v, e = .returned (.tuple #[v, .bool true]) ∧ Own w' w.heap.size v (xs.drop k ++ xs.take k) ∧ Below w.heap.size w w' := by
  obtain ⟨i0, hi, hz0, hz1, hz2⟩ := info_parts Try.infoInt
  obtain ⟨_, h2, h10, _, _⟩ := avB_parts hv
  obtain ⟨b, off, _, rfl, _, _, _, _⟩ := h.at_ hk
  have HV := Lib.hid hv
  clear hv
  have d1 : decide ((k : Int) < 0) = false := by simp
  have d2 : decide ((xs.length : Int) ≤ (k : Int)) = false := by simp; omega
  have hl1 : (xs.drop k).length = xs.length - k := by simp
  have hl2 : (xs.take k).length = k := by simp; omega
  have HL1 := Lib.hid hl1
  have HL2 := Lib.hid hl2
  have hI1 : Ints w (some ⟨b, off + k, none⟩) (xs.drop k) := by
    have := h.cut k (xs.length - k)
    rwa [List.take_of_length_le (by simp)] at this
  have hI2 : Ints w (some ⟨b, off, none⟩) (xs.take k) := by
    have := h.cut 0 k
    simpa using this
  have HI1 := Lib.hid hI1
  have HI2 := Lib.hid hI2
  clear hl1 hl2 hI1 hI2
  have b1 : (k : Int) ≤ (xs.length : Int) := by omega
  have b2 : (xs.length : Int) ≤ (cap : Int) := by omega
  have b3 : (k : Int) ≤ (cap : Int) := by omega
  have b4 : ¬ cap = k := by omega
  have b4' : cap ≠ k := b4
  go_enter Try.func23, Try.ntmps23
  go_wp2_with fail
  refine (impl_AnglesValid _ cap xs w h (by unfold maxLen; omega)).mono ?_
  rintro e w' ⟨rfl, rfl⟩
  rw [HV.out]
  go_wp2_with (at_make; go_loud (refine wpList_make_own _ rfl _ _ 23 rfl w.heap.size 3 i0 (.int .i64 0) 1 Try.underlying23 hi hz0 hz1 .i64 .i64 _ xs.length (by rfl) (by rfl) (by rfl) (by rw [hz2]; omega) (by unfold maxLen; omega) (Nat.le_refl _) ?_))
  intro w1 hown1 hg1
  have hb1 : Below w.heap.size w w1 := (Below.refl _ _).grown hg1 (Nat.le_refl _) (by intro k hk; cases hk)
  have hs1 := hb1.size
  have hown1' : Own w1 w.heap.size (.slice (some ⟨w.heap.size, 0, none⟩) 0 xs.length) [] := hown1
  clear hi hz0 hz1 hz2 hown1 hg1
  go_wp2_with (at_builtin; go_loud (refine wpList_app (by rfl) _ _ (by rfl) w.heap.size _ [] (xs.drop k) _ _ (by rfl) (xs.length - k) HL1.out (by rfl) hown1' (HI1.out.below hb1) hs1 (by rw [HL1.out]; simp; omega) ?_))
  intro v2 w2 hown2 hgr2 hb2
  have B2 := hb1.trans hb2
  have hs2 := B2.size
  clear hgr2 hb2 hb1 hown1' hs1
  go_wp2_with (at_builtin; go_loud (refine wpList_app (by rfl) _ _ (by rfl) w.heap.size _ _ (xs.take k) _ _ (by rfl) k HL2.out (by rfl) hown2 (HI2.out.below B2) hs2 (by rw [HL2.out]; simp; omega) ?_))
  intro v3 w3 hown3 hgr3 hb3
  go_wp2_with fail
  go_ret2
  exact ⟨v3, rfl, by simpa using hown3, B2.trans hb3⟩

end Go.Proofs.Ytkdakceahoihjaa
