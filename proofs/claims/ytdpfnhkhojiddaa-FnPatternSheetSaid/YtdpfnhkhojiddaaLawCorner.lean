/- The law on corners of four cells: the walk of the law itself. No condition but sizes. -/
import Derived.Test.YtdpfnhkhojiddaaDrawU
import Derived.Test.YtdpfnhkhojiddaaImplB
namespace Go.Proofs.Ytdpfnhkhojiddaa
open Go.RowKit

set_option maxRecDepth 100000 in
theorem three_folds {o : List UInt8} (h : threeB o = true) : vfB [90, 90, 90, 90] (btx o) = true := by
  unfold threeB at h
  simp only [Bool.and_eq_true, decide_eq_true_eq] at h
  obtain ⟨⟨h1, h2⟩, h3⟩ := h
  match o, h1, h2, h3 with
  | [a, b, c, d], _, h2, h3 =>
    simp only [List.all_cons, List.all_nil, Bool.and_true, Bool.and_eq_true, Bool.or_eq_true, decide_eq_true_eq] at h2
    obtain ⟨ha, hb, hc, hd⟩ := h2
    rcases ha with rfl | rfl <;> rcases hb with rfl | rfl <;> rcases hc with rfl | rfl <;> rcases hd with rfl | rfl <;>
      first
        | exact absurd h3 (by decide)
        | decide +kernel
theorem three_len {o : List UInt8} (h : threeB o = true) : o.length = 4 := by
  unfold threeB at h
  simp only [Bool.and_eq_true, decide_eq_true_eq] at h
  exact h.1.1
set_option maxHeartbeats 2000000 in
set_option maxRecDepth 100000 in
theorem law_FnCorner (A : Option Addr) (cap : Nat) (bs : List UInt8) (w : World) (h : Codes w w.heap.size A bs) (hcap : bs.length ≤ cap) (hcm : cap ≤ maxLen) :
    Calls Try.prog 3 #[.slice A bs.length cap] w fun e w' => e = .returned (.bool true) ∧ Below w.heap.size w w' := by
  have hlm : bs.length ≤ maxLen := Nat.le_trans hcap hcm
  have hlm2 := hlm
  unfold maxLen at hlm2
  by_cases g1 : 1048576 < bs.length
  · have d1 : decide ((1048576 : Int) < (bs.length : Int)) = true := by simp; omega
    go_enter Try.func3, Try.ntmps3
    go_wp2_with fail
    go_ret
    exact ⟨rfl, Below.refl _ _⟩
  · have d1 : decide ((1048576 : Int) < (bs.length : Int)) = false := by simp; omega
    go_enter Try.func3, Try.ntmps3
    go_wp2_with fail
    refine (spec_DrawSheetCorner w A cap bs h (by omega) hcap hcm).mono ?_
    rintro e w1 ⟨s, y, x, rfl, hD, hs, hy, hx, hb1⟩
    have HB1 := Lib.hid hb1
    obtain ⟨heq, h3⟩ := corn_eq hD y x
    have HI := Lib.hid (fun W : World => impl_SheetCorner s y x W (by omega) hy hx)
    have HS := Lib.hid (fun W : World => spec_SheetCorner s y x W (by omega))
    rw [← heq] at HS
    obtain ⟨o, ho⟩ : ∃ o, o = cornO s.data.toList y x := ⟨_, rfl⟩
    rw [← ho] at HI HS h3
    clear hb1 heq hD ho hs hy hx
    cases o with
    | none =>
      have HI2 : Hid (∀ W : World, Calls Try.prog 6 #[.string s, .int .i64 y, .int .i64 x] W fun e w' => e = .returned (.tuple #[.string ⟨#[]⟩, .bool false]) ∧ Below W.heap.size W w') := HI.out
      have HS2 : Hid (∀ W : World, Calls Try.prog 7 #[.string s, .int .i64 y, .int .i64 x] W fun e w' => e = .returned (.tuple #[.string ⟨#[]⟩, .bool false]) ∧ Below W.heap.size W w') := HS.out
      clear HI HS h3
      go_wp2_with fail
      refine (HI2.out w1).mono ?_
      rintro e w2 ⟨rfl, hb2⟩
      have HB2 := Lib.hid (below_from HB1.out hb2 HB1.out.size)
      clear hb2 HB1
      go_wp2_with fail
      refine (HS2.out w2).mono ?_
      rintro e w3 ⟨rfl, hb3⟩
      have HB3 := Lib.hid (below_from HB2.out hb3 HB2.out.size)
      clear hb3 HB2
      go_wp2_with fail
      go_ret
      exact ⟨rfl, HB3.out⟩
    | some t =>
      have ht := h3 t rfl
      have hvf := three_folds ht
      have htl := three_len ht
      obtain ⟨T, hT⟩ : ∃ T, T = btx t := ⟨_, rfl⟩
      rw [← hT] at hvf
      have hTs : T.size = 4 := by rw [hT, btx_size]; exact htl
      have HI2 : Hid (∀ W : World, Calls Try.prog 6 #[.string s, .int .i64 y, .int .i64 x] W fun e w' => e = .returned (.tuple #[.string T, .bool true]) ∧ Below W.heap.size W w') := by show ∀ W : World, _; rw [hT]; exact HI.out
      have HS2 : Hid (∀ W : World, Calls Try.prog 7 #[.string s, .int .i64 y, .int .i64 x] W fun e w' => e = .returned (.tuple #[.string T, .bool true]) ∧ Below W.heap.size W w') := by show ∀ W : World, _; rw [hT]; exact HS.out
      have HV := Lib.hid (fun (B : Option Addr) (c : Nat) (W : World) (hI : Ints W B [90, 90, 90, 90]) => impl_VertexFolds B c [90, 90, 90, 90] T W hI (by unfold maxLen; decide) (by unfold maxLen; omega))
      rw [hvf] at HV
      have te : (T.toList == T.toList) = true := by simp
      clear HI HS h3 ht hvf htl hT
      go_wp2_with fail
      refine (HI2.out w1).mono ?_
      rintro e w2 ⟨rfl, hb2⟩
      have HB2 := Lib.hid (below_from HB1.out hb2 HB1.out.size)
      clear hb2 HB1
      go_wp2_with fail
      refine (HS2.out w2).mono ?_
      rintro e w3 ⟨rfl, hb3⟩
      have HB3 := Lib.hid (below_from HB2.out hb3 HB2.out.size)
      have HIN : Hid (Ints (w3.alloc (.cells #[.int .i64 90, .int .i64 90, .int .i64 90, .int .i64 90] 3)) (some ⟨w3.heap.size, 0, none⟩) [90, 90, 90, 90]) := Ints.of_own (World.ownsRow_lit (base := 0) w3 #[.int .i64 90, .int .i64 90, .int .i64 90, .int .i64 90] 4 (Nat.zero_le _) (by unfold maxLen; omega) rfl)
      have HVV := Lib.hid (HV.out _ 4 _ HIN.out)
      have HB4 := Lib.hid (HB3.out.alloc HB3.out.size (.cells #[.int .i64 90, .int .i64 90, .int .i64 90, .int .i64 90] 3))
      clear hb3 HB2 HB3 HIN HV
      go_wp2_with fail
      refine HVV.out.mono ?_
      rintro e w5 ⟨rfl, hb5⟩
      have HB5 := Lib.hid (below_from HB4.out hb5 HB4.out.size)
      go_wp2_with fail
      go_ret
      exact ⟨rfl, HB5.out⟩
end Go.Proofs.Ytdpfnhkhojiddaa
