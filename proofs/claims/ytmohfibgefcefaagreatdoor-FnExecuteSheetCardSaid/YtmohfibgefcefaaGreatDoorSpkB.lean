/- Stacks turned and put onto one another: the reference's. No condition but sizes. -/
import Derived.Test.YtmohfibgefcefaaGreatDoorSpkA
namespace Go.Proofs.YtmohfibgefcefaaGreatDoor
open Go.RowKit

theorem own_low {w : World} {B B' : Nat} {e : TypeId} {z n : Nat} {v : Value} {xs : List Value} (h : w.ownsRow B e z v n xs) (hB : B' ≤ B) : w.ownsRow B' e z v n xs := by
  rcases h with ⟨h1, h2⟩
  refine ⟨h1, ?_⟩
  rcases h2 with h2 | ⟨g, cap, cur, e1, hb, rest⟩
  · exact Or.inl h2
  · exact Or.inr ⟨g, cap, cur, e1, Nat.le_trans hB hb, rest⟩
set_option maxHeartbeats 2000000 in
set_option maxRecDepth 100000 in
theorem spec_l4Turned (A : Option Addr) (cap : Nat) (b : List Cl) (high : Bool) (w : World) (h : RowV w A (clL b)) (hl : b.length ≤ 1000) :
    Calls Tryz.prog 127 #[.slice A b.length cap, .bool high] w fun e w' => (∃ v, e = .returned v ∧ OwnC w' w.heap.size v b.length (clL (turned high b 0))) ∧ Below w.heap.size w w' := by
  have HR := Lib.hid h
  have kw2 : IntKind.i64.wrap ((b.length : Int) - 1) = (b.length : Int) - 1 := IntWalk.i64_in _ (by omega)
  clear h
  go_enter Tryz.func127, Tryz.ntmps127
  obtain ⟨w1, hw1⟩ : ∃ w1, w1 = w.alloc (.cells #[] 30) := ⟨_, rfl⟩
  have HB1 : Hid (Below w.heap.size w w1) := by show Below _ _ _; rw [hw1]; exact (Below.refl _ _).alloc (Nat.le_refl _) _
  have HO1 : Hid (OwnC w1 w.heap.size (.slice (some ⟨w.heap.size, 0, none⟩) 0 0) 0 []) := by
    show OwnC _ _ _ _ _
    rw [hw1]
    exact World.ownsRow_lit w #[] 0 (Nat.le_refl _) (by unfold maxLen; omega) rfl
  have HW1 := Lib.hid hw1
  clear hw1
  go_wp2_with fail
  rw [← HW1.out]
  go_loopg [5, 6] (b.length + 1) (fun gg s5 s6 wr => ∃ (j : Nat) (z : Int), j ≤ b.length ∧ z + 1 = (j : Int) ∧ s6 = .int .i64 z ∧ j < gg ∧ Hid (OwnC wr w.heap.size s5 (b.length - j) (clL (turned high b j))) ∧ Hid (Below w.heap.size w wr))
  case atStart => exact ⟨b.length, (b.length : Int) - 1, Nat.le_refl _, by omega, rfl, by omega, by show OwnC _ _ _ _ _; rw [turned_end, Nat.sub_self]; exact HO1.out, HB1⟩
  case round =>
    clear HO1 HB1 kw2 HW1
    obtain ⟨j, z, hj, hz, rfl, hg, HO, HB⟩ := hrel
    cases gk with
    | zero => omega
    | succ g1 =>
    by_cases h0 : j = 0
    · subst h0
      obtain rfl : z = -1 := by omega
      have hO := HO.out
      rw [Nat.sub_zero] at hO
      have HO' := Lib.hid hO
      obtain ⟨Am, cm, rfl, _, _, _⟩ := own_formX hO
      clear hO HO
      go_wp2_with fail
      go_ret
      exact ⟨⟨_, rfl, HO'.out⟩, HB.out⟩
    · obtain ⟨k, rfl⟩ : ∃ k, j = k + 1 := ⟨j - 1, by omega⟩
      obtain rfl : z = (k : Int) := by omega
      have hk : k < b.length := by omega
      have k0 : (0 : Int) ≤ (k : Int) := by omega
      have k1 : (k : Int) < (b.length : Int) := by omega
      have kw : IntKind.i64.wrap ((k : Int) - 1) = (k : Int) - 1 := IntWalk.i64_in _ (by omega)
      obtain ⟨bb, off, e, hbb, e0, e1, e2, e3⟩ := (HR.out.below HB.out).cl hk
      subst e
      have hst := turned_step high hk
      obtain ⟨x, hx⟩ : ∃ x, x = b[k] := ⟨_, rfl⟩
      rw [← hx] at e0 e1 e2 e3 hst
      obtain ⟨xr, xc, xu, xh⟩ := x
      have HST := Lib.hid hst
      obtain ⟨Am, cm, rfl, _, _, _⟩ := own_formX HO.out
      clear hx hst
      cases high with
      | false =>
        have hb3 : Below wr.heap.size wr (wr.alloc (.cells #[.int .i64 xr, .int .i64 xc, .bool !xu, .bool xh] 30)) := (Below.refl _ _).alloc (Nat.le_refl _) _
        have hb4 := hb3.alloc hb3.size (.cells #[.int .i64 xr, .int .i64 xc, .bool !xu, .bool xh] 30)
        have HOB := Lib.hid (own_belowX HO.out hb4)
        have HNW : Hid (RowV ((wr.alloc (.cells #[.int .i64 xr, .int .i64 xc, .bool !xu, .bool xh] 30)).alloc (.cells #[.int .i64 xr, .int .i64 xc, .bool !xu, .bool xh] 30)) (some ⟨wr.heap.size + 1, 0, none⟩) (clV (xr, xc, !xu, xh))) := by
          show RowV _ _ _
          have h := RowV.lit (wr.alloc (.cells #[.int .i64 xr, .int .i64 xc, .bool !xu, .bool xh] 30)) (clV (xr, xc, !xu, xh)) 30
          have e : (wr.alloc (.cells #[.int .i64 xr, .int .i64 xc, .bool !xu, .bool xh] 30)).heap.size = wr.heap.size + 1 := by simp
          rw [e] at h; exact h
        have HB4 := Lib.hid (HB.out.trans (hb4.mono HB.out.size))
        clear hb3 hb4 HO
        go_wp2_with (at_builtin; go_loud (refine wpList_appC (by rfl) _ _ (by rfl) w.heap.size _ (b.length - (k + 1)) (clL (turned false b (k + 1))) (some ⟨wr.heap.size + 1, 0, none⟩) 1 _ (clV (xr, xc, !xu, xh)) (by rfl) (by rfl) HOB.out rfl (fun e => by cases e) HNW.out.news (by have := cl_one [(xr, xc, !xu, xh)]; rw [clL_one] at this; exact this) HB4.out.size (by omega) ?_))
        intro v5 w5 ho5 hg5 hb5 hm5 hr5
        have ho5' : OwnC w5 w.heap.size v5 (b.length - k) (clL (turned false b k)) := by
          have e1 : b.length - (k + 1) + 1 = b.length - k := by omega
          rw [e1] at ho5
          rw [← HST.out, clL_app, clL_one]; simpa [clT] using ho5
        have HO5 := Lib.hid ho5'
        have HB5 := Lib.hid (HB4.out.trans hb5)
        clear ho5 ho5' hg5 hb5 hm5 hr5 HOB HNW HB4
        go_wp2_with fail
        go_roundg g1
        case measure => omega
        case rel => exact ⟨k, (k : Int) - 1, by omega, by omega, by go_num, by omega, HO5, HB5⟩
      | true =>
        have hb3 : Below wr.heap.size wr (wr.alloc (.cells #[.int .i64 xr, .int .i64 xc, .bool !xu, .bool !xh] 30)) := (Below.refl _ _).alloc (Nat.le_refl _) _
        have hb4 := hb3.alloc hb3.size (.cells #[.int .i64 xr, .int .i64 xc, .bool !xu, .bool !xh] 30)
        have HOB := Lib.hid (own_belowX HO.out hb4)
        have HNW : Hid (RowV ((wr.alloc (.cells #[.int .i64 xr, .int .i64 xc, .bool !xu, .bool !xh] 30)).alloc (.cells #[.int .i64 xr, .int .i64 xc, .bool !xu, .bool !xh] 30)) (some ⟨wr.heap.size + 1, 0, none⟩) (clV (xr, xc, !xu, !xh))) := by
          show RowV _ _ _
          have h := RowV.lit (wr.alloc (.cells #[.int .i64 xr, .int .i64 xc, .bool !xu, .bool !xh] 30)) (clV (xr, xc, !xu, !xh)) 30
          have e : (wr.alloc (.cells #[.int .i64 xr, .int .i64 xc, .bool !xu, .bool !xh] 30)).heap.size = wr.heap.size + 1 := by simp
          rw [e] at h; exact h
        have HB4 := Lib.hid (HB.out.trans (hb4.mono HB.out.size))
        clear hb3 hb4 HO
        go_wp2_with (at_builtin; go_loud (refine wpList_appC (by rfl) _ _ (by rfl) w.heap.size _ (b.length - (k + 1)) (clL (turned true b (k + 1))) (some ⟨wr.heap.size + 1, 0, none⟩) 1 _ (clV (xr, xc, !xu, !xh)) (by rfl) (by rfl) HOB.out rfl (fun e => by cases e) HNW.out.news (by have := cl_one [(xr, xc, !xu, !xh)]; rw [clL_one] at this; exact this) HB4.out.size (by omega) ?_))
        intro v5 w5 ho5 hg5 hb5 hm5 hr5
        have ho5' : OwnC w5 w.heap.size v5 (b.length - k) (clL (turned true b k)) := by
          have e1 : b.length - (k + 1) + 1 = b.length - k := by omega
          rw [e1] at ho5
          rw [← HST.out, clL_app, clL_one]; simpa [clT] using ho5
        have HO5 := Lib.hid ho5'
        have HB5 := Lib.hid (HB4.out.trans hb5)
        clear ho5 ho5' hg5 hb5 hm5 hr5 HOB HNW HB4
        go_wp2_with fail
        go_roundg g1
        case measure => omega
        case rel => exact ⟨k, (k : Int) - 1, by omega, by omega, by go_num, by omega, HO5, HB5⟩
set_option maxHeartbeats 2000000 in
set_option maxRecDepth 100000 in
theorem spec_l4Put (A A' : Option Addr) (ca cb : Nat) (a b : List Cl) (c : UInt8) (w : World) (ha : RowV w A (clL a)) (hb : RowV w A' (clL b)) (hla : a.length ≤ 1000) (hlb : b.length ≤ 1000) :
    Calls Tryz.prog 106 #[.slice A a.length ca, .slice A' b.length cb, .int .u8 (c.toNat : Int)] w fun e w' => (∃ v, e = .returned v ∧ OwnC w' w.heap.size v (putS a b (highB c) (underB c)).length (clL (putS a b (highB c) (underB c)))) ∧ Below w.heap.size w w' := by
  have HH := Lib.hid (spec_l4HighL c w)
  obtain ⟨hi, hhi⟩ : ∃ hi, highB c = hi := ⟨_, rfl⟩
  have HT := Lib.hid (spec_l4Turned A' cb b hi w hb hlb)
  have HA := Lib.hid ha
  rw [hhi] at HH ⊢
  have hAn : A = none → a.length = 0 := fun e => by subst e; have h := congrArg List.length ha.none_; rw [clL_len, List.length_nil] at h; omega
  have hub : decide ((97 : Int) ≤ (c.toNat : Int)) = underB c := by unfold underB; rw [Bool.eq_iff_iff, decide_eq_true_eq, decide_eq_true_eq]; omega
  obtain ⟨un, hun⟩ : ∃ u, underB c = u := ⟨_, rfl⟩
  rw [hun] at hub ⊢
  have HL : Hid ((putS a b hi un).length = a.length + b.length) := putS_len a b hi un
  clear hhi hun ha hb
  go_enter Tryz.func106, Tryz.ntmps106
  go_wp2_with fail
  refine HH.out.mono ?_
  rintro e _ ⟨rfl, rfl⟩
  go_wp2_with fail
  refine HT.out.mono ?_
  rintro e w1 ⟨⟨v1, rfl, ho1⟩, hb1⟩
  have HO1 := Lib.hid ho1
  have HB1 := Lib.hid hb1
  have HA1 := Lib.hid (HA.out.below hb1)
  obtain ⟨A1, c1, rfl, hr1, _, _⟩ := own_formX ho1
  have HR1 := Lib.hid hr1
  clear ho1 hb1 hr1
  cases un with
  | true =>
    go_wp2_with (at_builtin; go_loud (refine wpList_appC (by rfl) _ _ (by rfl) w.heap.size _ b.length (clL (turned hi b 0)) _ a.length _ (clL a) (by rfl) (by rfl) HO1.out (clL_len a) hAn HA1.out.news (cl_one a) HB1.out.size (by omega) ?_))
    intro v3 w3 ho3 hg3 hb3 hm3 hr3
    have HE : Hid (OwnC w3 w.heap.size v3 (putS a b hi true).length (clL (putS a b hi true))) := by
      show OwnC _ _ _ _ _
      have e1 : (putS a b hi true).length = b.length + a.length := by rw [HL.out]; omega
      have e2 : clL (putS a b hi true) = clL (turned hi b 0) ++ clL a := by unfold putS; rw [if_pos rfl, clL_app, turned_all]
      rw [e1, e2]; exact ho3
    have HB3 := Lib.hid (HB1.out.trans hb3)
    obtain ⟨A3, c3, rfl, _, _, _⟩ := own_formX ho3
    clear ho3 hg3 hb3 hm3 hr3 hAn
    go_wp2_with fail
    go_ret
    exact ⟨⟨_, rfl, HE.out⟩, HB3.out⟩
  | false =>
    have hb2 : Below w1.heap.size w1 (w1.alloc (.cells #[] 30)) := (Below.refl _ _).alloc (Nat.le_refl _) _
    have HO2 : Hid (OwnC (w1.alloc (.cells #[] 30)) w1.heap.size (.slice (some ⟨w1.heap.size, 0, none⟩) 0 0) 0 []) := World.ownsRow_lit w1 #[] 0 (Nat.le_refl _) (by unfold maxLen; omega) rfl
    have HB2 := Lib.hid hb2
    have HA2 := Lib.hid (HA1.out.below hb2)
    have hBn : A1 = none → b.length = 0 := fun e => by subst e; have h := congrArg List.length HR1.out.none_; rw [clL_len, turned_len, List.length_nil] at h; omega
    clear hb2
    go_wp2_with (at_builtin; go_loud (refine wpList_appC (by rfl) _ _ (by rfl) w1.heap.size _ 0 [] _ a.length _ (clL a) (by rfl) (by rfl) HO2.out (clL_len a) hAn HA2.out.news (cl_one a) HB2.out.size (by omega) ?_))
    intro v3 w3 ho3 hg3 hb3 hm3 hr3
    have ho3 : OwnC w3 w1.heap.size v3 a.length (clL a) := by simpa using ho3
    obtain ⟨A3, c3, rfl, _, _, _⟩ := own_formX ho3
    have HB3 := Lib.hid (HB2.out.trans hb3)
    have HO3 := Lib.hid ho3
    have HR3 := Lib.hid (HR1.out.below HB3.out)
    clear ho3 hg3 hb3 hm3 hr3 HO2 HB2 HA2
    go_wp2_with (at_builtin; go_loud (refine wpList_appC (by rfl) _ _ (by rfl) w1.heap.size _ a.length (clL a) _ b.length _ (clL (turned hi b 0)) (by rfl) (by rfl) HO3.out (by rw [clL_len, turned_len, Nat.sub_zero]) hBn HR3.out.news (cl_one _) HB3.out.size (by omega) ?_))
    intro v5 w5 ho5 hg5 hb5 hm5 hr5
    have HE : Hid (OwnC w5 w.heap.size v5 (putS a b hi false).length (clL (putS a b hi false))) := by
      show OwnC _ _ _ _ _
      have e2 : clL (putS a b hi false) = clL a ++ clL (turned hi b 0) := by unfold putS; rw [if_neg (by decide), clL_app, turned_all]
      rw [HL.out, e2]
      exact own_low ho5 HB1.out.size
    have HB5 := Lib.hid (HB1.out.trans ((HB3.out.trans hb5).mono HB1.out.size))
    obtain ⟨A5, c5, rfl, _, _, _⟩ := own_formX ho5
    clear ho5 hg5 hb5 hm5 hr5 hAn hBn
    go_wp2_with fail
    go_ret
    exact ⟨⟨_, rfl, HE.out⟩, HB5.out⟩
end Go.Proofs.YtmohfibgefcefaaGreatDoor
