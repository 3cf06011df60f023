/- Creases and corners of a text: the reference's. No condition but sizes. -/
import Derived.Test.YtdpfnhkhojiddaaSpkI
namespace Go.Proofs.Ytdpfnhkhojiddaa
open Go.RowKit

theorem crsT_len (T : List Cl) (r c r' c' : Nat) : (crsT T r c r' c').length ≤ 1 := by
  unfold crsT; split <;> simp
/-- the reference's corner -/
def cornS (l : List UInt8) (r c : Int) : Option (List UInt8) :=
  if inB r 0 1000 = true ∧ inB c 0 1000 = true then (if (cornerT (stkO l) r.toNat c.toNat).length = 4 then some (cornerT (stkO l) r.toNat c.toNat) else none) else none
set_option maxHeartbeats 1000000 in
set_option maxRecDepth 100000 in
theorem spec_SheetRight (s : ByteArray) (r c : Nat) (w : World) (hs : s.size ≤ 1000) (hc : c ≤ 1000) :
    Calls Try.prog 20 #[.string s, .int .i64 r, .int .i64 c] w fun e w' => e = .returned (.string (btx (crsT (stkO s.data.toList) r c r (c + 1)))) ∧ Below w.heap.size w w' := by
  have HI := Lib.hid (spec_l6In c 0 1000 w)
  have hin : inB (c : Int) 0 1000 = true := inB_yes (by omega) (by omega)
  rw [hin] at HI
  have H1 := Lib.hid (fun W : World => spec_SheetLevel s r c W hs)
  have H2 : Hid (∀ W : World, Calls Try.prog 34 #[.string s, .int .i64 r, .int .i64 ((c : Int) + 1)] W fun e w' => e = .returned (.int .i64 (levZ (levelT (stkO s.data.toList) r (c + 1)))) ∧ Below W.heap.size W w') := by
    show ∀ W : World, _
    intro W
    have e : ((c : Int) + 1) = ((c + 1 : Nat) : Int) := by omega
    rw [e]
    exact spec_SheetLevel s r (c + 1) W hs
  have H3 := Lib.hid (fun W : World => spec_l4Crease s (levelT (stkO s.data.toList) r c) (levelT (stkO s.data.toList) r (c + 1)) W hs (fun k h => levelT_lt h) (fun k h => levelT_lt h))
  rw [crsT_crZ]
  obtain ⟨z1, hz1⟩ : ∃ z, z = levZ (levelT (stkO s.data.toList) r c) := ⟨_, rfl⟩
  obtain ⟨z2, hz2⟩ : ∃ z, z = levZ (levelT (stkO s.data.toList) r (c + 1)) := ⟨_, rfl⟩
  obtain ⟨B, hB⟩ : ∃ B, B = btx (crZ (stkO s.data.toList) (levelT (stkO s.data.toList) r c) (levelT (stkO s.data.toList) r (c + 1))) := ⟨_, rfl⟩
  rw [← hz1] at H1 H3
  rw [← hz2] at H2 H3
  rw [← hB] at H3 ⊢
  clear hin hz1 hz2 hB
  go_enter Try.func20, Try.ntmps20
  go_wp2_with fail
  refine HI.out.mono ?_
  rintro e _ ⟨rfl, rfl⟩
  go_wp2_with fail
  refine (H1.out w).mono ?_
  rintro e w1 ⟨rfl, hb1⟩
  go_wp2_with fail
  refine (H2.out w1).mono ?_
  rintro e w2 ⟨rfl, hb2⟩
  go_wp2_with fail
  refine (H3.out w2).mono ?_
  rintro e w3 ⟨rfl, hb3⟩
  go_wp2_with fail
  go_ret
  have h12 := hb1.trans (hb2.mono hb1.size)
  exact ⟨rfl, h12.trans (hb3.mono h12.size)⟩
set_option maxHeartbeats 1000000 in
set_option maxRecDepth 100000 in
theorem spec_SheetDown (s : ByteArray) (r c : Nat) (w : World) (hs : s.size ≤ 1000) (hc : r ≤ 1000) :
    Calls Try.prog 21 #[.string s, .int .i64 r, .int .i64 c] w fun e w' => e = .returned (.string (btx (crsT (stkO s.data.toList) r c (r + 1) c))) ∧ Below w.heap.size w w' := by
  have HI := Lib.hid (spec_l6In r 0 1000 w)
  have hin : inB (r : Int) 0 1000 = true := inB_yes (by omega) (by omega)
  rw [hin] at HI
  have H1 := Lib.hid (fun W : World => spec_SheetLevel s r c W hs)
  have H2 : Hid (∀ W : World, Calls Try.prog 34 #[.string s, .int .i64 ((r : Int) + 1), .int .i64 c] W fun e w' => e = .returned (.int .i64 (levZ (levelT (stkO s.data.toList) (r + 1) c))) ∧ Below W.heap.size W w') := by
    show ∀ W : World, _
    intro W
    have e : ((r : Int) + 1) = ((r + 1 : Nat) : Int) := by omega
    rw [e]
    exact spec_SheetLevel s (r + 1) c W hs
  have H3 := Lib.hid (fun W : World => spec_l4Crease s (levelT (stkO s.data.toList) r c) (levelT (stkO s.data.toList) (r + 1) c) W hs (fun k h => levelT_lt h) (fun k h => levelT_lt h))
  rw [crsT_crZ]
  obtain ⟨z1, hz1⟩ : ∃ z, z = levZ (levelT (stkO s.data.toList) r c) := ⟨_, rfl⟩
  obtain ⟨z2, hz2⟩ : ∃ z, z = levZ (levelT (stkO s.data.toList) (r + 1) c) := ⟨_, rfl⟩
  obtain ⟨B, hB⟩ : ∃ B, B = btx (crZ (stkO s.data.toList) (levelT (stkO s.data.toList) r c) (levelT (stkO s.data.toList) (r + 1) c)) := ⟨_, rfl⟩
  rw [← hz1] at H1 H3
  rw [← hz2] at H2 H3
  rw [← hB] at H3 ⊢
  clear hin hz1 hz2 hB
  go_enter Try.func21, Try.ntmps21
  go_wp2_with fail
  refine HI.out.mono ?_
  rintro e _ ⟨rfl, rfl⟩
  go_wp2_with fail
  refine (H1.out w).mono ?_
  rintro e w1 ⟨rfl, hb1⟩
  go_wp2_with fail
  refine (H2.out w1).mono ?_
  rintro e w2 ⟨rfl, hb2⟩
  go_wp2_with fail
  refine (H3.out w2).mono ?_
  rintro e w3 ⟨rfl, hb3⟩
  go_wp2_with fail
  go_ret
  have h12 := hb1.trans (hb2.mono hb1.size)
  exact ⟨rfl, h12.trans (hb3.mono h12.size)⟩
set_option maxHeartbeats 2000000 in
set_option maxRecDepth 100000 in
theorem spec_SheetCorner (s : ByteArray) (r c : Int) (w : World) (hs : s.size ≤ 1000) :
    Calls Try.prog 7 #[.string s, .int .i64 r, .int .i64 c] w fun e w' => e = .returned (txtV (cornS s.data.toList r c)) ∧ Below w.heap.size w w' := by
  have HI1 := Lib.hid (spec_l6In r 0 1000 w)
  have HI2 := Lib.hid (spec_l6In c 0 1000 w)
  cases h1 : inB r 0 1000 with
  | false =>
    have hn : cornS s.data.toList r c = none := by unfold cornS; rw [if_neg (by rw [h1]; intro h; cases h.1)]
    rw [h1] at HI1
    rw [hn]
    clear hn h1
    go_enter Try.func7, Try.ntmps7
    go_wp2_with fail
    refine HI1.out.mono ?_
    rintro e _ ⟨rfl, rfl⟩
    go_wp2_with fail
    go_ret2
    exact ⟨rfl, Below.refl _ _⟩
  | true =>
    cases h2 : inB c 0 1000 with
    | false =>
      have hn : cornS s.data.toList r c = none := by unfold cornS; rw [if_neg (by rw [h2]; intro h; cases h.2)]
      rw [h1] at HI1
      rw [h2] at HI2
      rw [hn]
      clear hn h1 h2
      go_enter Try.func7, Try.ntmps7
      go_wp2_with fail
      refine HI1.out.mono ?_
      rintro e _ ⟨rfl, rfl⟩
      go_wp2_with fail
      refine HI2.out.mono ?_
      rintro e _ ⟨rfl, rfl⟩
      go_wp2_with fail
      go_ret2
      exact ⟨rfl, Below.refl _ _⟩
    | true =>
      have hn : cornS s.data.toList r c = if (cornerT (stkO s.data.toList) r.toNat c.toNat).length = 4 then some (cornerT (stkO s.data.toList) r.toNat c.toNat) else none := by unfold cornS; rw [if_pos ⟨h1, h2⟩]
      rw [h1] at HI1
      rw [h2] at HI2
      rw [hn]
      unfold inB at h1 h2
      simp only [Bool.and_eq_true, decide_eq_true_eq] at h1 h2
      obtain ⟨rn, rfl⟩ : ∃ n : Nat, r = (n : Int) := ⟨r.toNat, by omega⟩
      obtain ⟨cn, rfl⟩ : ∃ n : Nat, c = (n : Int) := ⟨c.toNat, by omega⟩
      rw [Int.toNat_natCast, Int.toNat_natCast]
      have ec : ((cn : Int) + 1) = ((cn + 1 : Nat) : Int) := by omega
      have er : ((rn : Int) + 1) = ((rn + 1 : Nat) : Int) := by omega
      have HR1 := Lib.hid (fun W : World => spec_SheetRight s rn cn W hs (by omega))
      have HR2 : Hid (∀ W : World, Calls Try.prog 20 #[.string s, .int .i64 ((rn : Int) + 1), .int .i64 cn] W fun e w' => e = .returned (.string (btx (crsT (stkO s.data.toList) (rn + 1) cn (rn + 1) (cn + 1)))) ∧ Below W.heap.size W w') := by
        show ∀ W : World, _
        intro W
        rw [er]
        exact spec_SheetRight s (rn + 1) cn W hs (by omega)
      have HD1 : Hid (∀ W : World, Calls Try.prog 21 #[.string s, .int .i64 rn, .int .i64 ((cn : Int) + 1)] W fun e w' => e = .returned (.string (btx (crsT (stkO s.data.toList) rn (cn + 1) (rn + 1) (cn + 1)))) ∧ Below W.heap.size W w') := by
        show ∀ W : World, _
        intro W
        rw [ec]
        exact spec_SheetDown s rn (cn + 1) W hs (by omega)
      have HD2 := Lib.hid (fun W : World => spec_SheetDown s rn cn W hs (by omega))
      obtain ⟨T, hT⟩ : ∃ T, T = stkO s.data.toList := ⟨_, rfl⟩
      rw [← hT] at HR1 HR2 HD1 HD2 ⊢
      obtain ⟨x1, hx1⟩ : ∃ x, x = btx (crsT T rn cn rn (cn + 1)) := ⟨_, rfl⟩
      obtain ⟨x2, hx2⟩ : ∃ x, x = btx (crsT T rn (cn + 1) (rn + 1) (cn + 1)) := ⟨_, rfl⟩
      obtain ⟨x3, hx3⟩ : ∃ x, x = btx (crsT T (rn + 1) cn (rn + 1) (cn + 1)) := ⟨_, rfl⟩
      obtain ⟨x4, hx4⟩ : ∃ x, x = btx (crsT T rn cn (rn + 1) cn) := ⟨_, rfl⟩
      have z1 : x1.size ≤ 1 := by rw [hx1, btx_size]; exact crsT_len _ _ _ _ _
      have z2 : x2.size ≤ 1 := by rw [hx2, btx_size]; exact crsT_len _ _ _ _ _
      have z3 : x3.size ≤ 1 := by rw [hx3, btx_size]; exact crsT_len _ _ _ _ _
      have z4 : x4.size ≤ 1 := by rw [hx4, btx_size]; exact crsT_len _ _ _ _ _
      have a1 : ∀ W, (Op.stringOp .add x1 x2).run Try.prog W = .ok (.string (x1 ++ x2)) W := fun W => run_string_add_sum W _ _ (by omega)
      have a2 : ∀ W, (Op.stringOp .add (x1 ++ x2) x3).run Try.prog W = .ok (.string (x1 ++ x2 ++ x3)) W := fun W => run_string_add_sum W _ _ (by rw [ByteArray.size_append]; omega)
      obtain ⟨X, hX⟩ : ∃ X, X = x1 ++ x2 ++ x3 ++ x4 := ⟨_, rfl⟩
      have a3 : ∀ W, (Op.stringOp .add (x1 ++ x2 ++ x3) x4).run Try.prog W = .ok (.string X) W := fun W => by rw [hX]; exact run_string_add_sum W _ _ (by rw [ByteArray.size_append, ByteArray.size_append]; omega)
      obtain ⟨O, hO⟩ : ∃ O, O = cornerT T rn cn := ⟨_, rfl⟩
      have hXO : X = btx O := by
        rw [hX, hO, hx1, hx2, hx3, hx4, ByteArray.mk_append_mk, ByteArray.mk_append_mk, ByteArray.mk_append_mk]; rfl
      have hXs : X.size = O.length := by rw [hXO, btx_size]
      have hX4 : X.size ≤ 4 := by
        rw [hX, ByteArray.size_append, ByteArray.size_append, ByteArray.size_append]; omega
      rw [← hO]
      have HXO := Lib.hid hXO
      have e1 : x1 = ({ data := (crsT T rn cn rn (cn + 1)).toArray } : ByteArray) := hx1
      have e2 : x2 = ({ data := (crsT T rn (cn + 1) (rn + 1) (cn + 1)).toArray } : ByteArray) := hx2
      have e3 : x3 = ({ data := (crsT T (rn + 1) cn (rn + 1) (cn + 1)).toArray } : ByteArray) := hx3
      have e4 : x4 = ({ data := (crsT T rn cn (rn + 1) cn).toArray } : ByteArray) := hx4
      rw [← hx1] at HR1
      rw [← hx2] at HD1
      rw [← hx3] at HR2
      rw [← hx4] at HD2
      obtain ⟨o, ho⟩ : ∃ o, o = (if O.length = 4 then some O else none) := ⟨_, rfl⟩
      rw [← ho]
      have HO := Lib.hid ho
      clear hn ec er hT hx1 hx2 hx3 hx4 e1 e2 e3 e4 hX hO z1 z2 z3 z4 ho
      by_cases h4 : X.size = 4
      · have d1 : ((X.size : Int) == 4) = true := by rw [beq_iff_eq]; omega
        have HF : Hid (o = some O) := by show _ = _; rw [HO.out, if_pos (by omega)]
        clear h4 hXs hXO
        go_enter Try.func7, Try.ntmps7
        go_wp2_with fail
        refine HI1.out.mono ?_
        rintro e _ ⟨rfl, rfl⟩
        go_wp2_with fail
        refine HI2.out.mono ?_
        rintro e _ ⟨rfl, rfl⟩
        go_wp2_with fail
        refine (HR1.out w).mono ?_
        rintro e w4 ⟨rfl, hb4⟩
        have HB4 := Lib.hid hb4
        go_wp2_with fail
        refine (HD1.out _).mono ?_
        rintro e w5 ⟨rfl, hb5⟩
        have HB5 := Lib.hid (HB4.out.trans (hb5.mono HB4.out.size))
        go_wp2_with fail
        refine (HR2.out _).mono ?_
        rintro e w6 ⟨rfl, hb6⟩
        have HB6 := Lib.hid (HB5.out.trans (hb6.mono HB5.out.size))
        go_wp2_with fail
        refine (HD2.out _).mono ?_
        rintro e w7 ⟨rfl, hb7⟩
        have HB7 := Lib.hid (HB6.out.trans (hb7.mono HB6.out.size))
        clear hb4 hb5 hb6 hb7
        go_wp2_with fail
        go_ret2
        exact ⟨by rw [HF.out]; unfold txtV; rw [Option.getD_some, ← HXO.out]; rfl, HB7.out⟩
      · have d1 : ((X.size : Int) == 4) = false := by rw [beq_eq_false_iff_ne]; omega
        have HF : Hid (o = none) := by show _ = _; rw [HO.out, if_neg (by omega)]
        clear h4 hXs hXO
        go_enter Try.func7, Try.ntmps7
        go_wp2_with fail
        refine HI1.out.mono ?_
        rintro e _ ⟨rfl, rfl⟩
        go_wp2_with fail
        refine HI2.out.mono ?_
        rintro e _ ⟨rfl, rfl⟩
        go_wp2_with fail
        refine (HR1.out w).mono ?_
        rintro e w4 ⟨rfl, hb4⟩
        have HB4 := Lib.hid hb4
        go_wp2_with fail
        refine (HD1.out _).mono ?_
        rintro e w5 ⟨rfl, hb5⟩
        have HB5 := Lib.hid (HB4.out.trans (hb5.mono HB4.out.size))
        go_wp2_with fail
        refine (HR2.out _).mono ?_
        rintro e w6 ⟨rfl, hb6⟩
        have HB6 := Lib.hid (HB5.out.trans (hb6.mono HB5.out.size))
        go_wp2_with fail
        refine (HD2.out _).mono ?_
        rintro e w7 ⟨rfl, hb7⟩
        have HB7 := Lib.hid (HB6.out.trans (hb7.mono HB6.out.size))
        clear hb4 hb5 hb6 hb7
        go_wp2_with fail
        go_ret2
        exact ⟨by rw [HF.out]; rfl, HB7.out⟩
end Go.Proofs.Ytdpfnhkhojiddaa
