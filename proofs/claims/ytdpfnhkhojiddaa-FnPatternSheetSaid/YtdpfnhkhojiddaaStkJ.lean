/- The corner of four cells: the program's. No condition but sizes. -/
import Derived.Test.YtdpfnhkhojiddaaStkI
namespace Go.Proofs.Ytdpfnhkhojiddaa
open Go.RowKit

abbrev btx (cs : List UInt8) : ByteArray := ⟨cs.toArray⟩
theorem btx_list (cs : List UInt8) : (btx cs).data.toList = cs := rfl
theorem btx_size (cs : List UInt8) : (btx cs).size = cs.length := by show (List.toArray cs).size = _; simp
theorem crO_len (l : List UInt8) (r c r' c' : Int) : (crO l r c r' c').length ≤ 1 := by
  unfold crO; split <;> simp
/-- what a function of a text and whether it is one tells -/
def txtV (o : Option (List UInt8)) : Value := .tuple #[.string (btx (o.getD [])), .bool o.isSome]
set_option maxHeartbeats 2000000 in
set_option maxRecDepth 100000 in
theorem impl_SheetCorner (s : ByteArray) (r c : Int) (w : World) (hs : s.size ≤ 1000) (hr : -500 ≤ r ∧ r ≤ 500) (hc : -500 ≤ c ∧ c ≤ 500) :
    Calls Try.prog 6 #[.string s, .int .i64 r, .int .i64 c] w fun e w' => e = .returned (txtV (cornO s.data.toList r c)) ∧ Below w.heap.size w w' := by
  have kw1 : IntKind.i64.wrap (r + 1) = r + 1 := IntWalk.i64_in _ (by omega)
  have kw2 : IntKind.i64.wrap (c + 1) = c + 1 := IntWalk.i64_in _ (by omega)
  cases hv : shB s.data.toList with
  | false =>
    have hn : cornO s.data.toList r c = none := by unfold cornO; rw [if_neg (by rw [hv]; intro h; cases h.1)]
    have HZ : Hid (∀ W : World, Calls Try.prog 15 #[.string s] W fun e w' => e = .returned (.tuple #[.agg #[.int .i64 0, .int .i64 0], .bool false]) ∧ Below W.heap.size W w') := by
      show ∀ W : World, _
      intro W
      have := impl_sizeOf s W hs
      rw [sizeO_no hv] at this
      exact this
    have HN := Lib.hid hn
    clear hn hv
    go_enter Try.func6, Try.ntmps6
    go_wp2_with fail
    refine (HZ.out w).mono ?_
    rintro e w1 ⟨rfl, hb1⟩
    go_wp2_with fail
    go_ret2
    exact ⟨by rw [HN.out]; rfl, hb1.alloc hb1.size _⟩
  | true =>
    obtain ⟨l, hl⟩ : ∃ l, l = s.data.toList := ⟨_, rfl⟩
    obtain ⟨R, hR⟩ : ∃ R, R = rowsT l := ⟨_, rfl⟩
    obtain ⟨C, hC⟩ : ∃ C, C = colsT l := ⟨_, rfl⟩
    have HZ : Hid (∀ W : World, Calls Try.prog 15 #[.string s] W fun e w' => e = .returned (.tuple #[.agg #[.int .i64 R, .int .i64 C], .bool true]) ∧ Below W.heap.size W w') := by
      show ∀ W : World, _
      intro W
      have := impl_sizeOf s W hs
      rw [sizeO_yes hv, ← hl, ← hR, ← hC] at this
      exact this
    have HI1 : Hid (∀ W : World, Calls Try.prog 16 #[.agg #[.int .i64 R, .int .i64 C], .int .i64 r, .int .i64 c] W fun e w' => e = .returned (.bool (inT l r c)) ∧ Below W.heap.size W w') := by
      show ∀ W : World, _
      intro W
      unfold inT; rw [← hR, ← hC]; exact impl_has R C r c W
    have HI2 : Hid (∀ W : World, Calls Try.prog 16 #[.agg #[.int .i64 R, .int .i64 C], .int .i64 (r + 1), .int .i64 (c + 1)] W fun e w' => e = .returned (.bool (inT l (r + 1) (c + 1))) ∧ Below W.heap.size W w') := by
      show ∀ W : World, _
      intro W
      unfold inT; rw [← hR, ← hC]; exact impl_has R C (r + 1) (c + 1) W
    have HR1 := Lib.hid (fun W : World => impl_SheetRight s r c W hs (by omega))
    have HR2 := Lib.hid (fun W : World => impl_SheetRight s (r + 1) c W hs (by omega))
    have HD1 := Lib.hid (fun W : World => impl_SheetDown s r (c + 1) W hs (by omega))
    have HD2 := Lib.hid (fun W : World => impl_SheetDown s r c W hs (by omega))
    rw [← hl] at HR1 HR2 HD1 HD2 ⊢
    obtain ⟨x1, hx1⟩ : ∃ x, x = btx (crO l r c r (c + 1)) := ⟨_, rfl⟩
    obtain ⟨x2, hx2⟩ : ∃ x, x = btx (crO l r (c + 1) (r + 1) (c + 1)) := ⟨_, rfl⟩
    obtain ⟨x3, hx3⟩ : ∃ x, x = btx (crO l (r + 1) c (r + 1) (c + 1)) := ⟨_, rfl⟩
    obtain ⟨x4, hx4⟩ : ∃ x, x = btx (crO l r c (r + 1) c) := ⟨_, rfl⟩
    have z1 : x1.size ≤ 1 := by rw [hx1, btx_size]; exact crO_len _ _ _ _ _
    have z2 : x2.size ≤ 1 := by rw [hx2, btx_size]; exact crO_len _ _ _ _ _
    have z3 : x3.size ≤ 1 := by rw [hx3, btx_size]; exact crO_len _ _ _ _ _
    have z4 : x4.size ≤ 1 := by rw [hx4, btx_size]; exact crO_len _ _ _ _ _
    have a1 : ∀ W, (Op.stringOp .add x1 x2).run Try.prog W = .ok (.string (x1 ++ x2)) W := fun W => run_string_add_sum W _ _ (by omega)
    have a2 : ∀ W, (Op.stringOp .add (x1 ++ x2) x3).run Try.prog W = .ok (.string (x1 ++ x2 ++ x3)) W := fun W => run_string_add_sum W _ _ (by rw [ByteArray.size_append]; omega)
    have a3 : ∀ W, (Op.stringOp .add (x1 ++ x2 ++ x3) x4).run Try.prog W = .ok (.string (x1 ++ x2 ++ x3 ++ x4)) W := fun W => run_string_add_sum W _ _ (by rw [ByteArray.size_append, ByteArray.size_append]; omega)
    have HSum : Hid (x1 ++ x2 ++ x3 ++ x4 = btx (crO l r c r (c + 1) ++ crO l r (c + 1) (r + 1) (c + 1) ++ crO l (r + 1) c (r + 1) (c + 1) ++ crO l r c (r + 1) c)) := by
      show _ = _
      rw [hx1, hx2, hx3, hx4, ByteArray.mk_append_mk, ByteArray.mk_append_mk, ByteArray.mk_append_mk]
    have HX := Lib.hid (And.intro hx1 (And.intro hx2 (And.intro hx3 hx4)))
    have e1 : x1 = ({ data := (crO l r c r (c + 1)).toArray } : ByteArray) := HX.out.1
    have e2 : x2 = ({ data := (crO l r (c + 1) (r + 1) (c + 1)).toArray } : ByteArray) := HX.out.2.1
    have e3 : x3 = ({ data := (crO l (r + 1) c (r + 1) (c + 1)).toArray } : ByteArray) := HX.out.2.2.1
    have e4 : x4 = ({ data := (crO l r c (r + 1) c).toArray } : ByteArray) := HX.out.2.2.2
    rw [← e1] at HR1
    rw [← e2] at HD1
    rw [← e3] at HR2
    rw [← e4] at HD2
    have HCO : Hid (cornO l r c = if inT l r c = true ∧ inT l (r + 1) (c + 1) = true then some (crO l r c r (c + 1) ++ crO l r (c + 1) (r + 1) (c + 1) ++ crO l (r + 1) c (r + 1) (c + 1) ++ crO l r c (r + 1) c) else none) := by
      show _ = _
      unfold cornO
      rw [hl, hv]
      by_cases h : inT s.data.toList r c = true ∧ inT s.data.toList (r + 1) (c + 1) = true
      · rw [if_pos ⟨rfl, h.1, h.2⟩, if_pos h]
      · rw [if_neg (fun hh => h hh.2), if_neg h]
    obtain ⟨b1, hb1⟩ : ∃ b, inT l r c = b := ⟨_, rfl⟩
    obtain ⟨b2, hb2⟩ : ∃ b, inT l (r + 1) (c + 1) = b := ⟨_, rfl⟩
    rw [hb1] at HI1 HCO
    rw [hb2] at HI2 HCO
    clear hl hR hC hv hx1 hx2 hx3 hx4 e1 e2 e3 e4 z1 z2 z3 z4 HX hb1 hb2
    go_enter Try.func6, Try.ntmps6
    go_wp2_with fail
    refine (HZ.out w).mono ?_
    rintro e w1 ⟨rfl, hb1⟩
    have HB1 := Lib.hid (hb1.alloc hb1.size (.cells #[.int .i64 R, .int .i64 C] 44))
    have HK1 := Lib.hid (Blk.new w1 44 #[.int .i64 R, .int .i64 C])
    clear hb1
    go_wp2_with fail
    refine (HI1.out _).mono ?_
    rintro e w2 ⟨rfl, hb2⟩
    have HB2 := Lib.hid (HB1.out.trans (hb2.mono HB1.out.size))
    have hk2 := HK1.out.below hb2 HK1.out.lt
    have g0 : w2.cell? ⟨w1.heap.size, 0, none⟩ = some (.int .i64 R) := hk2.cell 0
    have g1 : w2.cell? ⟨w1.heap.size, 1, none⟩ = some (.int .i64 C) := hk2.cell 1
    clear hb2 HB1 HK1 hk2
    cases b1 with
    | false =>
      go_wp2_with fail
      go_ret2
      exact ⟨by rw [HCO.out]; rfl, HB2.out⟩
    | true =>
      go_wp2_with fail
      refine (HI2.out _).mono ?_
      rintro e w3 ⟨rfl, hb3⟩
      have HB3 := Lib.hid (HB2.out.trans (hb3.mono HB2.out.size))
      clear hb3 HB2 g0 g1
      cases b2 with
      | false =>
        go_wp2_with fail
        go_ret2
        exact ⟨by rw [HCO.out]; rfl, HB3.out⟩
      | true =>
        go_wp2_with fail
        refine (HR1.out _).mono ?_
        rintro e w4 ⟨rfl, hb4⟩
        have HB4 := Lib.hid (HB3.out.trans (hb4.mono HB3.out.size))
        go_wp2_with fail
        refine (HD1.out _).mono ?_
        rintro e w5 ⟨rfl, hb5⟩
        have HB5 := Lib.hid (HB4.out.trans (hb5.mono HB4.out.size))
        go_wp2_with fail
        refine (HR2.out _).mono ?_
        rintro e w6 ⟨rfl, hb6⟩
        have HB6 := Lib.hid (HB5.out.trans (hb6.mono HB5.out.size))
        go_wp2_with fail
        refine (HD2.out _).mono ?_
        rintro e w7 ⟨rfl, hb7⟩
        have HB7 := Lib.hid (HB6.out.trans (hb7.mono HB6.out.size))
        clear hb4 hb5 hb6 hb7
        go_wp2_with fail
        go_ret2
        exact ⟨by rw [HCO.out, if_pos (by simp)]; unfold txtV; rw [Option.getD_some, ← HSum.out]; rfl, HB7.out⟩
end Go.Proofs.Ytdpfnhkhojiddaa
