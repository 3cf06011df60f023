/- A sheet is folded: the walk of the law. No condition but what the row says of memory, and sizes. -/
import Derived.Test.YtmohfibgefcefaaGreatDoorFnExecuteSheetP42
import Derived.Test.YtmohfibgefcefaaGreatDoorFnExecuteSheetP49
import Derived.Test.YtmohfibgefcefaaGreatDoorFnExecuteSheetP50
import Derived.Test.YtmohfibgefcefaaGreatDoorFnExecuteSheetP51
import Derived.Test.YtmohfibgefcefaaGreatDoorFnExecuteSheetP52
namespace Go.Proofs.YtmohfibgefcefaaGreatDoor
open Go.RowKit

set_option maxHeartbeats 1000000 in
theorem impl_SheetStackO (s : ByteArray) (w : World) (hs : s.size ≤ 1000) :
    Calls Tryz.prog 8 #[.string s] w fun e w' => (∃ v, e = .returned (.tuple #[v, .bool (shB s.data.toList)]) ∧ SlC w' v (stkO s.data.toList)) ∧ Below w.heap.size w w' := by
  cases hv : shB s.data.toList with
  | true => rw [stkO_yes hv]; exact impl_SheetStack s w hv
  | false =>
    have HZ := Lib.hid (impl_sizeOf s w hs)
    rw [sizeO_no hv] at HZ
    rw [stkO_no hv]
    clear hv
    go_enter Tryz.func8, Tryz.ntmps8
    go_wp2_with fail
    refine HZ.out.mono ?_
    rintro e w1 ⟨rfl, hb1⟩
    go_wp2_with fail
    go_ret2
    exact ⟨⟨_, rfl, _, 0, rfl, RowV.nil _ _, Nat.le_refl _, by unfold maxLen; omega⟩, (hb1.alloc hb1.size _).alloc (by simp; exact Nat.le_trans hb1.size (Nat.le_succ _)) _⟩
set_option maxHeartbeats 1000000 in
set_option maxRecDepth 100000 in
theorem laws_sameCells (v v' : Value) (S : List Cl) (w : World) (h : SlC w v S) (h' : SlC w v' S) (hl : S.length ≤ 1000) :
    Calls Tryz.prog 10 #[v, v'] w fun e w' => e = .returned (.bool true) ∧ ∃ m, w.drewN m = w' := by
  obtain ⟨A, c, rfl, hr⟩ := sl_len h
  obtain ⟨A', c', rfl, hr'⟩ := sl_len h'
  have HR := Lib.hid hr
  have HR' := Lib.hid hr'
  clear h h' hr hr'
  go_enter Tryz.func10, Tryz.ntmps10
  go_wp2_with fail
  go_loopg [5] (S.length + 1) (fun gg s5 wr => ∃ (k : Nat), k ≤ S.length ∧ s5 = .int .i64 k ∧ S.length - k < gg ∧ ∃ m, wr = w.drewN m)
  case atStart => exact ⟨0, Nat.zero_le _, rfl, by omega, 0, rfl⟩
  case round =>
    obtain ⟨k, hk, rfl, hg, m, rfl⟩ := hrel
    cases gk with
    | zero => omega
    | succ g1 =>
    by_cases hlt : k < S.length
    · have k1 : (k : Int) < (S.length : Int) := by omega
      have k0 : (0 : Int) ≤ (k : Int) := by omega
      obtain ⟨b, off, rfl, hb, e0, e1, e2, e3⟩ := HR.out.cl hlt
      obtain ⟨b', off', rfl, hb', f0, f1, f2, f3⟩ := HR'.out.cl hlt
      obtain ⟨x, hx⟩ : ∃ x, x = S[k] := ⟨_, rfl⟩
      rw [← hx] at e0 e1 e2 e3 f0 f1 f2 f3
      clear hx
      go_wp2_with fail
      go_quiet (fail)
      go_wp2_with fail
      go_roundg g1
      case measure => omega
      case rel => exact ⟨k + 1, by omega, by go_num, by omega, _, rfl⟩
    · obtain rfl : k = S.length := by omega
      go_wp2_with fail
      go_ret
      exact ⟨rfl, _, rfl⟩
theorem spec_DrawSheetStack (w : World) (A : Option Addr) (cap : Nat) (bs : List UInt8) (h : Codes w w.heap.size A bs) (hl : bs.length ≤ 1048576) (hcap : bs.length ≤ cap) (hcm : cap ≤ maxLen) :
    Calls Tryz.prog 7 #[.slice A bs.length cap] w fun e w' => ∃ s : ByteArray, e = .returned (.string s) ∧ s.size ≤ 40 ∧ Below w.heap.size w w' := by
  go_enter Tryz.func7, Tryz.ntmps7
  go_wp2_with fail
  refine (spec_l6Open w A cap bs h hl hcap hcm).mono ?_
  rintro e w1 ⟨bs', rfl, R1, hb1⟩
  have hsz := R1.blk.lt
  go_wp2_with fail
  refine (spec_l92Sheet w1 w.heap.size A cap bs' 0 R1 (by omega)).mono ?_
  rintro e w2 ⟨s, q, rfl, _, hs, _, _, G2⟩
  go_wp2_with fail
  go_ret
  exact ⟨s, rfl, hs, below_of_grownU hb1 G2 (Nat.le_refl _) hb1.size⟩
/-- one column more -/
theorem colsJ_succ {T : List Cl} {k : Nat} (hk : k < T.length) : colsJ (T.take (k + 1)) = (if k = 0 then [] else colsJ (T.take k) ++ [32]) ++ Lib.decDigits T[k].2.1 := by
  have key : ∀ (xs : List (List UInt8)) (x : List UInt8), Lib.join (xs ++ [x]) [32] = (if xs.length = 0 then [] else Lib.join xs [32] ++ [32]) ++ x := by
    intro xs x
    show ([32] : List UInt8).intercalate (xs ++ [x]) = _
    induction xs with
    | nil => simp [List.intercalate]
    | cons y r ih =>
      cases r with
      | nil => simp [List.intercalate, Lib.join]
      | cons z r =>
        show ([32] : List UInt8).intercalate (y :: z :: (r ++ [x])) = _
        rw [List.intercalate_cons_cons]
        rw [show z :: (r ++ [x]) = z :: r ++ [x] from rfl, ih]
        simp only [List.length_cons, Nat.succ_ne_zero, if_false]
        show _ = (([32] : List UInt8).intercalate (y :: z :: r) ++ [32]) ++ x
        rw [List.intercalate_cons_cons]
        show _ ++ ((([32] : List UInt8).intercalate (z :: r) ++ [32]) ++ x) = _
        simp
  have e : colTs (T.take (k + 1)) = colTs (T.take k) ++ [Lib.decDigits T[k].2.1] := by
    rw [List.take_succ_eq_append_getElem hk]; unfold colTs; rw [List.map_append]; rfl
  unfold colsJ
  rw [e, key]
  have : (colTs (T.take k)).length = k := by simp [colTs]; omega
  rw [this]
/-- what the desk says of a line of a sheet -/
def outS (a b : List UInt8) : Nat → List UInt8 := fun k => if k = 0 then a else b
theorem btj_list (s : ByteArray) : btj s.data.toList = s := rfl
/-- the lines of a sheet's script -/
def lsS (l : List UInt8) : List (List UInt8) := [joinC 32 [[115, 116, 97, 99, 107], l], joinC 32 [[119, 111, 114, 100], l]]
def wrdS (l : List UInt8) : List UInt8 := if (wofO l).isSome then (wofO l).getD [] else [110, 111]
theorem wofO_someE {l : (List UInt8)} {t : (List UInt8)} (h : wofO l = some t) : t = wof l ∧ l.length ≤ 6 := by
  unfold wofO at h
  split at h
  · next hc => cases h; exact ⟨rfl, hc.1⟩
  · cases h
theorem wrdS_len {l : List UInt8} (h : l.length ≤ 5) : (wrdS l).length ≤ 100 := by
  unfold wrdS
  cases ho : wofO l with
  | none => simp
  | some t =>
    obtain ⟨rfl, h6⟩ := wofO_someE ho
    have := wof_short h6
    simp
    omega
theorem wordText (l : List UInt8) : (Value.string (if (wofO l).isSome = true then btj ((wofO l).getD []) else ⟨#[110, 111]⟩)) = .string (btj (wrdS l)) := by
  unfold wrdS
  cases wofO l <;> rfl
theorem exec_sheet (m : Int) (l : List UInt8) (hv : shB l = true) (w : World) (hm : w.cell? ⟨0, 0, none⟩ = some (.int .i64 m)) (h0 : 0 < w.heap.size) :
    Calls Tryz.prog 13 #[.string (btj (scr (lsS l)))] w fun e w' => e = .returned (.string (btj (colsJ (stackT l) ++ [10] ++ wrdS l ++ [10] ++ [97, 110, 103, 108, 101, 115, 32, 48, 10]))) ∧ Below w.heap.size w w' := by
  obtain ⟨h5, hall⟩ := shB_parts hv
  have hno : ∀ c : UInt8, (wideL c || highB c) = false → c ∉ l := fun c hc hm => by rw [hall c hm] at hc; cases hc
  have h10 := hno 10 (by decide)
  have h32 := hno 32 (by decide)
  have hcl : (colsJ (stackT l)).length ≤ 200 := by
    have hlen : (stackT l).length ≤ 32 := by rw [stackT_len hall]; exact pow5 h5
    have := join_len (colTs (stackT l)) 2 (by
      intro y hy
      obtain ⟨c, hc, rfl⟩ := List.mem_map.1 hy
      have h100 := stackT_cols h5 c hc
      by_cases h10 : c.2.1 < 10
      · rw [Lib.decDigits_one h10]; simp
      · rw [Lib.decDigits_two h10 h100]; simp)
    have hle : (colTs (stackT l)).length ≤ 32 := by simp [colTs]; omega
    unfold colsJ
    omega
  have hwl := wrdS_len h5
  have key := impl_Execute m (lsS l) (by simp [scr, lsS, joinC]; omega) (by
    intro x hx
    simp only [lsS, List.mem_cons, List.not_mem_nil, or_false] at hx
    rcases hx with rfl | rfl <;> simp [joinC, h10]) (by simp [lsS]) (fun _ => ([], [])) (outS (colsJ (stackT l)) (wrdS l)) rfl (by simp) (by
    intro k
    unfold outS
    split <;> omega) w hm h0 (by
    intro k x hk td W htd hbW hD
    have hmW : ∀ W' : World, Below W.heap.size W W' → W'.cell? ⟨0, 0, none⟩ = some (.int .i64 m) ∧ 0 < W'.heap.size := fun W' hb =>
      ⟨((hb.cell (p := ⟨0, 0, none⟩) (Nat.lt_of_lt_of_le h0 hbW.size)).trans ((hbW.cell (p := ⟨0, 0, none⟩) h0).trans hm)), Nat.lt_of_lt_of_le h0 (Nat.le_trans hbW.size hb.size)⟩
    have fin : ∀ out : List UInt8, (∀ W' : World, Below W.heap.size W W' → Calls Tryz.prog 78 #[.pointer (some ⟨td, 0, none⟩), .string (btj x)] W' fun e w' => e = .returned (.string (btj out)) ∧ Below W'.heap.size W' w') →
        Calls Tryz.prog 37 #[.pointer (some ⟨td, 0, none⟩), .string (btj x)] W fun e w' => e = .returned (.string (btj out)) ∧ W.grownBy w' (some td) ∧ Desk w' td [] [] := by
      intro out hd
      refine (impl_answer td (btj x) (btj out) W hd).mono ?_
      rintro e w' ⟨rfl, hb⟩
      exact ⟨rfl, ⟨hb.os, hb.tape, hb.output, hb.size, fun i hi _ => hb.block i hi⟩, hD.below hb⟩
    match k, hk with
    | 0, hk =>
      obtain rfl : joinC 32 [[115, 116, 97, 99, 107], l] = x := Option.some.inj hk
      refine fin (colsJ (stackT l)) fun W' hb' => ?_
      exact impl_do_stack td l m (btj (colsJ (stackT l))) true W' (hmW W' hb').1 (hmW W' hb').2 h32 (by omega) fun b V _ hc => impl_stack td b l V (World.block_lt_of_cell? _ _ hc) hc hv
    | 1, hk =>
      obtain rfl : joinC 32 [[119, 111, 114, 100], l] = x := Option.some.inj hk
      refine fin (wrdS l) fun W' hb' => ?_
      rw [← wordText]
      exact impl_do_word td l m (btj ((wofO l).getD [])) (wofO l).isSome W' (hmW W' hb').1 (hmW W' hb').2 h32 (by omega) fun b V _ hc => impl_word td b l V hc (by omega))
  refine key.mono ?_
  rintro e w' ⟨rfl, hb⟩
  refine ⟨?_, hb⟩
  have : outTo (outS (colsJ (stackT l)) (wrdS l)) 2 = colsJ (stackT l) ++ [10] ++ wrdS l ++ [10] := by
    simp [outTo, outS, List.range_succ]
  have e2 : Lib.decDigits 0 = [48] := Lib.decDigits_one (by decide)
  show Ending.returned (.string (btj (outTo _ 2 ++ ([97, 110, 103, 108, 101, 115, 32] ++ Lib.decDigits 0 ++ [10])))) = _
  rw [this, e2]
  simp
set_option maxHeartbeats 4000000 in
set_option maxRecDepth 100000 in
theorem law_FnExecuteSheet (A : Option Addr) (cap : Nat) (bs : List UInt8) (w : World) (hx : ∃ m, w.cell? ⟨0, 0, none⟩ = some (.int .i64 m)) (h0 : 0 < w.heap.size) (h : Codes w w.heap.size A bs) (hcap : bs.length ≤ cap) (hcm : cap ≤ maxLen) :
    Calls Tryz.prog 3 #[.slice A bs.length cap] w fun e w' => e = .returned (.bool true) ∧ Below w.heap.size w w' := by
  have hlm : bs.length ≤ maxLen := Nat.le_trans hcap hcm
  have hlm2 := hlm
  unfold maxLen at hlm2
  obtain ⟨m, hm⟩ := hx
  by_cases g1 : 1048576 < bs.length
  · have d1 : decide ((1048576 : Int) < (bs.length : Int)) = true := by simp; omega
    go_enter Tryz.func3, Tryz.ntmps3
    go_wp2_with fail
    go_ret
    exact ⟨rfl, Below.refl _ _⟩
  · have d1 : decide ((1048576 : Int) < (bs.length : Int)) = false := by simp; omega
    have HM := Lib.hid hm
    clear hm
    go_enter Tryz.func3, Tryz.ntmps3
    go_wp2_with fail
    refine (spec_DrawSheetStack w A cap bs h (by omega) hcap hcm).mono ?_
    rintro e w1 ⟨s, rfl, hs, hb1⟩
    have HB1 := Lib.hid hb1
    obtain ⟨l, hl⟩ : ∃ l, l = s.data.toList := ⟨_, rfl⟩
    have hll : l.length = s.size := by rw [hl]; exact size_listX s
    have hsl : s = btj l := by rw [hl]
    have HI := Lib.hid (fun W : World => impl_SheetStackO s W (by omega))
    have HS := Lib.hid (fun W : World => spec_SheetStack s W (by omega))
    rw [← hl] at HI HS
    have HTL := Lib.hid (stkO_len l)
    obtain ⟨T, hT⟩ : ∃ T, T = stkO l := ⟨_, rfl⟩
    rw [← hT] at HI HS HTL
    clear hb1
    cases hv : shB l with
    | false =>
      rw [hv] at HI HS
      clear hv hl hsl hll hT
      go_wp2_with fail
      refine (HI.out w1).mono ?_
      rintro e w2 ⟨⟨v1, rfl, hs1⟩, hb2⟩
      have HB2 := Lib.hid (below_from HB1.out hb2 HB1.out.size)
      have HS1 := Lib.hid hs1
      clear hb2 HB1 hs1
      go_wp2_with fail
      refine (HS.out w2).mono ?_
      rintro e w3 ⟨⟨v2, rfl, hs2⟩, hb3⟩
      have HB3 := Lib.hid (below_from HB2.out hb3 HB2.out.size)
      have HC := Lib.hid (fun n : Nat => laws_sameCells v1 v2 T (w3.drewN n) ((HS1.out.below hb3).below (below_drewN (Below.refl _ _) n)) (hs2.below (below_drewN (Below.refl _ _) n)) (Nat.le_trans HTL.out (by omega)))
      clear hb3 HB2 hs2 HI HS HS1
      go_wp2_with fail
      refine (HC.out 0).mono ?_
      rintro e _ ⟨rfl, n1, rfl⟩
      go_wp2_with fail
      refine (HC.out _).mono ?_
      rintro e _ ⟨rfl, n2, rfl⟩
      go_wp2_with fail
      go_ret
      exact ⟨rfl, below_drewN HB3.out _⟩
    | true =>
      obtain ⟨q1, q2⟩ := shB_parts hv
      rw [hv] at HI HS
      have htl : T.length = 2 ^ l.length := by rw [hT, stkO_yes hv, stackT_len q2]
      have hcols : ∀ q ∈ T, q.2.1 < 100 := by rw [hT, stkO_yes hv]; exact stackT_cols q1
      have HST := Lib.hid (show T = stackT l by rw [hT, stkO_yes hv])
      have HV := Lib.hid hv
      have H5 := Lib.hid q1
      have HQ2 := Lib.hid q2
      have HTE := Lib.hid htl
      have HCO := Lib.hid hcols
      have HSL := Lib.hid hsl
      have HLL := Lib.hid hll
      clear hv hT q1 q2 htl hcols hl hll hsl
      go_wp2_with fail
      refine (HI.out w1).mono ?_
      rintro e w2 ⟨⟨v1, rfl, hs1⟩, hb2⟩
      have HB2 := Lib.hid (below_from HB1.out hb2 HB1.out.size)
      have HS1 := Lib.hid hs1
      clear hb2 HB1 hs1
      go_wp2_with fail
      refine (HS.out w2).mono ?_
      rintro e w3 ⟨⟨v2, rfl, hs2⟩, hb3⟩
      have HB3 := Lib.hid (below_from HB2.out hb3 HB2.out.size)
      have HC := Lib.hid (laws_sameCells v1 v2 T w3 (HS1.out.below hb3) hs2 (Nat.le_trans HTL.out (by omega)))
      have HS2 := Lib.hid (HS1.out.below hb3)
      clear hb3 HB2 hs2 HI HS HS1
      go_wp2_with fail
      refine HC.out.mono ?_
      rintro e _ ⟨rfl, n1, rfl⟩
      have HB4 := Lib.hid (below_drewN HB3.out n1)
      have HS4 := Lib.hid (HS2.out.below (below_drewN (Below.refl _ _) n1))
      obtain ⟨w4, hw4⟩ : ∃ x, x = w3.drewN n1 := ⟨_, rfl⟩
      rw [← hw4] at HB4 HS4 ⊢
      obtain ⟨A1, c1, rfl, hr1⟩ := sl_len HS4.out
      have HR1 := Lib.hid hr1
      clear hw4 HB3 HS2 HC hr1
      by_cases he : s.size = 0
      · have k1 : ((T.length : Int) == 1) = true := by
          have := HTE.out
          rw [HLL.out, he] at this
          rw [beq_iff_eq]; simp at this; omega
        have k2 : s.toList.isEmpty = true := by
          rw [ByteArray.toList_eq]
          have : s.data.toList.length = 0 := by rw [size_listX]; exact he
          rw [List.length_eq_zero_iff] at this
          rw [this]; rfl
        clear he
        go_wp2_with fail
        go_ret
        exact ⟨rfl, HB4.out⟩
      · have k2 : s.toList.isEmpty = false := by
          rw [ByteArray.toList_eq]
          cases hq : s.data.toList with
          | nil =>
            have := size_listX s
            rw [hq] at this
            exact absurd this.symm he
          | cons _ _ => rfl
        have HT1 : Hid (1 ≤ T.length) := by show 1 ≤ _; rw [HTE.out]; exact Nat.one_le_two_pow
        have HT32 := Lib.hid HTL.out
        clear he
        go_wp2_with fail
        have HB5 := HB4
        clear k2
        go_loopg [8, 9] (T.length + 1) (fun gg s8 s9 wr => ∃ (k : Nat), k ≤ T.length ∧ s8 = .string (btj (colsJ (T.take k))) ∧ s9 = .int .i64 k ∧ T.length - k < gg ∧ Hid (Below w.heap.size w wr) ∧ Hid (RowV wr A1 (clL T)))
        case atStart => exact ⟨0, Nat.zero_le _, rfl, rfl, by omega, HB5, HR1⟩
        case round =>
          clear HB4 HB5 HR1 HS4
          have hT32 := HT32.out
          obtain ⟨k, hk, rfl, rfl, hg, HB, HR⟩ := hrel
          cases gk with
          | zero => omega
          | succ gl =>
          by_cases hlt : k < T.length
          · have k1 : (k : Int) < (T.length : Int) := by omega
            have k0 : (0 : Int) ≤ (k : Int) := by omega
            obtain ⟨b, off, rfl, hbb, e0, e1, e2, e3⟩ := HR.out.cl hlt
            have hx100 : T[k].2.1 < 100 := HCO.out _ (List.getElem_mem hlt)
            have hsucc := colsJ_succ hlt
            obtain ⟨x, hx⟩ : ∃ x, x = T[k] := ⟨_, rfl⟩
            rw [← hx] at e0 e1 e2 e3 hx100 hsucc
            have HD := Lib.hid (fun W : World => laws_digits (x.2.1 + 1) x.2.1 (by omega) (by omega) W)
            have hdl : (Lib.decDigits x.2.1).length ≤ 2 := by
              by_cases h10 : x.2.1 < 10
              · rw [Lib.decDigits_one h10]; simp
              · rw [Lib.decDigits_two h10 hx100]; simp
            have hcl : (colsJ (T.take k)).length ≤ 200 := by
              have h32 := HT32.out
              have := join_len (colTs (T.take k)) 2 (by
                intro y hy
                obtain ⟨c, hc, rfl⟩ := List.mem_map.1 hy
                have h100 := HCO.out c (List.mem_of_mem_take hc)
                by_cases h10 : c.2.1 < 10
                · rw [Lib.decDigits_one h10]; simp
                · rw [Lib.decDigits_two h10 h100]; simp)
              have hle : (colTs (T.take k)).length ≤ 32 := by simp [colTs]; omega
              unfold colsJ
              omega
            obtain ⟨D, hD⟩ : ∃ D, D = Lib.decDigits x.2.1 := ⟨_, rfl⟩
            obtain ⟨C, hC⟩ : ∃ C, C = colsJ (T.take k) := ⟨_, rfl⟩
            obtain ⟨C', hC'⟩ : ∃ C', C' = colsJ (T.take (k + 1)) := ⟨_, rfl⟩
            rw [← hD] at HD hdl hsucc
            rw [← hC] at hcl hsucc ⊢
            rw [← hC'] at hsucc
            have HC' := Lib.hid hC'
            have a2 : ∀ W, (Op.stringOp .add (btj (if k = 0 then [] else C ++ [32])) (btj D)).run Tryz.prog W = .ok (.string (btj C')) W := fun W => run_addT _ _ _ hsucc.symm (by split <;> simp <;> omega) W
            by_cases hk0 : k = 0
            · subst hk0
              obtain rfl : C = [] := hC
              rw [if_pos rfl] at a2
              clear hx hsucc hC' hD hcl
              go_wp2_with fail
              refine (HD.out wr).mono ?_
              rintro e w6 ⟨rfl, hb6⟩
              have HB6 := Lib.hid (below_from HB.out hb6 HB.out.size)
              have HR6 := Lib.hid (HR.out.below hb6)
              clear hb6 HB HR HD
              go_wp2_with fail
              go_roundg gl
              case measure => omega
              case rel => exact ⟨1, by omega, by rw [HC'.out], by go_num, by omega, HB6, HR6⟩
            · have hkp : 0 < k := by omega
              have a1 : ∀ W, (Op.stringOp .add (btj C) (btj [32])).run Tryz.prog W = .ok (.string (btj (C ++ [32]))) W := fun W => run_addT _ _ _ rfl (by simp; omega) W
              rw [if_neg hk0] at a2
              clear hk0 hx hsucc hC hC' hD hcl
              go_wp2_with fail
              refine (HD.out wr).mono ?_
              rintro e w6 ⟨rfl, hb6⟩
              have HB6 := Lib.hid (below_from HB.out hb6 HB.out.size)
              have HR6 := Lib.hid (HR.out.below hb6)
              clear hb6 HB HR HD
              go_wp2_with fail
              go_roundg gl
              case measure => omega
              case rel => exact ⟨k + 1, by omega, by rw [HC'.out], by go_num, by omega, HB6, HR6⟩
          · obtain rfl : k = T.length := by omega
            rw [List.take_of_length_le (Nat.le_refl _)]
            have hcl : (colsJ T).length ≤ 200 := by
              have h32 := HT32.out
              have := join_len (colTs T) 2 (by
                intro y hy
                obtain ⟨c, hc, rfl⟩ := List.mem_map.1 hy
                have h100 := HCO.out c hc
                by_cases h10 : c.2.1 < 10
                · rw [Lib.decDigits_one h10]; simp
                · rw [Lib.decDigits_two h10 h100]; simp)
              have hle : (colTs T).length ≤ 32 := by simp [colTs]; omega
              unfold colsJ
              omega
            have hst := HST.out
            have h5 := H5.out
            have hwl := wrdS_len h5
            have hmr : wr.cell? ⟨0, 0, none⟩ = some (.int .i64 m) := (HB.out.cell (p := ⟨0, 0, none⟩) h0).trans HM.out
            have HX := Lib.hid (fun (W : World) (hb : Below wr.heap.size wr W) => exec_sheet m l HV.out W ((hb.cell (p := ⟨0, 0, none⟩) (Nat.lt_of_lt_of_le h0 HB.out.size)).trans hmr) (Nat.lt_of_lt_of_le h0 (Nat.le_trans HB.out.size hb.size)))
            have hW := impl_WordOf s wr (by omega)
            have hsl : s.data.toList = l := by rw [HSL.out]
            rw [hsl] at hW
            obtain ⟨ow, how⟩ : ∃ ow, ow = wofO l := ⟨_, rfl⟩
            have hwd : wrdS l = if ow.isSome then ow.getD [] else [110, 111] := by rw [how]; rfl
            rw [← how] at hW
            obtain ⟨wd, hwd2⟩ : ∃ wd, wd = wrdS l := ⟨_, rfl⟩
            obtain ⟨C, hC⟩ : ∃ C, C = colsJ T := ⟨_, rfl⟩
            obtain ⟨S4, hS4⟩ : ∃ S4, S4 = scr (lsS l) := ⟨_, rfl⟩
            obtain ⟨R, hR⟩ : ∃ R, R = C ++ [10] ++ wd ++ [10] ++ [97, 110, 103, 108, 101, 115, 32, 48, 10] := ⟨_, rfl⟩
            have b1 : ∀ W, (Op.stringOp .add (btj [115, 116, 97, 99, 107, 32]) s).run Tryz.prog W = .ok (.string (btj ([115, 116, 97, 99, 107, 32] ++ l))) W := fun W => by rw [HSL.out]; exact run_addT _ _ _ rfl (by simp; omega) W
            have b2 : ∀ W, (Op.stringOp .add (btj ([115, 116, 97, 99, 107, 32] ++ l)) (btj [10, 119, 111, 114, 100, 32])).run Tryz.prog W = .ok (.string (btj ([115, 116, 97, 99, 107, 32] ++ l ++ [10, 119, 111, 114, 100, 32]))) W := fun W => run_addT _ _ _ rfl (by simp; omega) W
            have b3 : ∀ W, (Op.stringOp .add (btj ([115, 116, 97, 99, 107, 32] ++ l ++ [10, 119, 111, 114, 100, 32])) s).run Tryz.prog W = .ok (.string (btj ([115, 116, 97, 99, 107, 32] ++ l ++ [10, 119, 111, 114, 100, 32] ++ l))) W := fun W => by rw [HSL.out]; exact run_addT _ _ _ rfl (by simp; omega) W
            have b4 : ∀ W, (Op.stringOp .add (btj ([115, 116, 97, 99, 107, 32] ++ l ++ [10, 119, 111, 114, 100, 32] ++ l)) (btj [10])).run Tryz.prog W = .ok (.string (btj S4)) W := fun W => run_addT _ _ _ (by rw [hS4]; simp [scr, lsS, joinC]) (by simp; omega) W
            have c1 : ∀ W, (Op.stringOp .add (btj C) (btj [10])).run Tryz.prog W = .ok (.string (btj (C ++ [10]))) W := fun W => run_addT _ _ _ rfl (by rw [hC]; simp; omega) W
            have c2 : ∀ W, (Op.stringOp .add (btj (C ++ [10])) (btj wd)).run Tryz.prog W = .ok (.string (btj (C ++ [10] ++ wd))) W := fun W => run_addT _ _ _ rfl (by rw [hC, hwd2]; simp; omega) W
            have c3 : ∀ W, (Op.stringOp .add (btj (C ++ [10] ++ wd)) (btj [10, 97, 110, 103, 108, 101, 115, 32, 48, 10])).run Tryz.prog W = .ok (.string (btj R)) W := fun W => run_addT _ _ _ (by rw [hR]; simp) (by rw [hC, hwd2]; simp; omega) W
            rw [← hC]
            rw [← hst, ← hC, ← hwd2, ← hS4, ← hR] at HX
            rw [← hwd2] at hwd
            have HW := Lib.hid hW
            obtain ⟨S3, hS3⟩ : ∃ S3, S3 = [115, 116, 97, 99, 107, 32] ++ l ++ [10, 119, 111, 114, 100, 32] ++ l := ⟨_, rfl⟩
            obtain ⟨S2, hS2⟩ : ∃ S2, S2 = [115, 116, 97, 99, 107, 32] ++ l ++ [10, 119, 111, 114, 100, 32] := ⟨_, rfl⟩
            obtain ⟨S1, hS1⟩ : ∃ S1, S1 = [115, 116, 97, 99, 107, 32] ++ l := ⟨_, rfl⟩
            rw [← hS3] at b3 b4
            rw [← hS2] at b2 b3
            rw [← hS1] at b1 b2
            obtain ⟨D2, hD2⟩ : ∃ D2, D2 = C ++ [10] ++ wd := ⟨_, rfl⟩
            obtain ⟨D1, hD1⟩ : ∃ D1, D1 = C ++ [10] := ⟨_, rfl⟩
            rw [← hD2] at c2 c3
            rw [← hD1] at c1 c2
            have te : ((btj R).toList == (btj R).toList) = true := by simp
            clear hst hwl hmr hW hsl hwd2 hC hS4 hR hS3 hS2 hS1 hD2 hD1 how hcl
            cases ow with
            | none =>
              obtain rfl : wd = [110, 111] := hwd
              have HW2 : Hid (Calls Tryz.prog 12 #[.string s] wr fun e w' => e = .returned (.tuple #[.string ⟨#[]⟩, .bool false]) ∧ Below wr.heap.size wr w') := HW.out
              clear HW
              go_wp2_with fail
              refine HW2.out.mono ?_
              rintro e w6 ⟨rfl, hb6⟩
              have HX6 := Lib.hid (HX.out w6 hb6)
              have HB6 := Lib.hid (below_from HB.out hb6 HB.out.size)
              clear HX hb6 HB HW2
              go_wp2_with fail
              refine HX6.out.mono ?_
              rintro e w7 ⟨rfl, hb7⟩
              have HB7 := Lib.hid (below_from HB6.out hb7 HB6.out.size)
              clear HX6 hb7 HB6
              go_wp2_with fail
              go_ret
              exact ⟨rfl, HB7.out⟩
            | some y =>
              obtain rfl : wd = y := hwd
              have HW2 : Hid (Calls Tryz.prog 12 #[.string s] wr fun e w' => e = .returned (.tuple #[.string (btj wd), .bool true]) ∧ Below wr.heap.size wr w') := HW.out
              clear HW
              go_wp2_with fail
              refine HW2.out.mono ?_
              rintro e w6 ⟨rfl, hb6⟩
              have HX6 := Lib.hid (HX.out w6 hb6)
              have HB6 := Lib.hid (below_from HB.out hb6 HB.out.size)
              clear HX hb6 HB HW2
              go_wp2_with fail
              refine HX6.out.mono ?_
              rintro e w7 ⟨rfl, hb7⟩
              have HB7 := Lib.hid (below_from HB6.out hb7 HB6.out.size)
              clear HX6 hb7 HB6
              go_wp2_with fail
              go_ret
              exact ⟨rfl, HB7.out⟩
end Go.Proofs.YtmohfibgefcefaaGreatDoor
