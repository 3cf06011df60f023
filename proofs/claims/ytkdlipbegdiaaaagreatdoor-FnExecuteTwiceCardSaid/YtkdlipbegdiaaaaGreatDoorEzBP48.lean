/- FnExecuteWhat, FnExecuteTwice: unknown lines and asking change nothing. No condition but what the row says of memory and what the table of powers of ten holds. -/
import Derived.Test.YtkdlipbegdiaaaaGreatDoorEzBP33
import Derived.Test.YtkdlipbegdiaaaaGreatDoorEzBP46
import Derived.Test.YtkdlipbegdiaaaaGreatDoorEzBP47
namespace Go.Proofs.YtkdlipbegdiaaaaGreatDoor
open Go.RowKit
theorem run_addB (a b c : List UInt8) (h : a ++ b = c) (hl : a.length + b.length ≤ 1000000000) (W : World) : (Op.stringOp .add (btj a) (btj b)).run Tryz.prog W = .ok (.string (btj c)) W := by
  rw [run_string_add_sum W _ _ (by rw [btj_size, btj_size]; omega), ← h]
  exact congrArg (fun x => Result.ok (Value.string x) W) (ByteArray.mk_append_mk a b)
theorem endT_split (n : Nat) : endT n = ([97, 110, 103, 108, 101, 115, 32] ++ Lib.decDigits n) ++ [10] := rfl
theorem endT_no (n : Nat) : (10 : UInt8) ∉ [97, 110, 103, 108, 101, 115, 32] ++ Lib.decDigits n := by
  rw [List.mem_append]
  rintro (h | h)
  · exact absurd h (by decide)
  · exact dec_no (by decide) (n + 1) n (by omega) h
theorem endT_len {n : Nat} (h : n ≤ 10) : (endT n).length ≤ 14 := by
  have := dec_len_le (n := n) (by omega)
  rw [endT_split]; simp; omega
theorem btj_take (p q : List UInt8) : (btj (p ++ q)).extract 0 p.length = btj p := by rw [btj_cut, List.take_left]; rfl
theorem scr_lnsT_len (t : List UInt8) : (scr (lnsT t)).length ≤ t.length := by
  obtain ⟨z, hz, _⟩ := lnsT_cut t
  have := congrArg List.length hz
  rw [List.length_append] at this; omega
theorem lns_scr_len (ls : List (List UInt8)) : ls.length ≤ (scr ls).length := by
  induction ls with
  | nil => simp
  | cons x r ih =>
    have : scr (x :: r) = (x ++ [10]) ++ scr r := rfl
    rw [this]; simp; omega
set_option maxHeartbeats 4000000 in
set_option maxRecDepth 100000 in
theorem law_FnExecuteWhat (A : Option Addr) (cap : Nat) (bs : List UInt8) (w : World) (hx : ∃ m, w.cell? ⟨0, 0, none⟩ = some (.int .i64 m)) (h0 : 0 < w.heap.size) (hp : Pow w) (h : Codes w w.heap.size A bs) (hcap : bs.length ≤ cap) (hcm : cap ≤ maxLen) :
    Calls Tryz.prog 6 #[.slice A bs.length cap] w fun e w' => e = .returned (.bool true) ∧ Below w.heap.size w w' := by
  have hlm : bs.length ≤ maxLen := Nat.le_trans hcap hcm
  unfold maxLen at hlm
  obtain ⟨m, hm⟩ := hx
  by_cases g1 : 1048576 < bs.length
  · have d1 : decide ((1048576 : Int) < (bs.length : Int)) = true := by simp; omega
    go_enter Tryz.func6, Tryz.ntmps6
    go_wp2_with fail
    go_ret
    exact ⟨rfl, Below.refl _ _⟩
  · have d1 : decide ((1048576 : Int) < (bs.length : Int)) = false := by simp; omega
    have HEX := Lib.hid (fun (t : List UInt8) (W : World) (hb : Below w.heap.size w W) => impl_ExecuteG m t W ((hb.cell (p := ⟨0, 0, none⟩) h0).trans hm) (Nat.lt_of_lt_of_le h0 hb.size) (hp.below hb))
    have HES := Lib.hid (fun (t : List UInt8) (W : World) => spec_ExecuteT t W)
    clear hm hp
    go_enter Tryz.func6, Tryz.ntmps6
    go_wp2_with fail
    refine (spec_DrawExecute w A cap bs h (by omega) hcap hcm).mono ?_
    rintro e w1 ⟨s, rfl, hsz, hb1⟩
    obtain ⟨t, ht⟩ : ∃ t, t = s.data.toList := ⟨_, rfl⟩
    obtain rfl : s = btj t := by rw [ht]
    have htl : t.length ≤ 10000 := by rw [← btj_size]; exact hsz
    have HB1 := Lib.hid hb1
    have HE1 := Lib.hid (HEX.out t)
    have HE2 := Lib.hid (HES.out t)
    obtain ⟨z, hz, hzn⟩ := lnsT_cut t
    have HC := Lib.hid (fun W : World => laws_complete (scr (lnsT t)) z hzn (scr_end _) (by rw [← hz]; omega) W)
    rw [← hz] at HC
    have hno := lnsT_no t
    have hscl := scr_lnsT_len t
    obtain ⟨ls, hls⟩ : ∃ ls, ls = lnsT t := ⟨_, rfl⟩
    rw [← hls] at HC hno hscl
    have HE3 := Lib.hid (HEX.out (scr ls))
    have HE4 := Lib.hid (HEX.out (scr ls ++ [122, 122, 122, 10, 97, 110, 103, 108, 101, 115, 32, 57, 32, 57, 10]))
    obtain ⟨R0, hR0⟩ : ∃ R, R = exeT t := ⟨_, rfl⟩
    rw [← hR0] at HE1 HE2
    obtain ⟨T, hT⟩ : ∃ T, T = btj t := ⟨_, rfl⟩
    rw [← hT] at HE1 HE2 HC ⊢
    obtain ⟨C, hC⟩ : ∃ C, C = btj (scr ls) := ⟨_, rfl⟩
    have hCs : C.size = (scr ls).length := by rw [hC, btj_size]
    rw [← hC] at HC
    clear h hb1 hz ht hsz hzn hls hT hR0
    go_wp2_with fail
    refine (HE1.out w1 HB1.out).mono ?_
    rintro e w2 ⟨rfl, hb2⟩
    have HB2 := Lib.hid (HB1.out.trans (hb2.mono HB1.out.size))
    clear hb2 HB1 HE1
    go_wp2_with fail
    refine (HE2.out w2).mono ?_
    rintro e w3 ⟨rfl, hb3⟩
    have HB3 := Lib.hid (HB2.out.trans (hb3.mono HB2.out.size))
    clear hb3 HB2 HE2
    go_wp2_with fail
    refine (HC.out w3).mono ?_
    rintro e w4 ⟨rfl, rfl⟩
    by_cases g3 : 284 < (scr ls).length
    · have d3 : (284 : Int) < (C.size : Int) := by rw [hCs]; omega
      clear hC hCs HE3 HE4
      go_wp2_with fail
      go_ret
      exact ⟨rfl, HB3.out⟩
    · have d3 : ¬ ((284 : Int) < (C.size : Int)) := by rw [hCs]; omega
      have hp1 := preT_end ls
      have hpl := preT_len (ls := ls) (by have := lns_scr_len ls; omega)
      have hen := (stA_ok ls ls.length).len.1
      have eA := exeT_scr hno (by omega)
      have eB := exeT_what hno (by omega)
      rw [eA] at HE3
      rw [eB] at HE4
      obtain ⟨n, hn⟩ : ∃ n, n = (endS ls).1.length := ⟨_, rfl⟩
      have hn10 : n ≤ 10 := by rw [hn]; exact hen
      have hel := endT_len hn10
      rw [← hn] at HE3 HE4
      obtain ⟨p, hpp⟩ : ∃ p, p = preT ls := ⟨_, rfl⟩
      rw [← hpp] at HE3 HE4 hp1 hpl
      have HLL := Lib.hid (fun W : World => laws_lastLine p ([97, 110, 103, 108, 101, 115, 32] ++ Lib.decDigits n) (endT_no n) hp1 (by rw [← endT_split, List.length_append]; omega) W)
      rw [← endT_split] at HLL
      have hcut := btj_take p (endT n)
      have b0 : ∀ W, (Op.stringOp .add C (btj [122, 122, 122, 10, 97, 110, 103, 108, 101, 115, 32, 57, 32, 57, 10])).run Tryz.prog W = .ok (.string (btj (scr ls ++ [122, 122, 122, 10, 97, 110, 103, 108, 101, 115, 32, 57, 32, 57, 10]))) W := fun W => by rw [hC]; exact run_addB _ _ _ rfl (by simp; omega) W
      obtain ⟨S2, hS2⟩ : ∃ S, S = btj (scr ls ++ [122, 122, 122, 10, 97, 110, 103, 108, 101, 115, 32, 57, 32, 57, 10]) := ⟨_, rfl⟩
      rw [← hS2] at b0 HE4
      have b1 : ∀ W, (Op.stringOp .add (btj p) (btj [119, 104, 97, 116, 10, 110, 111, 10])).run Tryz.prog W = .ok (.string (btj (p ++ [119, 104, 97, 116, 10, 110, 111, 10]))) W := fun W => run_addB _ _ _ rfl (by simp; omega) W
      obtain ⟨P1, hP1⟩ : ∃ P, P = p ++ [119, 104, 97, 116, 10, 110, 111, 10] := ⟨_, rfl⟩
      rw [← hP1] at b1 HE4
      have hP1l : P1.length ≤ 5000000 := by rw [hP1]; simp; omega
      have b2 : ∀ W, (Op.stringOp .add (btj P1) (btj (endT n))).run Tryz.prog W = .ok (.string (btj (P1 ++ endT n))) W := fun W => run_addB _ _ _ rfl (by omega) W
      obtain ⟨R, hR⟩ : ∃ R, R = P1 ++ endT n := ⟨_, rfl⟩
      rw [← hR] at b2 HE4
      obtain ⟨AA, hAA⟩ : ∃ X, X = btj (p ++ endT n) := ⟨_, rfl⟩
      rw [← hAA] at HE3 HLL hcut
      obtain ⟨EE, hEE⟩ : ∃ X, X = btj (endT n) := ⟨_, rfl⟩
      rw [← hEE] at HLL b2
      have hAs : (AA.size : Int) - (EE.size : Int) = (p.length : Int) := by rw [hAA, hEE, btj_size, btj_size, List.length_append]; omega
      have iw : IntKind.i64.wrap ((AA.size : Int) - (EE.size : Int)) = (p.length : Int) := by rw [hAs]; exact IntWalk.i64_in _ (by omega)
      have f1 : (0 : Int) ≤ (p.length : Int) := by omega
      have f2 : (p.length : Int) ≤ (AA.size : Int) := by omega
      have HE3' : Hid (∀ W : World, Below w.heap.size w W → Calls Tryz.prog 12 #[.string C] W fun e w' => e = .returned (.string AA) ∧ Below W.heap.size W w') := by rw [hC]; exact HE3.out
      clear hC hCs g3 hp1 hen eA eB hn hel hpp hS2 hP1 hR hAA hEE hno hscl HE3 hAs
      go_wp2_with fail
      refine (HE3'.out w3 HB3.out).mono ?_
      rintro e w5 ⟨rfl, hb5⟩
      have HB5 := Lib.hid (HB3.out.trans (hb5.mono HB3.out.size))
      clear hb5 HB3 HE3'
      go_wp2_with fail
      go_region_law ((go_simp; first
        | (go_at_call 12; refine (HE4.out _ (below_drewN HB5.out _)).mono ?_; rintro e w7 ⟨rfl, hb7⟩)
        | (go_at_call 17; refine (HLL.out _).mono ?_; rintro e _ ⟨rfl, rfl⟩)))
      have HB7 := Lib.hid ((below_drewN HB5.out 1).trans (hb7.mono HB5.out.size))
      clear hb7 HB5
      go_wp2_with fail
      go_ret
      exact ⟨rfl, HB7.out⟩
set_option maxHeartbeats 4000000 in
set_option maxRecDepth 100000 in
theorem law_FnExecuteTwice (A : Option Addr) (cap : Nat) (bs : List UInt8) (w : World) (hx : ∃ m, w.cell? ⟨0, 0, none⟩ = some (.int .i64 m)) (h0 : 0 < w.heap.size) (hp : Pow w) (h : Codes w w.heap.size A bs) (hcap : bs.length ≤ cap) (hcm : cap ≤ maxLen) :
    Calls Tryz.prog 7 #[.slice A bs.length cap] w fun e w' => e = .returned (.bool true) ∧ Below w.heap.size w w' := by
  have hlm : bs.length ≤ maxLen := Nat.le_trans hcap hcm
  unfold maxLen at hlm
  obtain ⟨m, hm⟩ := hx
  by_cases g1 : 1048576 < bs.length
  · have d1 : decide ((1048576 : Int) < (bs.length : Int)) = true := by simp; omega
    go_enter Tryz.func7, Tryz.ntmps7
    go_wp2_with fail
    go_ret
    exact ⟨rfl, Below.refl _ _⟩
  · have d1 : decide ((1048576 : Int) < (bs.length : Int)) = false := by simp; omega
    have HEX := Lib.hid (fun (t : List UInt8) (W : World) (hb : Below w.heap.size w W) => impl_ExecuteG m t W ((hb.cell (p := ⟨0, 0, none⟩) h0).trans hm) (Nat.lt_of_lt_of_le h0 hb.size) (hp.below hb))
    have HES := Lib.hid (fun (t : List UInt8) (W : World) => spec_ExecuteT t W)
    clear hm hp
    go_enter Tryz.func7, Tryz.ntmps7
    go_wp2_with fail
    refine (spec_DrawExecute w A cap bs h (by omega) hcap hcm).mono ?_
    rintro e w1 ⟨s, rfl, hsz, hb1⟩
    obtain ⟨t, ht⟩ : ∃ t, t = s.data.toList := ⟨_, rfl⟩
    obtain rfl : s = btj t := by rw [ht]
    have htl : t.length ≤ 10000 := by rw [← btj_size]; exact hsz
    have HB1 := Lib.hid hb1
    have HE1 := Lib.hid (HEX.out t)
    have HE2 := Lib.hid (HES.out t)
    obtain ⟨z, hz, hzn⟩ := lnsT_cut t
    have HC := Lib.hid (fun W : World => laws_complete (scr (lnsT t)) z hzn (scr_end _) (by rw [← hz]; omega) W)
    rw [← hz] at HC
    have hno := lnsT_no t
    have hscl := scr_lnsT_len t
    obtain ⟨ls, hls⟩ : ∃ ls, ls = lnsT t := ⟨_, rfl⟩
    rw [← hls] at HC hno hscl
    have HE3 := Lib.hid (HEX.out (scr ls))
    have HE4 := Lib.hid (HEX.out (scr ls ++ [102, 105, 114, 115, 116, 10]))
    have HE5 := Lib.hid (HEX.out (scr ls ++ [102, 105, 114, 115, 116, 10, 102, 105, 114, 115, 116, 10]))
    obtain ⟨R0, hR0⟩ : ∃ R, R = exeT t := ⟨_, rfl⟩
    rw [← hR0] at HE1 HE2
    obtain ⟨T, hT⟩ : ∃ T, T = btj t := ⟨_, rfl⟩
    rw [← hT] at HE1 HE2 HC ⊢
    obtain ⟨C, hC⟩ : ∃ C, C = btj (scr ls) := ⟨_, rfl⟩
    have hCs : C.size = (scr ls).length := by rw [hC, btj_size]
    rw [← hC] at HC
    clear h hb1 hz ht hsz hzn hls hT hR0
    go_wp2_with fail
    refine (HE1.out w1 HB1.out).mono ?_
    rintro e w2 ⟨rfl, hb2⟩
    have HB2 := Lib.hid (HB1.out.trans (hb2.mono HB1.out.size))
    clear hb2 HB1 HE1
    go_wp2_with fail
    refine (HE2.out w2).mono ?_
    rintro e w3 ⟨rfl, hb3⟩
    have HB3 := Lib.hid (HB2.out.trans (hb3.mono HB2.out.size))
    clear hb3 HB2 HE2
    go_wp2_with fail
    refine (HC.out w3).mono ?_
    rintro e w4 ⟨rfl, rfl⟩
    by_cases g3 : 288 < (scr ls).length
    · have d3 : (288 : Int) < (C.size : Int) := by rw [hCs]; omega
      clear hC hCs HE3 HE4 HE5
      go_wp2_with fail
      go_ret
      exact ⟨rfl, HB3.out⟩
    · have d3 : ¬ ((288 : Int) < (C.size : Int)) := by rw [hCs]; omega
      have hp1 := preT_end ls
      have hpl := preT_len (ls := ls) (by have := lns_scr_len ls; omega)
      have hen := (stA_ok ls ls.length).len.1
      have eA := exeT_scr hno (by omega)
      have eB := exeT_frst hno (by omega)
      have eD := exeT_twice hno (by omega)
      rw [eA] at HE3
      rw [eB] at HE4
      rw [eD] at HE5
      have hol : (frT (endS ls)).length ≤ 10 := saidT_len (vfoT_len _) (by omega)
      obtain ⟨o, ho⟩ : ∃ o, o = frT (endS ls) ++ [10] := ⟨_, rfl⟩
      have hol2 : o.length ≤ 11 := by rw [ho]; simp; omega
      rw [← ho] at HE4 HE5
      obtain ⟨n, hn⟩ : ∃ n, n = (endS ls).1.length := ⟨_, rfl⟩
      have hn10 : n ≤ 10 := by rw [hn]; exact hen
      have hel := endT_len hn10
      rw [← hn] at HE3 HE4 HE5
      obtain ⟨p, hpp⟩ : ∃ p, p = preT ls := ⟨_, rfl⟩
      rw [← hpp] at HE3 HE4 HE5 hp1 hpl
      have HLL := Lib.hid (fun W : World => laws_lastLine p ([97, 110, 103, 108, 101, 115, 32] ++ Lib.decDigits n) (endT_no n) hp1 (by rw [← endT_split, List.length_append]; omega) W)
      rw [← endT_split] at HLL
      have hcut := btj_take p (endT n)
      have b0 : ∀ W, (Op.stringOp .add C (btj [102, 105, 114, 115, 116, 10])).run Tryz.prog W = .ok (.string (btj (scr ls ++ [102, 105, 114, 115, 116, 10]))) W := fun W => by rw [hC]; exact run_addB _ _ _ rfl (by simp; omega) W
      have b0' : ∀ W, (Op.stringOp .add C (btj [102, 105, 114, 115, 116, 10, 102, 105, 114, 115, 116, 10])).run Tryz.prog W = .ok (.string (btj (scr ls ++ [102, 105, 114, 115, 116, 10, 102, 105, 114, 115, 116, 10]))) W := fun W => by rw [hC]; exact run_addB _ _ _ rfl (by simp; omega) W
      obtain ⟨S2, hS2⟩ : ∃ S, S = btj (scr ls ++ [102, 105, 114, 115, 116, 10]) := ⟨_, rfl⟩
      obtain ⟨S3, hS3⟩ : ∃ S, S = btj (scr ls ++ [102, 105, 114, 115, 116, 10, 102, 105, 114, 115, 116, 10]) := ⟨_, rfl⟩
      rw [← hS2] at b0 HE4
      rw [← hS3] at b0' HE5
      have hcut2 : (btj ((p ++ o) ++ endT n)).extract p.length (p ++ o).length = btj o := by rw [btj_cut, List.take_left, List.drop_left]
      have b1 : ∀ W, (Op.stringOp .add (btj p) (btj o)).run Tryz.prog W = .ok (.string (btj (p ++ o))) W := fun W => run_addB _ _ _ rfl (by omega) W
      obtain ⟨BB, hBB⟩ : ∃ X, X = btj ((p ++ o) ++ endT n) := ⟨_, rfl⟩
      rw [← hBB] at HE4 hcut2
      obtain ⟨P1, hP1⟩ : ∃ P, P = p ++ o := ⟨_, rfl⟩
      have hP1l : P1.length = p.length + o.length := by rw [hP1, List.length_append]
      rw [← hP1] at b1 HE5 hcut2 hBB
      have b2 : ∀ W, (Op.stringOp .add (btj P1) (btj o)).run Tryz.prog W = .ok (.string (btj (P1 ++ o))) W := fun W => run_addB _ _ _ rfl (by omega) W
      obtain ⟨P2, hP2⟩ : ∃ P, P = P1 ++ o := ⟨_, rfl⟩
      have hP2l : P2.length ≤ 5000000 := by rw [hP2, List.length_append]; omega
      rw [← hP2] at b2 HE5
      have b3 : ∀ W, (Op.stringOp .add (btj P2) (btj (endT n))).run Tryz.prog W = .ok (.string (btj (P2 ++ endT n))) W := fun W => run_addB _ _ _ rfl (by omega) W
      obtain ⟨R, hR⟩ : ∃ R, R = P2 ++ endT n := ⟨_, rfl⟩
      rw [← hR] at b3 HE5
      obtain ⟨AA, hAA⟩ : ∃ X, X = btj (p ++ endT n) := ⟨_, rfl⟩
      rw [← hAA] at HE3 HLL hcut
      obtain ⟨EE, hEE⟩ : ∃ X, X = btj (endT n) := ⟨_, rfl⟩
      rw [← hEE] at HLL b3
      have hAs : (AA.size : Int) - (EE.size : Int) = (p.length : Int) := by rw [hAA, hEE, btj_size, btj_size, List.length_append]; omega
      have hBs : (BB.size : Int) - (EE.size : Int) = (P1.length : Int) := by rw [hBB, hEE, btj_size, btj_size, List.length_append]; omega
      have iw : IntKind.i64.wrap ((AA.size : Int) - (EE.size : Int)) = (p.length : Int) := by rw [hAs]; exact IntWalk.i64_in _ (by omega)
      have iw2 : IntKind.i64.wrap ((BB.size : Int) - (EE.size : Int)) = (P1.length : Int) := by rw [hBs]; exact IntWalk.i64_in _ (by omega)
      obtain ⟨np, hnp⟩ : ∃ np, np = p.length := ⟨_, rfl⟩
      obtain ⟨nq, hnq⟩ : ∃ nq, nq = P1.length := ⟨_, rfl⟩
      have f1 : (0 : Int) ≤ (np : Int) := by omega
      have f2 : (np : Int) ≤ (AA.size : Int) := by omega
      have f3 : (np : Int) ≤ (nq : Int) := by omega
      have f4 : (nq : Int) ≤ (BB.size : Int) := by omega
      have f5 : (0 : Int) ≤ (nq : Int) := by omega
      rw [← hnp] at iw hcut hcut2
      rw [← hnq] at iw2 hcut2
      have HE3' : Hid (∀ W : World, Below w.heap.size w W → Calls Tryz.prog 12 #[.string C] W fun e w' => e = .returned (.string AA) ∧ Below W.heap.size W w') := by rw [hC]; exact HE3.out
      clear hC hCs g3 hp1 hen eA eB eD hn hel hpp hS2 hS3 hP1 hP2 hR hAA hBB hEE hno hscl HE3 hAs hBs hnp hnq hP1l hP2l ho hol hol2 hpl
      go_wp2_with fail
      refine (HE3'.out w3 HB3.out).mono ?_
      rintro e w5 ⟨rfl, hb5⟩
      have HB5 := Lib.hid (HB3.out.trans (hb5.mono HB3.out.size))
      clear hb5 HB3 HE3'
      go_wp2_with fail
      refine (HLL.out w5).mono ?_
      rintro e _ ⟨rfl, rfl⟩
      go_wp2_with fail
      refine (HE4.out w5 HB5.out).mono ?_
      rintro e w6 ⟨rfl, hb6⟩
      have HB6 := Lib.hid (HB5.out.trans (hb6.mono HB5.out.size))
      clear hb6 HB5 HE4 HLL
      go_wp2_with fail
      go_region_law ((go_simp; go_at_call 12; refine (HE5.out _ (below_drewN HB6.out _)).mono ?_; rintro e w7 ⟨rfl, hb7⟩))
      have HB7 := Lib.hid ((below_drewN HB6.out 1).trans (hb7.mono HB6.out.size))
      clear hb7 HB6
      go_wp2_with fail
      go_ret
      exact ⟨rfl, HB7.out⟩
end Go.Proofs.YtkdlipbegdiaaaaGreatDoor
