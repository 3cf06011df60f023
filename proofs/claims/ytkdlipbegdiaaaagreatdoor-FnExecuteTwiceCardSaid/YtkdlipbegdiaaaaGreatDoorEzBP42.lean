/- The reference's script: the lines that ask. No condition but sizes. The desk's commands, at all that a line may say: the program's. No condition but sizes, and what the table of powers of ten holds. -/
import Derived.Test.YtkdlipbegdiaaaaGreatDoorEzBP41
import Derived.Test.YtkdlipbegdiaaaaGreatDoorEzBP7
import Derived.Test.YtkdlipbegdiaaaaGreatDoorEzBP32
import Derived.Test.YtkdlipbegdiaaaaGreatDoorEzBP36
import Derived.Test.YtkdlipbegdiaaaaGreatDoorEzBP39
namespace Go.Proofs.YtkdlipbegdiaaaaGreatDoor
open Go.RowKit
theorem colsJ_next {T : List Cl} {k : Nat} (hk : k < T.length) : colsJ (T.take (k + 1)) = (if k = 0 then [] else colsJ (T.take k) ++ [32]) ++ Lib.decDigits T[k].2.1 := by
  have key : ∀ (xs : List (List UInt8)) (x : List UInt8), Lib.join (xs ++ [x]) [32] = (if xs.length = 0 then [] else Lib.join xs [32] ++ [32]) ++ x := by
    intro xs x
    show ([32] : List UInt8).intercalate (xs ++ [x]) = _
    induction xs with
    | nil => simp [List.intercalate]
    | cons y r ih =>
      cases r with
      | nil => simp [List.intercalate, Lib.join]
      | cons z r =>
        show ([32] : List UInt8).intercalate (y :: z :: (r ++ [x])) = _
        rw [List.intercalate_cons_cons]
        rw [show z :: (r ++ [x]) = z :: r ++ [x] from rfl, ih]
        simp only [List.length_cons, Nat.succ_ne_zero, if_false]
        show _ = (([32] : List UInt8).intercalate (y :: z :: r) ++ [32]) ++ x
        rw [List.intercalate_cons_cons]
        show _ ++ ((([32] : List UInt8).intercalate (z :: r) ++ [32]) ++ x) = _
        simp
  have e : colTs (T.take (k + 1)) = colTs (T.take k) ++ [Lib.decDigits T[k].2.1] := by
    rw [List.take_succ_eq_append_getElem hk]; unfold colTs; rw [List.map_append]; rfl
  unfold colsJ
  rw [e, key]
  have : (colTs (T.take k)).length = k := by simp [colTs]; omega
  rw [this]
set_option maxHeartbeats 1000000 in
set_option maxRecDepth 100000 in
theorem spec_l7Test (A : Option Addr) (c : Nat) (xs : List Int) (f : List UInt8) (w : World) (h : Ints w A xs) (hc : xs.length ≤ c) (hm : c ≤ maxLen) (hf : f.length ≤ 1000) :
    Calls Tryz.prog 86 #[.agg #[.slice A xs.length c, .string (btj f)]] w fun e w' => e = .returned (.string (btj (saidT (testT xs f) (decide (f ≠ [])) ++ [10]))) ∧ Below w.heap.size w w' := by
  have hb1 : Below w.heap.size w (w.alloc (.cells #[.slice A xs.length c, .string (btj f)] 53)) := (Below.refl _ _).alloc (Nat.le_refl _) _
  have HV := Lib.hid (spec_VertexFolds A c xs (btj f) _ (h.below hb1) (by omega) (by rw [btj_size]; unfold maxLen; omega) hc hm)
  have HB1 := Lib.hid hb1
  clear hb1 h hc hm
  by_cases he : f = []
  · subst he
    go_enter Tryz.func86, Tryz.ntmps86
    go_wp2_with fail
    go_ret
    exact ⟨rfl, HB1.out⟩
  · have k2 : f.isEmpty = false := by
      cases f with
      | nil => exact absurd rfl he
      | cons _ _ => rfl
    have HT : Hid (testT xs f = if vfB xs (btj f) then [102, 111, 108, 100, 115] else [115, 116, 117, 99, 107]) := by show _ = _; unfold testT; rw [if_neg he]
    have HE : Hid (decide (f ≠ []) = true) := by show _ = _; simp [he]
    clear he
    go_enter Tryz.func86, Tryz.ntmps86
    go_wp2_with fail
    refine HV.out.mono ?_
    rintro e w2 ⟨rfl, hb2⟩
    have HB2 := Lib.hid (HB1.out.trans (hb2.mono HB1.out.size))
    clear hb2
    cases hvv : vfB xs (btj f) with
    | true =>
      rw [hvv] at HT
      clear hvv
      go_wp2_with fail
      go_ret
      exact ⟨by rw [HT.out, HE.out]; rfl, HB2.out⟩
    | false =>
      rw [hvv] at HT
      clear hvv
      go_wp2_with fail
      go_ret
      exact ⟨by rw [HT.out, HE.out]; rfl, HB2.out⟩
theorem spec_StripManyI (A : Option Addr) (cap : Nat) (xs : List Int) (f : List UInt8) (w : World) (h : Ints w A xs) (hl : xs.length ≤ 1000) (hf : f.length ≤ 1000) :
    Calls Tryz.prog 10 #[.slice A xs.length cap, .string (btj f)] w fun e w' => e = .returned (.int .i64 (if svB xs f then (smany xs (btj f) : Nat) else -1)) ∧ Below w.heap.size w w' := by
  cases hv : svB xs f with
  | true => exact spec_StripMany A cap xs (btj f) w h hv
  | false =>
    refine (spec_StripMany_no A cap xs (btj f) w h (by unfold maxLen; omega) (by rw [btj_size]; unfold maxLen; omega) hv).mono ?_
    rintro e _ ⟨rfl, rfl⟩
    exact ⟨rfl, Below.refl _ _⟩
set_option maxHeartbeats 1000000 in
set_option maxRecDepth 100000 in
theorem spec_l7Strip (A : Option Addr) (c : Nat) (x : List UInt8) (ws : List (List UInt8)) (w : World) (hS : Strs w A ws) (hl : ws.length ≤ 1000) (hx : x.length ≤ 1000) :
    Calls Tryz.prog 88 #[.string (btj x), .slice A ws.length c] w fun e w' => e = .returned (.string (btj (cntTx (stripI x ws) ++ [10]))) ∧ Below w.heap.size w w' := by
  have HN := Lib.hid (spec_l7Numbers A c ws w hS hl)
  have hst : stripI x ws = if svB (numsV ws) (stripF x) then ((smany (numsV ws) (btj (stripF x)) : Nat) : Int) else -1 := rfl
  have h1b := stripI_le x ws
  have h2 : stripI x ws = -1 ∨ 0 ≤ stripI x ws := by
    unfold stripI
    split <;> omega
  have hfl : (stripF x).length ≤ 1000 := by
    unfold stripF
    split
    · simp
    · exact hx
  have hnl : (numsV ws).length = ws.length := numsV_len ws
  obtain ⟨z, hz⟩ : ∃ z, z = stripI x ws := ⟨_, rfl⟩
  rw [← hz] at hst h1b h2 ⊢
  have HCT := Lib.hid (fun (W : World) => spec_l7Count z (by omega) W)
  obtain ⟨o, ho⟩ : ∃ o, o = cntTx z ++ [10] := ⟨_, rfl⟩
  rw [← ho] at HCT ⊢
  obtain ⟨xs, hxs⟩ : ∃ xs, xs = numsV ws := ⟨_, rfl⟩
  rw [← hxs] at HN hst hnl
  have HSM : Hid (∀ (A : Option Addr) (c : Nat) (W : World), Ints W A xs → Calls Tryz.prog 10 #[.slice A xs.length c, .string (btj (stripF x))] W fun e w' => e = .returned (.int .i64 z) ∧ Below W.heap.size W w') := by
    show ∀ (A : Option Addr) (c : Nat) (W : World), _
    intro A c W hI
    have := spec_StripManyI A c xs (stripF x) W hI (by omega) hfl
    rw [← hst] at this
    exact this
  clear hst h1b h2 hfl hnl hz ho hxs hS
  by_cases hx45 : x = [45]
  · subst hx45
    have hsf : btj (stripF [45]) = ⟨#[]⟩ := rfl
    rw [hsf] at HSM
    go_enter Tryz.func88, Tryz.ntmps88
    go_wp2_with fail
    refine HN.out.mono ?_
    rintro e w1 ⟨v, rfl, ho1, hb1⟩
    obtain ⟨A1, c1, rfl, hi1, _, _⟩ := Own.form ho1
    have HS1 := Lib.hid (HSM.out A1 c1 w1 hi1)
    have HB1 := Lib.hid hb1
    clear ho1 hi1 hb1 HN HSM
    go_wp2_with fail
    refine HS1.out.mono ?_
    rintro e w2 ⟨rfl, hb2⟩
    have HB2 := Lib.hid (HB1.out.trans (hb2.mono HB1.out.size))
    have HCT1 := Lib.hid (HCT.out w2)
    clear hb2 HB1 HCT HS1
    go_wp2_with fail
    refine HCT1.out.mono ?_
    rintro e w3 ⟨rfl, hb3⟩
    have HB3 := Lib.hid (HB2.out.trans (hb3.mono HB2.out.size))
    clear hb3
    go_wp2_with fail
    go_ret
    exact ⟨rfl, HB3.out⟩
  · have hsf : stripF x = x := by unfold stripF; rw [if_neg hx45]
    rw [hsf] at HSM
    have d1 : (x == [45]) = false := by rw [beq_eq_false_iff_ne]; exact hx45
    clear hx45 hsf
    go_enter Tryz.func88, Tryz.ntmps88
    go_wp2_with fail
    refine HN.out.mono ?_
    rintro e w1 ⟨v, rfl, ho1, hb1⟩
    obtain ⟨A1, c1, rfl, hi1, _, _⟩ := Own.form ho1
    have HS1 := Lib.hid (HSM.out A1 c1 w1 hi1)
    have HB1 := Lib.hid hb1
    clear ho1 hi1 hb1 HN HSM
    go_wp2_with fail
    refine HS1.out.mono ?_
    rintro e w2 ⟨rfl, hb2⟩
    have HB2 := Lib.hid (HB1.out.trans (hb2.mono HB1.out.size))
    have HCT1 := Lib.hid (HCT.out w2)
    clear hb2 HB1 HCT HS1
    go_wp2_with fail
    refine HCT1.out.mono ?_
    rintro e w3 ⟨rfl, hb3⟩
    have HB3 := Lib.hid (HB2.out.trans (hb3.mono HB2.out.size))
    clear hb3
    go_wp2_with fail
    go_ret
    exact ⟨rfl, HB3.out⟩
set_option maxHeartbeats 2000000 in
set_option maxRecDepth 100000 in
theorem spec_l7Stack (l : List UInt8) (w : World) (hl : l.length ≤ 1000) :
    Calls Tryz.prog 89 #[.string (btj l)] w fun e w' => e = .returned (.string (btj (saidT (colsJ (stkO l)) (shB l) ++ [10]))) ∧ Below w.heap.size w w' := by
  have HS : Hid (∀ W : World, Calls Tryz.prog 117 #[.string (btj l)] W fun e w' => (∃ v, e = .returned (.tuple #[v, .bool (shB l)]) ∧ SlC w' v (stkO l)) ∧ Below W.heap.size W w') := fun W => spec_SheetStack (btj l) W (by rw [btj_size]; exact hl)
  have hcols : ∀ q ∈ stkO l, q.2.1 < 100 := by
    cases hv : shB l with
    | true => rw [stkO_yes hv]; exact stackT_cols (shB_parts hv).1
    | false => rw [stkO_no hv]; intro q hq; cases hq
  have h32 := stkO_len l
  have hcl := colsJ_len l
  obtain ⟨T, hT⟩ : ∃ T, T = stkO l := ⟨_, rfl⟩
  obtain ⟨ok, hok⟩ : ∃ ok, ok = shB l := ⟨_, rfl⟩
  rw [← hT] at HS hcols h32 hcl ⊢
  rw [← hok] at HS ⊢
  have HCO := Lib.hid hcols
  have HSD := Lib.hid (fun W : World => spec_l7Said (colsJ T) ok (by omega) W)
  clear hcols hT hok hcl
  go_enter Tryz.func89, Tryz.ntmps89
  go_wp2_with fail
  refine (HS.out w).mono ?_
  rintro e w1 ⟨⟨v1, rfl, hs1⟩, hb1⟩
  obtain ⟨A1, c1, rfl, hr1⟩ := sl_len hs1
  have HR1 := Lib.hid hr1
  have HB1 := Lib.hid hb1
  clear hs1 hr1 hb1 HS
  go_wp2_with fail
  go_loopg [5, 6] (T.length + 1) (fun gg s5 s6 wr => ∃ (k : Nat), k ≤ T.length ∧ s5 = .string (btj (colsJ (T.take k))) ∧ s6 = .int .i64 k ∧ T.length - k < gg ∧ Hid (Below w.heap.size w wr) ∧ Hid (RowV wr A1 (clL T)))
  case atStart => exact ⟨0, Nat.zero_le _, rfl, rfl, by omega, HB1, HR1⟩
  case round =>
    clear HB1 HR1
    obtain ⟨k, hk, rfl, rfl, hg, HB, HR⟩ := hrel
    cases gk with
    | zero => omega
    | succ gl =>
    by_cases hlt : k < T.length
    · have k1 : (k : Int) < (T.length : Int) := by omega
      have k0 : (0 : Int) ≤ (k : Int) := by omega
      obtain ⟨b, off, rfl, hbb, e0, e1, e2, e3⟩ := HR.out.cl hlt
      have hx100 : T[k].2.1 < 100 := HCO.out _ (List.getElem_mem hlt)
      have hsucc := colsJ_next hlt
      obtain ⟨x, hx⟩ : ∃ x, x = T[k] := ⟨_, rfl⟩
      rw [← hx] at e0 e1 e2 e3 hx100 hsucc
      have HD := Lib.hid (fun W : World => spec_l6Dec (x.2.1 + 1) x.2.1 (by omega) (by omega) W)
      have hdl : (Lib.decDigits x.2.1).length ≤ 2 := decDigits_step (m := 10) (by omega) fun h => decDigits_one_le h
      have hcl : (colsJ (T.take k)).length ≤ 200 := by
        have := join_len (colTs (T.take k)) 2 (by
          intro y hy
          obtain ⟨c, hc, rfl⟩ := List.mem_map.1 hy
          have h100 := HCO.out c (List.mem_of_mem_take hc)
          exact decDigits_step (m := 10) (by omega) fun h => decDigits_one_le h)
        have hle : (colTs (T.take k)).length ≤ 32 := by simp [colTs]; omega
        unfold colsJ
        omega
      obtain ⟨D, hD⟩ : ∃ D, D = Lib.decDigits x.2.1 := ⟨_, rfl⟩
      obtain ⟨C, hC⟩ : ∃ C, C = colsJ (T.take k) := ⟨_, rfl⟩
      obtain ⟨C', hC'⟩ : ∃ C', C' = colsJ (T.take (k + 1)) := ⟨_, rfl⟩
      rw [← hD] at HD hdl hsucc
      rw [← hC] at hcl hsucc ⊢
      rw [← hC'] at hsucc
      have HC' := Lib.hid hC'
      have a2 : ∀ W, (Op.stringOp .add (btj (if k = 0 then [] else C ++ [32])) (btj D)).run Tryz.prog W = .ok (.string (btj C')) W := fun W => run_addT _ _ _ hsucc.symm (by split <;> simp <;> omega) W
      by_cases hk0 : k = 0
      · subst hk0
        obtain rfl : C = [] := hC
        rw [if_pos rfl] at a2
        clear hx hsucc hC' hD hcl
        go_wp2_with fail
        refine (HD.out wr).mono ?_
        rintro e w6 ⟨rfl, hb6⟩
        have HB6 := Lib.hid (HB.out.trans (hb6.mono HB.out.size))
        have HR6 := Lib.hid (HR.out.below hb6)
        clear hb6 HB HR HD
        go_wp2_with fail
        go_roundg gl
        case measure => omega
        case rel => exact ⟨1, by omega, by rw [HC'.out], by go_num, by omega, HB6, HR6⟩
      · have hkp : 0 < k := by omega
        have a1 : ∀ W, (Op.stringOp .add (btj C) (btj [32])).run Tryz.prog W = .ok (.string (btj (C ++ [32]))) W := fun W => run_addT _ _ _ rfl (by simp; omega) W
        rw [if_neg hk0] at a2
        clear hk0 hx hsucc hC hC' hD hcl
        go_wp2_with fail
        refine (HD.out wr).mono ?_
        rintro e w6 ⟨rfl, hb6⟩
        have HB6 := Lib.hid (HB.out.trans (hb6.mono HB.out.size))
        have HR6 := Lib.hid (HR.out.below hb6)
        clear hb6 HB HR HD
        go_wp2_with fail
        go_roundg gl
        case measure => omega
        case rel => exact ⟨k + 1, by omega, by rw [HC'.out], by go_num, by omega, HB6, HR6⟩
    · obtain rfl : k = T.length := by omega
      rw [List.take_of_length_le (Nat.le_refl _)]
      go_wp2_with fail
      refine (HSD.out wr).mono ?_
      rintro e _ ⟨rfl, rfl⟩
      go_wp2_with fail
      go_ret
      exact ⟨rfl, HB.out⟩
end Go.Proofs.YtkdlipbegdiaaaaGreatDoor
namespace Go.Proofs.YtkdlipbegdiaaaaGreatDoor
open Go.RowKit
/-- a count as the program's first result -/
def cntO (n : Int) : List UInt8 := if n < 0 then [] else Lib.decDigits n.toNat
theorem cntTx_said (n : Int) : cntTx n = saidT (cntO n) (decide (0 ≤ n)) := by
  unfold cntTx saidT cntO
  by_cases h : n < 0
  · rw [if_pos h, if_neg (by simp; omega)]
  · rw [if_neg h, if_pos (by simp; omega), if_neg h]
theorem impl_countTextI (n : Int) (hn : n = -1 ∨ (0 ≤ n ∧ n ≤ 1000000)) (w : World) (hp : Pow w) :
    Calls Tryz.prog 130 #[.int .i64 n] w fun e w' => e = .returned (.tuple #[.string (btj (cntO n)), .bool (decide (0 ≤ n))]) ∧ Below w.heap.size w w' := by
  rcases hn with rfl | ⟨h0, h1⟩
  · refine (impl_countText_no w).mono ?_
    rintro e _ ⟨rfl, rfl⟩
    exact ⟨rfl, Below.refl _ _⟩
  · obtain ⟨m, rfl⟩ : ∃ m : Nat, n = (m : Int) := ⟨n.toNat, by omega⟩
    refine (impl_countText m (by omega) w hp).mono ?_
    rintro e w' ⟨rfl, hb⟩
    refine ⟨?_, hb⟩
    unfold cntO
    rw [if_neg (by omega), decide_eq_true h0]; rfl
set_option maxHeartbeats 1000000 in
theorem impl_manyG (td n c : Nat) (A : Option Addr) (xs : List Int) (f : List UInt8) (w : World) (hD : Desk w td xs f) (hp : Pow w) :
    Calls Tryz.prog 103 #[.pointer (some ⟨td, 0, none⟩), .slice A n c] w fun e w' => e = .returned (.tuple #[.string (btj (cntO (vmI xs))), .bool (decide (0 ≤ vmI xs))]) ∧ Below w.heap.size w w' := by
  obtain ⟨A', c', hk, hi, hc, hm, _⟩ := hD
  have q0 : w.cell? ⟨td, 0, none⟩ = some (.slice A' xs.length c') := hk.cell 0
  have hvm := impl_VertexMany A' c' xs w hi (by omega)
  have h1 := vmI_le xs
  have h2 : vmI xs = -1 ∨ 0 ≤ vmI xs := by
    unfold vmI
    split <;> omega
  obtain ⟨z, hz⟩ : ∃ z, z = vmI xs := ⟨_, rfl⟩
  rw [← hz] at hvm h1 h2 ⊢
  have HVM := Lib.hid hvm
  have HCT := Lib.hid (fun (W : World) (hb : Below w.heap.size w W) => impl_countTextI z (by omega) W (hp.below hb))
  obtain ⟨o, ho⟩ : ∃ o, o = cntO z := ⟨_, rfl⟩
  obtain ⟨d, hd⟩ : ∃ d, d = decide (0 ≤ z) := ⟨_, rfl⟩
  rw [← ho, ← hd] at HCT ⊢
  clear hk hi hc hm hvm hz hp h1 h2 ho hd
  go_enter Tryz.func103, Tryz.ntmps103
  go_wp2_with fail
  refine HVM.out.mono ?_
  rintro e w1 ⟨rfl, hb1⟩
  have HCT1 := Lib.hid (HCT.out w1 hb1)
  have HB1 := Lib.hid hb1
  clear hb1 HCT HVM
  go_wp2_with fail
  refine HCT1.out.mono ?_
  rintro e w2 ⟨rfl, hb2⟩
  have HB2 := Lib.hid (HB1.out.trans (hb2.mono HB1.out.size))
  clear hb2
  go_wp2_with fail
  go_ret2
  exact ⟨rfl, HB2.out⟩
theorem impl_StampManyI (n : Nat) (w : World) :
    Calls Tryz.prog 13 #[.int .i64 n] w fun e w' => e = .returned (.int .i64 (stampI n)) ∧ Below w.heap.size w w' := by
  unfold stampI
  by_cases h : 1 ≤ n ∧ n ≤ 7
  · rw [if_pos h]; exact impl_StampMany n h.1 h.2 w
  · rw [if_neg h]
    refine (impl_StampMany_no n (by omega) w).mono ?_
    rintro e _ ⟨rfl, rfl⟩
    exact ⟨rfl, Below.refl _ _⟩
set_option maxHeartbeats 1000000 in
theorem impl_stampsG (td b n c : Nat) (x : List UInt8) (w : World) (hp : Pow w) (hc : w.cell? ⟨b, 1, none⟩ = some (.string (btj x))) :
    Calls Tryz.prog 110 #[.pointer (some ⟨td, 0, none⟩), .slice (some ⟨b, 1, none⟩) (n + 1) c] w fun e w' => e = .returned (.tuple #[.string (btj (cntO (stampI (numV x)))), .bool (decide (0 ≤ stampI (numV x)))]) ∧ Below w.heap.size w w' := by
  have HN : Hid (∀ W : World, Calls Tryz.prog 135 #[.string (btj x)] W fun e w' => e = .returned (.int .i64 (numV x : Nat)) ∧ W = w') := fun W => impl_numberOf (btj x) W
  have HS := Lib.hid (impl_StampManyI (numV x) w)
  have h1 := stampI_le (numV x)
  have h2 : stampI (numV x) = -1 ∨ 0 ≤ stampI (numV x) := by
    unfold stampI
    split <;> omega
  obtain ⟨i, hi⟩ : ∃ i : Int, i = ((numV x : Nat) : Int) := ⟨_, rfl⟩
  obtain ⟨z, hz⟩ : ∃ z, z = stampI (numV x) := ⟨_, rfl⟩
  rw [← hz] at HS h1 h2 ⊢
  rw [← hi] at HN HS
  have HCT := Lib.hid (fun (W : World) (hb : Below w.heap.size w W) => impl_countTextI z (by omega) W (hp.below hb))
  obtain ⟨o, ho⟩ : ∃ o, o = cntO z := ⟨_, rfl⟩
  obtain ⟨d, hd⟩ : ∃ d, d = decide (0 ≤ z) := ⟨_, rfl⟩
  rw [← ho, ← hd] at HCT ⊢
  have k1 : (0 : Int) < (n : Int) + 1 := by omega
  clear hi hz hp h1 h2 ho hd
  go_enter Tryz.func110, Tryz.ntmps110
  go_wp2_with fail
  refine (HN.out _).mono ?_
  rintro e _ ⟨rfl, rfl⟩
  go_wp2_with fail
  refine HS.out.mono ?_
  rintro e w1 ⟨rfl, hb1⟩
  have HCT1 := Lib.hid (HCT.out w1 hb1)
  have HB1 := Lib.hid hb1
  clear hb1 HCT
  go_wp2_with fail
  refine HCT1.out.mono ?_
  rintro e w2 ⟨rfl, hb2⟩
  have HB2 := Lib.hid (HB1.out.trans (hb2.mono HB1.out.size))
  clear hb2
  go_wp2_with fail
  go_ret2
  exact ⟨rfl, HB2.out⟩
theorem impl_StripManyI (A : Option Addr) (cap : Nat) (xs : List Int) (f : List UInt8) (w : World) (h : Ints w A xs) (hl : xs.length ≤ 1000) (hf : f.length ≤ 1000) :
    Calls Tryz.prog 9 #[.slice A xs.length cap, .string (btj f)] w fun e w' => e = .returned (.int .i64 (if svB xs f then (smany xs (btj f) : Nat) else -1)) ∧ Below w.heap.size w w' := by
  cases hv : svB xs f with
  | true => exact impl_StripManyS A cap xs (btj f) w h hv
  | false =>
    refine (impl_StripManyS_no A cap xs (btj f) w h (by unfold maxLen; omega) (by rw [btj_size]; unfold maxLen; omega) hv).mono ?_
    rintro e _ ⟨rfl, rfl⟩
    exact ⟨rfl, Below.refl _ _⟩
set_option maxHeartbeats 2000000 in
set_option maxRecDepth 100000 in
theorem impl_stripG (td b : Nat) (x : List UInt8) (ws : List (List UInt8)) (w : World) (hp : Pow w) (hc : w.cell? ⟨b, 1, none⟩ = some (.string (btj x))) (hS : Strs w (some ⟨b, 2, none⟩) ws) (h1 : 1 ≤ ws.length) (hl : ws.length ≤ 400) (hx : x.length ≤ 1000) :
    Calls Tryz.prog 107 #[.pointer (some ⟨td, 0, none⟩), .slice (some ⟨b, 1, none⟩) (ws.length + 1) (ws.length + 1)] w fun e w' => e = .returned (.tuple #[.string (btj (cntO (stripI x ws))), .bool (decide (0 ≤ stripI x ws))]) ∧ Below w.heap.size w w' := by
  have HN := Lib.hid (impl_numbersOf (some ⟨b, 2, none⟩) ws.length ws w hS (by omega))
  have hst : stripI x ws = if svB (numsV ws) (stripF x) then ((smany (numsV ws) (btj (stripF x)) : Nat) : Int) else -1 := rfl
  have h1b := stripI_le x ws
  have h2 : stripI x ws = -1 ∨ 0 ≤ stripI x ws := by
    unfold stripI
    split <;> omega
  have hfl : (stripF x).length ≤ 1000 := by
    unfold stripF
    split
    · simp
    · exact hx
  have hnl : (numsV ws).length = ws.length := numsV_len ws
  obtain ⟨z, hz⟩ : ∃ z, z = stripI x ws := ⟨_, rfl⟩
  rw [← hz] at hst h1b h2 ⊢
  have HCT := Lib.hid (fun (W : World) (hb : Below w.heap.size w W) => impl_countTextI z (by omega) W (hp.below hb))
  obtain ⟨o, ho⟩ : ∃ o, o = cntO z := ⟨_, rfl⟩
  obtain ⟨d, hd⟩ : ∃ d, d = decide (0 ≤ z) := ⟨_, rfl⟩
  rw [← ho, ← hd] at HCT ⊢
  obtain ⟨xs, hxs⟩ : ∃ xs, xs = numsV ws := ⟨_, rfl⟩
  rw [← hxs] at HN hst hnl
  have HSM : Hid (∀ (A : Option Addr) (c : Nat) (W : World), Ints W A xs → Calls Tryz.prog 9 #[.slice A xs.length c, .string (btj (stripF x))] W fun e w' => e = .returned (.int .i64 z) ∧ Below W.heap.size W w') := by
    show ∀ (A : Option Addr) (c : Nat) (W : World), _
    intro A c W hI
    have := impl_StripManyI A c xs (stripF x) W hI (by omega) hfl
    rw [← hst] at this
    exact this
  have k1 : (1 : Int) ≤ (ws.length : Int) + 1 := by omega
  have k2 : ¬ (ws.length + 1 = 1) := by omega
  have k3 : (0 : Int) < (ws.length : Int) + 1 := by omega
  clear hst h1b h2 hfl hnl hz hp ho hd hxs hS
  by_cases hx45 : x = [45]
  · subst hx45
    have hsf : btj (stripF [45]) = ⟨#[]⟩ := rfl
    rw [hsf] at HSM
    go_enter Tryz.func107, Tryz.ntmps107
    go_wp2_with fail
    refine HN.out.mono ?_
    rintro e w1 ⟨v, rfl, ho1, hb1⟩
    obtain ⟨A1, c1, rfl, hi1, _, _⟩ := Own.form ho1
    have HS1 := Lib.hid (HSM.out A1 c1 w1 hi1)
    have HB1 := Lib.hid hb1
    clear ho1 hi1 hb1 HN HSM
    go_wp2_with fail
    refine HS1.out.mono ?_
    rintro e w2 ⟨rfl, hb2⟩
    have HB2 := Lib.hid (HB1.out.trans (hb2.mono HB1.out.size))
    have HCT1 := Lib.hid (HCT.out w2 HB2.out)
    clear hb2 HB1 HCT HS1
    go_wp2_with fail
    refine HCT1.out.mono ?_
    rintro e w3 ⟨rfl, hb3⟩
    have HB3 := Lib.hid (HB2.out.trans (hb3.mono HB2.out.size))
    clear hb3
    go_wp2_with fail
    go_ret2
    exact ⟨rfl, HB3.out⟩
  · have hsf : stripF x = x := by unfold stripF; rw [if_neg hx45]
    rw [hsf] at HSM
    have d1 : (x == [45]) = false := by rw [beq_eq_false_iff_ne]; exact hx45
    clear hx45 hsf
    go_enter Tryz.func107, Tryz.ntmps107
    go_wp2_with fail
    refine HN.out.mono ?_
    rintro e w1 ⟨v, rfl, ho1, hb1⟩
    obtain ⟨A1, c1, rfl, hi1, _, _⟩ := Own.form ho1
    have HS1 := Lib.hid (HSM.out A1 c1 w1 hi1)
    have HB1 := Lib.hid hb1
    clear ho1 hi1 hb1 HN HSM
    go_wp2_with fail
    refine HS1.out.mono ?_
    rintro e w2 ⟨rfl, hb2⟩
    have HB2 := Lib.hid (HB1.out.trans (hb2.mono HB1.out.size))
    have HCT1 := Lib.hid (HCT.out w2 HB2.out)
    clear hb2 HB1 HCT HS1
    go_wp2_with fail
    refine HCT1.out.mono ?_
    rintro e w3 ⟨rfl, hb3⟩
    have HB3 := Lib.hid (HB2.out.trans (hb3.mono HB2.out.size))
    clear hb3
    go_wp2_with fail
    go_ret2
    exact ⟨rfl, HB3.out⟩
set_option maxHeartbeats 1000000 in
theorem impl_SheetStackN (s : ByteArray) (w : World) (hs : s.size ≤ 1000) (hv : shB s.data.toList = false) :
    Calls Tryz.prog 136 #[.string s] w fun e w' => ∃ A c, e = .returned (.tuple #[.slice A 0 c, .bool false]) ∧ Below w.heap.size w w' := by
  have HZ := Lib.hid (impl_sizeOf s w hs)
  rw [sizeO_no hv] at HZ
  clear hv
  go_enter Tryz.func136, Tryz.ntmps136
  go_wp2_with fail
  refine HZ.out.mono ?_
  rintro e w1 ⟨rfl, hb1⟩
  go_wp2_with fail
  go_ret2
  exact ⟨_, 0, rfl, (hb1.alloc hb1.size _).alloc (by simp; exact Nat.le_trans hb1.size (Nat.le_succ _)) _⟩
set_option maxHeartbeats 1000000 in
set_option maxRecDepth 100000 in
theorem impl_stackN (td b : Nat) (arg : List UInt8) (w : World) (hc : w.cell? ⟨b, 1, none⟩ = some (.string (btj arg))) (hs : arg.length ≤ 1000) (hv : shB arg = false) :
    Calls Tryz.prog 108 #[.pointer (some ⟨td, 0, none⟩), .slice (some ⟨b, 1, none⟩) 1 1] w fun e w' => e = .returned (.tuple #[.string (btj []), .bool false]) ∧ Below w.heap.size w w' := by
  have HSS := Lib.hid (impl_SheetStackN (btj arg) w (by rw [btj_size]; exact hs) hv)
  clear hv hs
  go_enter Tryz.func108, Tryz.ntmps108
  go_wp2_with fail
  refine HSS.out.mono ?_
  rintro e w1 ⟨A1, c1, rfl, hb1⟩
  have HB1 := Lib.hid hb1
  clear hb1
  obtain ⟨i0, hi, hz0, hz1, hz2⟩ := info_parts Tryz.infoStrE
  obtain ⟨w2, hrun, hown2, hg2⟩ := run_make_own (P := Tryz.prog) w1 w1.heap.size 46 9 i0 (.string ByteArray.empty) 1 Tryz.underlying46 hi hz0 hz1 .i64 .i64 0 (by omega) (by unfold maxLen; omega) (Nat.le_refl _)
  have HRun : Hid ((Instr.makeSlice 46 (.int .i64 0) (.int .i64 0)).run Tryz.prog w1 = .ok (.slice (some ⟨w1.heap.size, 0, none⟩) 0 0) w2) := by
    show _ = _
    have := hrun
    simpa using this
  have hb2 : Below w1.heap.size w1 w2 := (Below.refl _ _).grown hg2 (Nat.le_refl _) (by intro k hk; cases hk)
  have HB2 := Lib.hid (HB1.out.trans (hb2.mono HB1.out.size))
  have HJ := Lib.hid (fun W : World => Tryz.strings_Join_none (some ⟨w1.heap.size, 0, none⟩) 0 (btj [32]) W)
  clear hi hz0 hz1 hz2 hrun hown2 hg2 hb2
  go_wp2_with fail
  rw [HRun.out]
  clear HRun
  go_wp2_with fail
  go_loopg [8, 10, 23] 1 (fun gg s8 s10 s23 wr => s10 = s10 ∧ s8 = .slice (some ⟨w1.heap.size, 0, none⟩) 0 0 ∧ s23 = .int .i64 0 ∧ wr = w2)
  case atStart => exact ⟨rfl, rfl, rfl, rfl⟩
  case round =>
    obtain ⟨_, rfl, rfl, rfl⟩ := hrel
    go_wp2_with fail
    refine (HJ.out wr).mono ?_
    rintro e _ ⟨rfl, rfl⟩
    go_wp2_with fail
    go_ret2
    exact ⟨rfl, HB2.out⟩
end Go.Proofs.YtkdlipbegdiaaaaGreatDoor
