/- Stacks of cells: the program's folding of one onto another. No condition but sizes. Sheets in memory: the stack at a place, the places of a fold. No condition but sizes. -/
import Derived.Test.YtkdlipbegdiaaaaGreatDoorEzBP8
namespace Go.Proofs.YtkdlipbegdiaaaaGreatDoor
open Go.RowKit
/-- a slice value that reads as a stack -/
def SlC (w : World) (v : Value) (S : List Cl) : Prop := ∃ A c, v = .slice A S.length c ∧ RowV w A (clL S) ∧ S.length ≤ c ∧ c ≤ maxLen
theorem SlC.below {w w' : World} {v : Value} {S : List Cl} (h : SlC w v S) (hb : Below w.heap.size w w') : SlC w' v S := by
  obtain ⟨A, c, e, hr, h1, h2⟩ := h
  exact ⟨A, c, e, hr.below hb, h1, h2⟩
theorem SlC.of_own {w : World} {B : Nat} {v : Value} {S : List Cl} (h : OwnC w B v S.length (clL S)) : SlC w v S := by
  obtain ⟨A, c, e, hr, h1, h2⟩ := own_formX h
  exact ⟨A, c, e, hr, h1, h2⟩
def clA (c : Cl) : Value := .agg #[.int .i64 c.1, .int .i64 c.2.1, .bool c.2.2.1, .bool c.2.2.2]
theorem grown_setX (w : World) (g i : Nat) (v : Value) : w.grownBy (w.setCell ⟨g, i, none⟩ v) (some g) :=
  ⟨rfl, rfl, rfl, by simp, fun n hn hne => heap_setCell_other w ⟨g, i, none⟩ n v (by intro e; apply hne; exact congrArg some e)⟩
theorem grown_of_below {w w' : World} {row : Option Nat} (hb : Below w.heap.size w w') : w.grownBy w' row := ⟨hb.os, hb.tape, hb.output, hb.size, fun i hi _ => hb.block i hi⟩
/-- the cells turned so far: those from j on, the last one first -/
def turned (high : Bool) (b : List Cl) (j : Nat) : List Cl := ((b.drop j).reverse).map (clT high)
theorem turned_len (high : Bool) (b : List Cl) (j : Nat) : (turned high b j).length = b.length - j := by simp [turned]
theorem turned_end (high : Bool) (b : List Cl) : turned high b b.length = [] := by simp [turned]
theorem turned_step (high : Bool) {b : List Cl} {k : Nat} (hk : k < b.length) : turned high b (k + 1) ++ [clT high b[k]] = turned high b k := by
  unfold turned
  rw [List.drop_eq_getElem_cons hk, List.reverse_cons, List.map_append]; rfl
theorem run_makeC (W : World) (B n : Nat) (hn : n ≤ 4000) (hB : B ≤ W.heap.size) : ∃ w', (Instr.makeSlice 127 (.int .i64 0) (.int .i64 (n : Int))).run Tryz.prog W = .ok (.slice (some ⟨W.heap.size, 0, none⟩) 0 n) w' ∧ OwnC w' B (.slice (some ⟨W.heap.size, 0, none⟩) 0 n) 0 [] ∧ W.grownBy w' none := by
  obtain ⟨i0, hi, hz0, hz1, hz2⟩ := info_parts Tryz.infoCl
  exact run_make_own (P := Tryz.prog) W B 127 131 i0 _ 4 Tryz.underlying127 hi hz0 hz1 .i64 .i64 n (by rw [hz2]; omega) (by unfold maxLen; omega) hB
theorem join_end {wb w3 : World} {q n : Nat} {v : Value} {L : List Value} {S : List Cl} (hown : OwnC w3 wb.heap.size v n L) (hq : q < wb.heap.size) (hL : L = clL S) : SlC (w3.setCell ⟨q, 0, none⟩ v) v S := by
  subst hL
  have hn : n = S.length := by have := hown.1; rw [clL_len] at this; omega
  subst hn
  exact SlC.of_own (hown.kept (grown_setX w3 q 0 v) (Or.inr fun e => by have := (hown.lt q e).1; omega))
theorem turned_all (high : Bool) (b : List Cl) : turned high b 0 = b.reverse.map (clT high) := by simp [turned]
set_option maxHeartbeats 400000 in
theorem impl_turn_W (c : Cl) (w : World) :
    Calls Tryz.prog 188 #[clA c] w fun e w' => e = .returned (clA (clT false c)) ∧ Below w.heap.size w w' := by
  obtain ⟨r, k, up, hd⟩ := c
  unfold clA clT
  simp only [Bool.xor_false]
  go_enter Tryz.func188, Tryz.ntmps188
  go_wp2_with fail
  refine bodyPost_ret (v := .agg #[.int .i64 r, .int .i64 k, .bool !up, .bool hd]) (by simp [results, Tryz.results188, go_sem]) rfl ⟨rfl, ?_⟩
  exact ((Below.refl _ _).alloc (Nat.le_refl _) _).alloc (by simp) _
set_option maxHeartbeats 2000000 in
set_option maxRecDepth 100000 in
theorem impl_join_W (q : Nat) (Aa Ab : Option Addr) (ca cb : Nat) (a b : List Cl) (under : Bool) (w : World) (h1 : Blk w q 162 #[.slice Aa a.length ca]) (ha : RowV w Aa (clL a)) (hb : RowV w Ab (clL b)) (hla : a.length ≤ 1000) (hlb : b.length ≤ 1000) :
    Calls Tryz.prog 187 #[ptr q, .agg #[.slice Ab b.length cb], .bool under, .func (.func 188) #[] #[]] w fun e w' => e = .returned (.tuple #[]) ∧ (∃ v, Blk w' q 162 #[v] ∧ SlC w' v (putS a b false under) ∧ ∀ g, v.ownBlock = some g → w.heap.size ≤ g) ∧ w.grownBy w' (some q) := by
  have kw : IntKind.i64.wrap ((a.length : Int) + (b.length : Int)) = (a.length : Int) + (b.length : Int) := IntWalk.i64_in _ (by omega)
  have kw2 : IntKind.i64.wrap ((b.length : Int) - 1) = (b.length : Int) - 1 := IntWalk.i64_in _ (by omega)
  have hql := h1.lt
  have H1 := Lib.hid h1
  have HA := Lib.hid ha
  have HBb := Lib.hid hb
  have c1 : w.cell? ⟨q, 0, none⟩ = some (.slice Aa a.length ca) := h1.cell 0
  have cq : (w.alloc (.cells #[.slice Ab b.length cb] 162)).cell? ⟨q, 0, none⟩ = some (.slice Aa a.length ca) := (((Below.refl w.heap.size w).alloc (Nat.le_refl _) _).cell (p := ⟨q, 0, none⟩) hql).trans c1
  clear h1 ha hb
  go_enter Tryz.func187, Tryz.ntmps187
  go_wp2_with fail
  obtain ⟨wb, hwb⟩ : ∃ wb, wb = w.alloc (.cells #[.slice Ab b.length cb] 162) := ⟨_, rfl⟩
  have hbw : Below w.heap.size w wb := by rw [hwb]; exact (Below.refl _ _).alloc (Nat.le_refl _) _
  have cp : wb.cell? ⟨w.heap.size, 0, none⟩ = some (.slice Ab b.length cb) := by rw [hwb]; exact (Blk.new w _ _).cell 0
  have hpl : w.heap.size < wb.heap.size := by rw [hwb]; simp
  have hql2 : q < wb.heap.size := Nat.lt_of_lt_of_le hql hbw.size
  obtain ⟨p, hp⟩ : ∃ p, p = w.heap.size := ⟨_, rfl⟩
  rw [← hwb] at cq ⊢
  rw [← hp] at cp hpl ⊢
  have HPW : Hid (Blk wb p 162 #[.slice Ab b.length cb]) := by show Blk _ _ _ _; rw [hwb, hp]; exact Blk.new w _ _
  have HBW := Lib.hid hbw
  clear hwb hbw hp
  obtain ⟨w2, hrun, ho2, hg2⟩ := run_makeC wb.drew wb.heap.size (a.length + b.length) (by omega) (by simp)
  rw [Int.natCast_add] at hrun
  have hrun' : (Instr.makeSlice 127 (.int .i64 0) (.int .i64 ((a.length : Int) + (b.length : Int)))).run Tryz.prog wb.drew = .ok (.slice (some ⟨wb.heap.size, 0, none⟩) 0 (a.length + b.length)) w2 := hrun
  have hb2 : Below wb.heap.size wb w2 := ((Below.refl wb.heap.size wb).trans (below_drewN (Below.refl _ _) 1)).grown hg2 (Nat.le_refl _) (by intro k hk; cases hk)
  have HB2 := Lib.hid hb2
  have HO2 := Lib.hid ho2
  clear ho2 hg2 hrun hb2
  go_region
  all_goals
    have cp2 := (HB2.out.cell (p := ⟨p, 0, none⟩) hpl).trans cp
    have HQ := Lib.hid cq
    clear hrun' cq
    go_wp2_with fail
    go_loopg [8, 9] (b.length + 1) (fun gg s8 s9 wr => ∃ (j : Nat) (z : Int), j ≤ b.length ∧ z + 1 = (j : Int) ∧ s9 = .int .i64 z ∧ j < gg ∧ Hid (OwnC wr wb.heap.size s8 (b.length - j) (clL (turned false b j))) ∧ Hid (Below wb.heap.size wb wr))
    case atStart => exact ⟨b.length, (b.length : Int) - 1, Nat.le_refl _, by omega, rfl, by omega, by show OwnC _ _ _ _ _; rw [turned_end, Nat.sub_self]; exact HO2.out, HB2⟩
    case round =>
      clear HO2 HB2 cp2 kw2
      obtain ⟨j, z, hj, hz, rfl, hg, HO, HB⟩ := hrel
      cases gk with
      | zero => omega
      | succ g1 =>
      have cp3 := (HB.out.cell (p := ⟨p, 0, none⟩) hpl).trans cp
      by_cases h0 : j = 0
      · subst h0
        obtain rfl : z = -1 := by omega
        have cq3 := (HB.out.cell (p := ⟨q, 0, none⟩) hql2).trans HQ.out
        have fq3 := ((H1.out.below HBW.out hql).below HB.out hql2).frozen 0
        have hAr := ((HA.out.below HBW.out).below HB.out)
        have HAR := Lib.hid hAr
        obtain ⟨Am, cm, rfl, hm, hmc, hmm⟩ := own_formX HO.out
        have HM := Lib.hid hm
        clear hAr hm
        have hO := HO.out
        rw [Nat.sub_zero] at hO ⊢
        have HO' := Lib.hid hO
        have HBX := H1.out.below HBW.out hql
        have HBXX := Lib.hid HBX
        have hAn : Aa = none → a.length = 0 := fun e => by rw [e] at HAR; have h := congrArg List.length HAR.out.none_; rw [clL_len, List.length_nil] at h; omega
        clear hO HO HBX
        cases under with
        | true =>
          go_wp2_with (at_builtin; go_loud (refine wpList_appC (by rfl) _ _ (by rfl) wb.heap.size _ b.length (clL (turned false b 0)) _ a.length _ (clL a) (by rfl) (by rfl) HO'.out (clL_len a) hAn HAR.out.news (cl_one a) HB.out.size (by omega) ?_))
          intro v3 w3 ho3 hg3 hb3 hm3 hr3
          obtain ⟨A3, c3, rfl, _, _, _⟩ := own_formX ho3
          have HB3 := Lib.hid (HB.out.trans hb3)
          have HO3 := Lib.hid ho3
          have f4 := (HBXX.out.below HB3.out hql2).frozen 0
          have c4 : w3.cell? ⟨q, 0, none⟩ = some (.slice Aa a.length ca) := (HBXX.out.below HB3.out hql2).cell 0
          clear hg3 hb3 hm3 hr3 ho3 hAn HO' HAR HM
          go_wp2_with fail
          refine bodyPost_ret (results_none rfl _ _ _) rfl ?_
          refine ⟨rfl, ⟨_, by simpa using (HBXX.out.below HB3.out hql2).set_ 0 _, join_end HO3.out hql2 ?_, fun g hg => Nat.le_trans HBW.out.size (HO3.out.lt g hg).1⟩, (grown_of_below (HBW.out.trans (HB3.out.mono HBW.out.size))).trans (grown_setX _ q 0 _)⟩
          unfold putS
          rw [if_pos rfl, clL_app, turned_all]
        | false =>
          obtain ⟨w4, hrun4, ho4, hg4⟩ := run_makeC wr wr.heap.size (a.length + b.length) (by omega) (Nat.le_refl _)
          rw [Int.natCast_add] at hrun4
          have hb4 : Below wr.heap.size wr w4 := (Below.refl _ _).grown hg4 (Nat.le_refl _) (by intro k hk; cases hk)
          have cq4 := (hb4.cell (p := ⟨q, 0, none⟩) (Nat.lt_of_lt_of_le hql2 HB.out.size)).trans cq3
          have HO4 := Lib.hid ho4
          have HB4 := Lib.hid hb4
          have HAR4 := Lib.hid (HAR.out.below hb4)
          have HM4 := Lib.hid (HM.out.below hb4)
          have HOM4 := Lib.hid (own_belowX HO'.out hb4)
          clear ho4 hg4 hb4
          go_wp2_with (at_builtin; go_loud (refine wpList_appC (by rfl) _ _ (by rfl) wr.heap.size _ 0 [] _ a.length _ (clL a) (by rfl) (by rfl) HO4.out (clL_len a) hAn HAR4.out.news (cl_one a) HB4.out.size (by omega) ?_))
          intro v5 w5 ho5 hg5 hb5 hm5 hr5
          have ho5 : OwnC w5 wr.heap.size v5 a.length (clL a) := by simpa using ho5
          obtain ⟨A5, c5, rfl, _, _, _⟩ := own_formX ho5
          have HB5 := Lib.hid (HB4.out.trans hb5)
          have HO5 := Lib.hid ho5
          have cq5 := (HB5.out.cell (p := ⟨q, 0, none⟩) (Nat.lt_of_lt_of_le hql2 HB.out.size)).trans cq3
          have HM5 := Lib.hid (HM.out.below HB5.out)
          have hBn : Am = none → b.length = 0 := fun e => by rw [e] at HM; have h := congrArg List.length HM.out.none_; rw [clL_len, turned_len, List.length_nil] at h; omega
          clear hg5 hb5 hm5 hr5 ho5 HO4 HB4 HAR4 HM4 HOM4 hrun4
          go_wp2_with (at_builtin; go_loud (refine wpList_appC (by rfl) _ _ (by rfl) wr.heap.size _ a.length (clL a) _ b.length _ (clL (turned false b 0)) (by rfl) (by rfl) HO5.out (by rw [clL_len, turned_len, Nat.sub_zero]) hBn HM5.out.news (cl_one _) HB5.out.size (by omega) ?_))
          intro v6 w6 ho6 hg6 hb6 hm6 hr6
          obtain ⟨A6, k6, rfl, _, _, _⟩ := own_formX ho6
          have HB6 := Lib.hid (HB.out.trans ((HB5.out.trans hb6).mono HB.out.size))
          have HO6 := Lib.hid ho6
          have f6 := (HBXX.out.below HB6.out hql2).frozen 0
          have c6 : w6.cell? ⟨q, 0, none⟩ = some (.slice Aa a.length ca) := (HBXX.out.below HB6.out hql2).cell 0
          have hqr : q < wr.heap.size := Nat.lt_of_lt_of_le hql2 HB.out.size
          clear hg6 hb6 hm6 hr6 ho6 hAn hBn HO' HAR HM HO5 HM5 HB5
          go_wp2_with fail
          go_end0
          refine ⟨rfl, ⟨_, by simpa using (HBXX.out.below HB6.out hql2).set_ 0 _, join_end HO6.out hqr ?_, fun g hg => Nat.le_trans (Nat.le_trans HBW.out.size HB.out.size) (HO6.out.lt g hg).1⟩, (grown_of_below (HBW.out.trans (HB6.out.mono HBW.out.size))).trans (grown_setX _ q 0 _)⟩
          unfold putS
          rw [if_neg (by decide), clL_app, turned_all]
      · obtain ⟨k, rfl⟩ : ∃ k, j = k + 1 := ⟨j - 1, by omega⟩
        obtain rfl : z = (k : Int) := by omega
        have hk : k < b.length := by omega
        have k0 : (0 : Int) ≤ (k : Int) := by omega
        have k1 : (k : Int) < (b.length : Int) := by omega
        have kw : IntKind.i64.wrap ((k : Int) - 1) = (k : Int) - 1 := IntWalk.i64_in _ (by omega)
        obtain ⟨bb, off, e, hbb, e0, e1, e2, e3⟩ := ((HBb.out.below HBW.out).below HB.out).cl hk
        subst e
        obtain ⟨x, hx⟩ : ∃ x, x = b[k] := ⟨_, rfl⟩
        have hst := turned_step false hk
        rw [← hx] at e0 e1 e2 e3 hst
        have HST := Lib.hid hst
        clear hx hst
        obtain ⟨y, hy⟩ : ∃ y, y = clT false x := ⟨_, rfl⟩
        have hT := impl_turn_W x wr
        rw [← hy] at hT HST
        unfold clA at hT
        have HT := Lib.hid hT
        clear hy hT
        go_wp2_with fail
        refine HT.out.mono ?_
        rintro e w3 ⟨rfl, hb3⟩
        have HB3 := Lib.hid (HB.out.trans (hb3.mono HB.out.size))
        have HOB := Lib.hid (own_belowX (own_belowX HO.out hb3) ((Below.refl w3.heap.size w3).alloc (Nat.le_refl _) (.cells #[.int .i64 y.1, .int .i64 y.2.1, .bool y.2.2.1, .bool y.2.2.2] 131)))
        have HNW := Lib.hid (RowV.lit w3 (clV y) 131)
        obtain ⟨Am, cm, rfl, _, _, _⟩ := own_formX HO.out
        clear hb3 HT HO HB
        go_wp2_with (at_builtin; go_loud (refine wpList_appC (by rfl) _ _ (by rfl) wb.heap.size _ (b.length - (k + 1)) (clL (turned false b (k + 1))) _ 1 _ (clV y) (by rfl) (by rfl) HOB.out rfl (fun e => by cases e) HNW.out.news (by have := cl_one [y]; rw [clL_one] at this; exact this) (Nat.le_trans HB3.out.size (by simp)) (by omega) ?_))
        intro v5 w5 ho5 hg5 hb5 hm5 hr5
        have ho5' : OwnC w5 wb.heap.size v5 (b.length - k) (clL (turned false b k)) := by
          have e1 : b.length - (k + 1) + 1 = b.length - k := by omega
          rw [e1] at ho5
          rw [← HST.out, clL_app, clL_one]; exact ho5
        have HO5 := Lib.hid ho5'
        have HB5 := Lib.hid ((HB3.out.alloc HB3.out.size _).trans hb5)
        clear ho5 ho5' hg5 hb5 hm5 hr5 HB3 HOB HNW
        go_wp2_with fail
        go_roundg g1
        case measure => omega
        case rel => exact ⟨k, (k : Int) - 1, by omega, by omega, by go_num, by omega, HO5, HB5⟩
set_option maxHeartbeats 400000 in
theorem impl_turn_H (c : Cl) (w : World) :
    Calls Tryz.prog 189 #[clA c] w fun e w' => e = .returned (clA (clT true c)) ∧ Below w.heap.size w w' := by
  obtain ⟨r, k, up, hd⟩ := c
  unfold clA clT
  simp only [Bool.xor_true]
  go_enter Tryz.func189, Tryz.ntmps189
  go_wp2_with fail
  refine bodyPost_ret (v := .agg #[.int .i64 r, .int .i64 k, .bool !up, .bool !hd]) (by simp [results, Tryz.results189, go_sem]) rfl ⟨rfl, ?_⟩
  exact ((Below.refl _ _).alloc (Nat.le_refl _) _).alloc (by simp) _
set_option maxHeartbeats 2000000 in
set_option maxRecDepth 100000 in
theorem impl_join_H (q : Nat) (Aa Ab : Option Addr) (ca cb : Nat) (a b : List Cl) (under : Bool) (w : World) (h1 : Blk w q 162 #[.slice Aa a.length ca]) (ha : RowV w Aa (clL a)) (hb : RowV w Ab (clL b)) (hla : a.length ≤ 1000) (hlb : b.length ≤ 1000) :
    Calls Tryz.prog 187 #[ptr q, .agg #[.slice Ab b.length cb], .bool under, .func (.func 189) #[] #[]] w fun e w' => e = .returned (.tuple #[]) ∧ (∃ v, Blk w' q 162 #[v] ∧ SlC w' v (putS a b true under) ∧ ∀ g, v.ownBlock = some g → w.heap.size ≤ g) ∧ w.grownBy w' (some q) := by
  have kw : IntKind.i64.wrap ((a.length : Int) + (b.length : Int)) = (a.length : Int) + (b.length : Int) := IntWalk.i64_in _ (by omega)
  have kw2 : IntKind.i64.wrap ((b.length : Int) - 1) = (b.length : Int) - 1 := IntWalk.i64_in _ (by omega)
  have hql := h1.lt
  have H1 := Lib.hid h1
  have HA := Lib.hid ha
  have HBb := Lib.hid hb
  have c1 : w.cell? ⟨q, 0, none⟩ = some (.slice Aa a.length ca) := h1.cell 0
  have cq : (w.alloc (.cells #[.slice Ab b.length cb] 162)).cell? ⟨q, 0, none⟩ = some (.slice Aa a.length ca) := (((Below.refl w.heap.size w).alloc (Nat.le_refl _) _).cell (p := ⟨q, 0, none⟩) hql).trans c1
  clear h1 ha hb
  go_enter Tryz.func187, Tryz.ntmps187
  go_wp2_with fail
  obtain ⟨wb, hwb⟩ : ∃ wb, wb = w.alloc (.cells #[.slice Ab b.length cb] 162) := ⟨_, rfl⟩
  have hbw : Below w.heap.size w wb := by rw [hwb]; exact (Below.refl _ _).alloc (Nat.le_refl _) _
  have cp : wb.cell? ⟨w.heap.size, 0, none⟩ = some (.slice Ab b.length cb) := by rw [hwb]; exact (Blk.new w _ _).cell 0
  have hpl : w.heap.size < wb.heap.size := by rw [hwb]; simp
  have hql2 : q < wb.heap.size := Nat.lt_of_lt_of_le hql hbw.size
  obtain ⟨p, hp⟩ : ∃ p, p = w.heap.size := ⟨_, rfl⟩
  rw [← hwb] at cq ⊢
  rw [← hp] at cp hpl ⊢
  have HPW : Hid (Blk wb p 162 #[.slice Ab b.length cb]) := by show Blk _ _ _ _; rw [hwb, hp]; exact Blk.new w _ _
  have HBW := Lib.hid hbw
  clear hwb hbw hp
  obtain ⟨w2, hrun, ho2, hg2⟩ := run_makeC wb.drew wb.heap.size (a.length + b.length) (by omega) (by simp)
  rw [Int.natCast_add] at hrun
  have hrun' : (Instr.makeSlice 127 (.int .i64 0) (.int .i64 ((a.length : Int) + (b.length : Int)))).run Tryz.prog wb.drew = .ok (.slice (some ⟨wb.heap.size, 0, none⟩) 0 (a.length + b.length)) w2 := hrun
  have hb2 : Below wb.heap.size wb w2 := ((Below.refl wb.heap.size wb).trans (below_drewN (Below.refl _ _) 1)).grown hg2 (Nat.le_refl _) (by intro k hk; cases hk)
  have HB2 := Lib.hid hb2
  have HO2 := Lib.hid ho2
  clear ho2 hg2 hrun hb2
  go_region
  all_goals
    have cp2 := (HB2.out.cell (p := ⟨p, 0, none⟩) hpl).trans cp
    have HQ := Lib.hid cq
    clear hrun' cq
    go_wp2_with fail
    go_loopg [8, 9] (b.length + 1) (fun gg s8 s9 wr => ∃ (j : Nat) (z : Int), j ≤ b.length ∧ z + 1 = (j : Int) ∧ s9 = .int .i64 z ∧ j < gg ∧ Hid (OwnC wr wb.heap.size s8 (b.length - j) (clL (turned true b j))) ∧ Hid (Below wb.heap.size wb wr))
    case atStart => exact ⟨b.length, (b.length : Int) - 1, Nat.le_refl _, by omega, rfl, by omega, by show OwnC _ _ _ _ _; rw [turned_end, Nat.sub_self]; exact HO2.out, HB2⟩
    case round =>
      clear HO2 HB2 cp2 kw2
      obtain ⟨j, z, hj, hz, rfl, hg, HO, HB⟩ := hrel
      cases gk with
      | zero => omega
      | succ g1 =>
      have cp3 := (HB.out.cell (p := ⟨p, 0, none⟩) hpl).trans cp
      by_cases h0 : j = 0
      · subst h0
        obtain rfl : z = -1 := by omega
        have cq3 := (HB.out.cell (p := ⟨q, 0, none⟩) hql2).trans HQ.out
        have fq3 := ((H1.out.below HBW.out hql).below HB.out hql2).frozen 0
        have hAr := ((HA.out.below HBW.out).below HB.out)
        have HAR := Lib.hid hAr
        obtain ⟨Am, cm, rfl, hm, hmc, hmm⟩ := own_formX HO.out
        have HM := Lib.hid hm
        clear hAr hm
        have hO := HO.out
        rw [Nat.sub_zero] at hO ⊢
        have HO' := Lib.hid hO
        have HBX := H1.out.below HBW.out hql
        have HBXX := Lib.hid HBX
        have hAn : Aa = none → a.length = 0 := fun e => by rw [e] at HAR; have h := congrArg List.length HAR.out.none_; rw [clL_len, List.length_nil] at h; omega
        clear hO HO HBX
        cases under with
        | true =>
          go_wp2_with (at_builtin; go_loud (refine wpList_appC (by rfl) _ _ (by rfl) wb.heap.size _ b.length (clL (turned true b 0)) _ a.length _ (clL a) (by rfl) (by rfl) HO'.out (clL_len a) hAn HAR.out.news (cl_one a) HB.out.size (by omega) ?_))
          intro v3 w3 ho3 hg3 hb3 hm3 hr3
          obtain ⟨A3, c3, rfl, _, _, _⟩ := own_formX ho3
          have HB3 := Lib.hid (HB.out.trans hb3)
          have HO3 := Lib.hid ho3
          have f4 := (HBXX.out.below HB3.out hql2).frozen 0
          have c4 : w3.cell? ⟨q, 0, none⟩ = some (.slice Aa a.length ca) := (HBXX.out.below HB3.out hql2).cell 0
          clear hg3 hb3 hm3 hr3 ho3 hAn HO' HAR HM
          go_wp2_with fail
          refine bodyPost_ret (results_none rfl _ _ _) rfl ?_
          refine ⟨rfl, ⟨_, by simpa using (HBXX.out.below HB3.out hql2).set_ 0 _, join_end HO3.out hql2 ?_, fun g hg => Nat.le_trans HBW.out.size (HO3.out.lt g hg).1⟩, (grown_of_below (HBW.out.trans (HB3.out.mono HBW.out.size))).trans (grown_setX _ q 0 _)⟩
          unfold putS
          rw [if_pos rfl, clL_app, turned_all]
        | false =>
          obtain ⟨w4, hrun4, ho4, hg4⟩ := run_makeC wr wr.heap.size (a.length + b.length) (by omega) (Nat.le_refl _)
          rw [Int.natCast_add] at hrun4
          have hb4 : Below wr.heap.size wr w4 := (Below.refl _ _).grown hg4 (Nat.le_refl _) (by intro k hk; cases hk)
          have cq4 := (hb4.cell (p := ⟨q, 0, none⟩) (Nat.lt_of_lt_of_le hql2 HB.out.size)).trans cq3
          have HO4 := Lib.hid ho4
          have HB4 := Lib.hid hb4
          have HAR4 := Lib.hid (HAR.out.below hb4)
          have HM4 := Lib.hid (HM.out.below hb4)
          have HOM4 := Lib.hid (own_belowX HO'.out hb4)
          clear ho4 hg4 hb4
          go_wp2_with (at_builtin; go_loud (refine wpList_appC (by rfl) _ _ (by rfl) wr.heap.size _ 0 [] _ a.length _ (clL a) (by rfl) (by rfl) HO4.out (clL_len a) hAn HAR4.out.news (cl_one a) HB4.out.size (by omega) ?_))
          intro v5 w5 ho5 hg5 hb5 hm5 hr5
          have ho5 : OwnC w5 wr.heap.size v5 a.length (clL a) := by simpa using ho5
          obtain ⟨A5, c5, rfl, _, _, _⟩ := own_formX ho5
          have HB5 := Lib.hid (HB4.out.trans hb5)
          have HO5 := Lib.hid ho5
          have cq5 := (HB5.out.cell (p := ⟨q, 0, none⟩) (Nat.lt_of_lt_of_le hql2 HB.out.size)).trans cq3
          have HM5 := Lib.hid (HM.out.below HB5.out)
          have hBn : Am = none → b.length = 0 := fun e => by rw [e] at HM; have h := congrArg List.length HM.out.none_; rw [clL_len, turned_len, List.length_nil] at h; omega
          clear hg5 hb5 hm5 hr5 ho5 HO4 HB4 HAR4 HM4 HOM4 hrun4
          go_wp2_with (at_builtin; go_loud (refine wpList_appC (by rfl) _ _ (by rfl) wr.heap.size _ a.length (clL a) _ b.length _ (clL (turned true b 0)) (by rfl) (by rfl) HO5.out (by rw [clL_len, turned_len, Nat.sub_zero]) hBn HM5.out.news (cl_one _) HB5.out.size (by omega) ?_))
          intro v6 w6 ho6 hg6 hb6 hm6 hr6
          obtain ⟨A6, k6, rfl, _, _, _⟩ := own_formX ho6
          have HB6 := Lib.hid (HB.out.trans ((HB5.out.trans hb6).mono HB.out.size))
          have HO6 := Lib.hid ho6
          have f6 := (HBXX.out.below HB6.out hql2).frozen 0
          have c6 : w6.cell? ⟨q, 0, none⟩ = some (.slice Aa a.length ca) := (HBXX.out.below HB6.out hql2).cell 0
          have hqr : q < wr.heap.size := Nat.lt_of_lt_of_le hql2 HB.out.size
          clear hg6 hb6 hm6 hr6 ho6 hAn hBn HO' HAR HM HO5 HM5 HB5
          go_wp2_with fail
          go_end0
          refine ⟨rfl, ⟨_, by simpa using (HBXX.out.below HB6.out hql2).set_ 0 _, join_end HO6.out hqr ?_, fun g hg => Nat.le_trans (Nat.le_trans HBW.out.size HB.out.size) (HO6.out.lt g hg).1⟩, (grown_of_below (HBW.out.trans (HB6.out.mono HBW.out.size))).trans (grown_setX _ q 0 _)⟩
          unfold putS
          rw [if_neg (by decide), clL_app, turned_all]
      · obtain ⟨k, rfl⟩ : ∃ k, j = k + 1 := ⟨j - 1, by omega⟩
        obtain rfl : z = (k : Int) := by omega
        have hk : k < b.length := by omega
        have k0 : (0 : Int) ≤ (k : Int) := by omega
        have k1 : (k : Int) < (b.length : Int) := by omega
        have kw : IntKind.i64.wrap ((k : Int) - 1) = (k : Int) - 1 := IntWalk.i64_in _ (by omega)
        obtain ⟨bb, off, e, hbb, e0, e1, e2, e3⟩ := ((HBb.out.below HBW.out).below HB.out).cl hk
        subst e
        obtain ⟨x, hx⟩ : ∃ x, x = b[k] := ⟨_, rfl⟩
        have hst := turned_step true hk
        rw [← hx] at e0 e1 e2 e3 hst
        have HST := Lib.hid hst
        clear hx hst
        obtain ⟨y, hy⟩ : ∃ y, y = clT true x := ⟨_, rfl⟩
        have hT := impl_turn_H x wr
        rw [← hy] at hT HST
        unfold clA at hT
        have HT := Lib.hid hT
        clear hy hT
        go_wp2_with fail
        refine HT.out.mono ?_
        rintro e w3 ⟨rfl, hb3⟩
        have HB3 := Lib.hid (HB.out.trans (hb3.mono HB.out.size))
        have HOB := Lib.hid (own_belowX (own_belowX HO.out hb3) ((Below.refl w3.heap.size w3).alloc (Nat.le_refl _) (.cells #[.int .i64 y.1, .int .i64 y.2.1, .bool y.2.2.1, .bool y.2.2.2] 131)))
        have HNW := Lib.hid (RowV.lit w3 (clV y) 131)
        obtain ⟨Am, cm, rfl, _, _, _⟩ := own_formX HO.out
        clear hb3 HT HO HB
        go_wp2_with (at_builtin; go_loud (refine wpList_appC (by rfl) _ _ (by rfl) wb.heap.size _ (b.length - (k + 1)) (clL (turned true b (k + 1))) _ 1 _ (clV y) (by rfl) (by rfl) HOB.out rfl (fun e => by cases e) HNW.out.news (by have := cl_one [y]; rw [clL_one] at this; exact this) (Nat.le_trans HB3.out.size (by simp)) (by omega) ?_))
        intro v5 w5 ho5 hg5 hb5 hm5 hr5
        have ho5' : OwnC w5 wb.heap.size v5 (b.length - k) (clL (turned true b k)) := by
          have e1 : b.length - (k + 1) + 1 = b.length - k := by omega
          rw [e1] at ho5
          rw [← HST.out, clL_app, clL_one]; exact ho5
        have HO5 := Lib.hid ho5'
        have HB5 := Lib.hid ((HB3.out.alloc HB3.out.size _).trans hb5)
        clear ho5 ho5' hg5 hb5 hm5 hr5 HB3 HOB HNW
        go_wp2_with fail
        go_roundg g1
        case measure => omega
        case rel => exact ⟨k, (k : Int) - 1, by omega, by omega, by go_num, by omega, HO5, HB5⟩
end Go.Proofs.YtkdlipbegdiaaaaGreatDoor
namespace Go.Proofs.YtkdlipbegdiaaaaGreatDoor
open Go.RowKit
/-- slice values that read as stacks -/
def StkR (w : World) (vs : List Value) (Ss : List (List Cl)) : Prop := vs.length = Ss.length ∧ ∀ (k : Nat) (v : Value) (S : List Cl), vs[k]? = some v → Ss[k]? = some S → SlC w v S
theorem StkR.below {w w' : World} {vs : List Value} {Ss : List (List Cl)} (h : StkR w vs Ss) (hb : Below w.heap.size w w') : StkR w' vs Ss :=
  ⟨h.1, fun k v S h1 h2 => (h.2 k v S h1 h2).below hb⟩
theorem StkR.nil (w : World) : StkR w [] [] := ⟨rfl, fun k v S h1 _ => by simp at h1⟩
theorem StkR.snoc {w : World} {vs : List Value} {Ss : List (List Cl)} {v : Value} {S : List Cl} (h : StkR w vs Ss) (hv : SlC w v S) : StkR w (vs ++ [v]) (Ss ++ [S]) := by
  refine ⟨by simp [h.1], fun k u X h1 h2 => ?_⟩
  by_cases hk : k < vs.length
  · rw [List.getElem?_append_left hk] at h1
    rw [List.getElem?_append_left (by rw [← h.1]; exact hk)] at h2
    exact h.2 k u X h1 h2
  · rw [List.getElem?_append_right (by omega)] at h1
    rw [List.getElem?_append_right (by rw [← h.1]; omega), ← h.1] at h2
    cases hm : k - vs.length with
    | zero =>
      rw [hm] at h1 h2
      simp only [List.getElem?_cons_zero, Option.some.injEq] at h1 h2
      subst h1 h2
      exact hv
    | succ m => rw [hm] at h1; simp at h1
/-- a sheet in block r -/
structure ShM (w : World) (r : Nat) (S : Sh) : Prop where
  ex : ∃ A c vs, Blk w r 187 #[.int .i64 S.1, .int .i64 S.2.1, .slice A S.2.2.length c] ∧ RowV w A vs ∧ StkR w vs S.2.2 ∧ S.2.2.length ≤ c ∧ c ≤ maxLen
  len : S.2.2.length = S.1 * S.2.1
theorem ShM.below {w w' : World} {r : Nat} {S : Sh} (h : ShM w r S) (hb : Below w.heap.size w w') : ShM w' r S := by
  obtain ⟨A, c, vs, h1, h2, h3, h4, h5⟩ := h.ex
  exact ⟨⟨A, c, vs, h1.below hb h1.lt, h2.below hb, h3.below hb, h4, h5⟩, h.len⟩
theorem sh_idx {h w i j : Nat} (hi : i < h) (hj : j < w) : i * w + j < h * w := by
  have : (i + 1) * w ≤ h * w := Nat.mul_le_mul_right w (by omega)
  rw [Nat.succ_mul] at this
  omega
theorem shAt_get {S : Sh} (hl : S.2.2.length = S.1 * S.2.1) {i j : Nat} (hi : i < S.1) (hj : j < S.2.1) : S.2.2[i * S.2.1 + j]? = some (shAt S i j) := by
  have h := sh_idx hi hj
  unfold shAt
  rw [List.getElem?_eq_getElem (by omega)]; rfl
set_option maxHeartbeats 1000000 in
set_option maxRecDepth 100000 in
theorem impl_stackAt (r i j : Nat) (S : Sh) (w : World) (h : ShM w r S) (hi : i < S.1) (hj : j < S.2.1) (hm : S.1 * S.2.1 ≤ 4000) :
    Calls Tryz.prog 161 #[ptr r, .int .i64 i, .int .i64 j] w fun e w' => (∃ v, e = .returned (.agg #[v]) ∧ SlC w' v (shAt S i j)) ∧ Below w.heap.size w w' := by
  obtain ⟨A, c, vs, h1, h2, h3, h4, h5⟩ := h.ex
  have hx := shAt_get h.len hi hj
  have hlt := sh_idx hi hj
  have hln := h.len
  obtain ⟨v, hv⟩ : ∃ v, vs[i * S.2.1 + j]? = some v := ⟨_, List.getElem?_eq_getElem (by rw [h3.1]; omega)⟩
  have hS := h3.2 _ _ _ hv hx
  obtain ⟨b, off, rfl, hb, hc⟩ := h2 (show vs ≠ [] from fun e => by rw [e] at hv; simp at hv)
  have cc := hc _ _ hv
  obtain ⟨Av, cv, rfl, hS2⟩ := hS
  obtain ⟨T, hT⟩ : ∃ T, T = shAt S i j := ⟨_, rfl⟩
  rw [← hT] at hS2 cc hv ⊢
  have HS : Hid (SlC w (.slice Av T.length cv) T) := ⟨Av, cv, rfl, hS2⟩
  have c1 : w.cell? ⟨r, 1, none⟩ = some (.int .i64 S.2.1) := h1.cell 1
  have c2 : w.cell? ⟨r, 2, none⟩ = some (.slice (some ⟨b, off, none⟩) S.2.2.length c) := h1.cell 2
  have hrl := h1.lt
  obtain ⟨W, hW⟩ : ∃ W, W = S.2.1 := ⟨_, rfl⟩
  obtain ⟨N, hN⟩ : ∃ N, N = S.2.2.length := ⟨_, rfl⟩
  rw [← hW] at c1 cc hlt hj hln hm
  rw [← hN] at c2 hln
  obtain ⟨P, hP⟩ : ∃ P, P = i * W := ⟨_, rfl⟩
  obtain ⟨M, hM⟩ : ∃ M, M = S.1 * W := ⟨_, rfl⟩
  rw [← hP] at cc hlt
  rw [← hM] at hlt hln hm
  have kw : IntKind.i64.wrap ((i : Int) * (W : Int)) = (P : Int) := by
    have : (i : Int) * (W : Int) = (P : Int) := by rw [hP, Int.natCast_mul]
    rw [this]; exact IntWalk.i64_in _ (by omega)
  have kw2 : IntKind.i64.wrap ((P : Int) + (j : Int)) = (P : Int) + (j : Int) := IntWalk.i64_in _ (by omega)
  have k0 : (0 : Int) ≤ (P : Int) + (j : Int) := by omega
  have k1 : (P : Int) + (j : Int) < (N : Int) := by omega
  have kt : ((P : Int) + (j : Int)).toNat = P + j := by omega
  have HB : Hid (Below w.heap.size w (w.alloc (.cells #[.slice none 0 0] 162))) := (Below.refl _ _).alloc (Nat.le_refl _) _
  have d1 := (HB.out.cell (p := ⟨r, 1, none⟩) hrl).trans c1
  have d2 := (HB.out.cell (p := ⟨r, 2, none⟩) hrl).trans c2
  have d3 := (HB.out.cell (p := ⟨b, off + (P + j), none⟩) hb).trans cc
  clear hS2 hc hv hx h1 h2 h3 h hln hM hP hN hW hT h4 h5 hi
  go_enter Tryz.func161, Tryz.ntmps161
  go_wp2_with fail
  go_region
  all_goals
    go_wp2_with fail
    refine bodyPost_ret (v := .agg #[.slice Av T.length cv]) (by simp [results, Tryz.results161, go_sem]) rfl ⟨⟨_, rfl, ?_⟩, ?_⟩
    · exact HS.out.below (below_drewN ((Below.refl _ _).alloc (Nat.le_refl _) _) 1)
    · exact below_drewN ((Below.refl _ _).alloc (Nat.le_refl _) _) 1
set_option maxHeartbeats 400000 in
theorem impl_foldedPlaces (i half : Nat) (first : Bool) (w : World) (hi : i < half) (hh : half ≤ 1000) :
    Calls Tryz.prog 186 #[.int .i64 i, .int .i64 half, .bool first] w fun e w' => e = .returned (.tuple #[.int .i64 (stay i half first : Nat), .int .i64 (moved i half first : Nat)]) ∧ w = w' := by
  cases first with
  | true =>
    have e1 : ((stay i half true : Nat) : Int) = (half : Int) + (i : Int) := by unfold stay; rw [if_pos rfl]; omega
    have e2 : ((moved i half true : Nat) : Int) = (half : Int) - 1 - (i : Int) := by unfold moved; rw [if_pos rfl]; omega
    rw [e1, e2]
    go_enter Tryz.func186, Tryz.ntmps186
    go_wp2_with fail
    go_ret2
    exact ⟨rfl, rfl⟩
  | false =>
    have e1 : ((stay i half false : Nat) : Int) = (i : Int) := by unfold stay; rw [if_neg (by decide)]
    have e2 : ((moved i half false : Nat) : Int) = 2 * (half : Int) - 1 - (i : Int) := by unfold moved; rw [if_neg (by decide)]; omega
    rw [e1, e2]
    go_enter Tryz.func186, Tryz.ntmps186
    go_wp2_with fail
    go_ret2
    exact ⟨rfl, rfl⟩
end Go.Proofs.YtkdlipbegdiaaaaGreatDoor
