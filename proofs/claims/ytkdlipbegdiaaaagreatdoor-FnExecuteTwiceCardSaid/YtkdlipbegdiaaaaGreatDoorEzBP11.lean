/- A sheet folded by a letter; a new sheet: the program's. No condition but sizes. Sheets folded letter by letter: their sizes. No condition. Parts laid flat: the places of parts, whether a level lies between, the levels of parts. No condition but sizes. -/
import Derived.Test.YtkdlipbegdiaaaaGreatDoorEzBP10
import Derived.Test.YtkdlipbegdiaaaaGreatDoorEzBP3
import Derived.Test.YtkdlipbegdiaaaaGreatDoorEzBP0
namespace Go.Proofs.YtkdlipbegdiaaaaGreatDoor
open Go.RowKit
theorem grown_belowX {w W w' : World} {row : Option Nat} (h : w.grownBy W row) (k : Below w.heap.size W w') : w.grownBy w' row :=
  ⟨k.os.trans h.os, k.tape.trans h.tape, k.output.trans h.output, Nat.le_trans h.size k.size, fun i hi hn => (k.block i hi).trans (h.block i hi hn)⟩
theorem letter_cases {c : UInt8} (h : (wideL c || highB c) = true) : c = 82 ∨ c = 76 ∨ c = 114 ∨ c = 108 ∨ c = 85 ∨ c = 68 ∨ c = 117 ∨ c = 100 := by
  unfold wideL highB at h
  simp only [Bool.or_eq_true, decide_eq_true_eq] at h
  rcases h with (((h | h) | h) | h) | (((h | h) | h) | h) <;> simp [h]
set_option maxHeartbeats 1000000 in
set_option maxRecDepth 100000 in
theorem impl_fold (r : Nat) (S : Sh) (c : UInt8) (w : World) (h : ShM w r S) (hl : (wideL c || highB c) = true) (hC : highB c = false → S.2.1 % 2 = 0) (hR : highB c = true → S.1 % 2 = 0) (hr : S.1 ≤ 32) (hc : S.2.1 ≤ 32) (hs : ∀ x ∈ S.2.2, x.length ≤ 500 ∧ x ≠ []) :
    Calls Tryz.prog 160 #[ptr r, .int .u8 (c.toNat : Int)] w fun e w' => e = .returned (.tuple #[]) ∧ ShM w' r (foldC S c) ∧ w.grownBy w' (some r) := by
  have HW := Lib.hid (fun (first under : Bool) (h2 : S.2.1 % 2 = 0) => impl_foldWidth r S first under (S.2.1 / 2) w h (by omega) hr hc hs)
  have HH := Lib.hid (fun (first under : Bool) (h2 : S.1 % 2 = 0) => impl_foldHeight r S first under (S.1 / 2) w h (by omega) hr hc hs)
  clear h hr hc hs
  rcases letter_cases hl with rfl | rfl | rfl | rfl | rfl | rfl | rfl | rfl
  · have HF := Lib.hid (HW.out false false (hC rfl))
    have e : foldC S 82 = foldW S false false := rfl
    rw [e]
    clear HW HH hl hC hR e
    go_enter Tryz.func160, Tryz.ntmps160
    go_wp2_with fail
    refine HF.out.mono ?_
    rintro e w1 ⟨rfl, h1, h2⟩
    go_wp2_with fail
    go_end0
    exact ⟨rfl, h1, h2⟩
  · have HF := Lib.hid (HW.out true false (hC rfl))
    have e : foldC S 76 = foldW S true false := rfl
    rw [e]
    clear HW HH hl hC hR e
    go_enter Tryz.func160, Tryz.ntmps160
    go_wp2_with fail
    refine HF.out.mono ?_
    rintro e w1 ⟨rfl, h1, h2⟩
    go_wp2_with fail
    go_end0
    exact ⟨rfl, h1, h2⟩
  · have HF := Lib.hid (HW.out false true (hC rfl))
    have e : foldC S 114 = foldW S false true := rfl
    rw [e]
    clear HW HH hl hC hR e
    go_enter Tryz.func160, Tryz.ntmps160
    go_wp2_with fail
    refine HF.out.mono ?_
    rintro e w1 ⟨rfl, h1, h2⟩
    go_wp2_with fail
    go_end0
    exact ⟨rfl, h1, h2⟩
  · have HF := Lib.hid (HW.out true true (hC rfl))
    have e : foldC S 108 = foldW S true true := rfl
    rw [e]
    clear HW HH hl hC hR e
    go_enter Tryz.func160, Tryz.ntmps160
    go_wp2_with fail
    refine HF.out.mono ?_
    rintro e w1 ⟨rfl, h1, h2⟩
    go_wp2_with fail
    go_end0
    exact ⟨rfl, h1, h2⟩
  · have HF := Lib.hid (HH.out true false (hR rfl))
    have e : foldC S 85 = foldH S true false := rfl
    rw [e]
    clear HW HH hl hC hR e
    go_enter Tryz.func160, Tryz.ntmps160
    go_wp2_with fail
    refine HF.out.mono ?_
    rintro e w1 ⟨rfl, h1, h2⟩
    go_wp2_with fail
    go_end0
    exact ⟨rfl, h1, h2⟩
  · have HF := Lib.hid (HH.out false false (hR rfl))
    have e : foldC S 68 = foldH S false false := rfl
    rw [e]
    clear HW HH hl hC hR e
    go_enter Tryz.func160, Tryz.ntmps160
    go_wp2_with fail
    refine HF.out.mono ?_
    rintro e w1 ⟨rfl, h1, h2⟩
    go_wp2_with fail
    go_end0
    exact ⟨rfl, h1, h2⟩
  · have HF := Lib.hid (HH.out true true (hR rfl))
    have e : foldC S 117 = foldH S true true := rfl
    rw [e]
    clear HW HH hl hC hR e
    go_enter Tryz.func160, Tryz.ntmps160
    go_wp2_with fail
    refine HF.out.mono ?_
    rintro e w1 ⟨rfl, h1, h2⟩
    go_wp2_with fail
    go_end0
    exact ⟨rfl, h1, h2⟩
  · have HF := Lib.hid (HH.out false true (hR rfl))
    have e : foldC S 100 = foldH S false true := rfl
    rw [e]
    clear HW HH hl hC hR e
    go_enter Tryz.func160, Tryz.ntmps160
    go_wp2_with fail
    refine HF.out.mono ?_
    rintro e w1 ⟨rfl, h1, h2⟩
    go_wp2_with fail
    go_end0
    exact ⟨rfl, h1, h2⟩
set_option maxHeartbeats 4000000 in
set_option maxRecDepth 100000 in
theorem impl_newFoldSheet (R C : Nat) (w : World) (hR : R ≤ 32) (hC : C ≤ 32) :
    Calls Tryz.prog 159 #[.agg #[.int .i64 R, .int .i64 C]] w fun e w' => ∃ r, e = .returned (ptr r) ∧ w.heap.size ≤ r ∧ ShM w' r (newSh R C) ∧ Below w.heap.size w w' := by
  obtain ⟨F, hF⟩ : ∃ F : Nat → Nat → List Cl, F = fun i j => [(i, j, true, true)] := ⟨_, rfl⟩
  have HFin : Hid (newSh R C = (R, C, gridTo C F R 0)) := by
    show _ = _
    rw [gridTo_end, hF]; rfl
  have HFF := Lib.hid hF
  have HLN : Hid (∀ i j, i ≤ R → j ≤ C → i * C + j ≤ 2000) := by
    show ∀ i j, _
    intro i j hi hj
    have := Nat.mul_le_mul (show i ≤ 32 by omega) (show C ≤ 32 by omega)
    omega
  clear hF
  go_enter Tryz.func159, Tryz.ntmps159
  go_wp2_with fail
  obtain ⟨wb, hwb⟩ : ∃ wb, wb = (w.alloc (.cells #[.int .i64 R, .int .i64 C] 155)).alloc (.cells #[.int .i64 R, .int .i64 C, .slice none 0 0] 187) := ⟨_, rfl⟩
  have hbw : Below w.heap.size w wb := by rw [hwb]; exact ((Below.refl _ _).alloc (Nat.le_refl _) _).alloc (by simp) _
  have hkp : Blk wb w.heap.size 155 #[.int .i64 R, .int .i64 C] := by rw [hwb]; exact (Blk.new w _ _).alloc _
  obtain ⟨q, hq⟩ : ∃ q, q = w.heap.size + 1 := ⟨_, rfl⟩
  have hkq : Blk wb q 187 #[.int .i64 R, .int .i64 C, .slice none 0 0] := by
    have h := Blk.new (w.alloc (.cells #[.int .i64 R, .int .i64 C] 155)) 187 #[.int .i64 R, .int .i64 C, .slice none 0 0]
    rw [hwb, hq]
    have e : (w.alloc (.cells #[.int .i64 R, .int .i64 C] 155)).heap.size = w.heap.size + 1 := by simp
    rw [e] at h; exact h
  obtain ⟨p, hp⟩ : ∃ p, p = w.heap.size := ⟨_, rfl⟩
  have hpq : p ≠ q := by omega
  have hqw : w.heap.size ≤ q := by omega
  rw [← hwb, ← hq]
  rw [← hp] at hkp ⊢
  have hql := hkq.lt
  have HKP := Lib.hid hkp
  have HKQ := Lib.hid hkq
  have HBW := Lib.hid hbw
  have HQW := Lib.hid hqw
  clear hwb hq hp hkp hkq hbw hqw
  go_loopg [4, 5] (R + 1) (fun gg s4 s5 wr => ∃ (i : Nat) (s : Value) (vs : List Value), s5 = s5 ∧ i ≤ R ∧ s4 = .int .i64 i ∧ R - i < gg ∧ Hid (wb.grownBy wr (some q)) ∧ Hid (Blk wr q 187 #[.int .i64 R, .int .i64 C, s]) ∧ Hid (OwnS wr wb.heap.size s vs.length vs) ∧ Hid (StkR wr vs (gridTo C F i 0)) ∧ Hid (Apt s vs))
  case atStart => exact ⟨0, .slice none 0 0, [], rfl, Nat.zero_le _, rfl, by omega, World.grownBy.refl wb _, HKQ.out, ⟨rfl, Or.inl ⟨rfl, rfl⟩⟩, StkR.nil _, Apt.nil _⟩
  case round =>
    obtain ⟨i, s, vs, _, hi, rfl, hg, HG, HK, HO, HV, HAp⟩ := hrel
    cases gk with
    | zero => omega
    | succ g1 =>
    obtain ⟨wo, hwo⟩ : ∃ wo, wo = wr := ⟨_, rfl⟩
    subst hwo
    have r0 : wo.cell? ⟨p, 0, none⟩ = some (.int .i64 R) := (HKP.out.grown HG.out (fun e => hpq (Option.some.inj e))).cell 0
    by_cases hlt : i < R
    · have HG0 := HG
      have HK0 := HK
      have HO0 := HO
      have HV0 := HV
      have HA0 := HAp
      clear HG HK HO HV HAp
      go_wp2_with fail
      go_loopg [5] (C + 1) (fun gg s5 wr => ∃ (j : Nat) (s : Value) (vs : List Value), j ≤ C ∧ s5 = .int .i64 j ∧ C - j < gg ∧ Hid (wb.grownBy wr (some q)) ∧ Hid (Blk wr q 187 #[.int .i64 R, .int .i64 C, s]) ∧ Hid (OwnS wr wb.heap.size s vs.length vs) ∧ Hid (StkR wr vs (gridTo C F i j)) ∧ Hid (Apt s vs))
      case atStart => exact ⟨0, s, vs, Nat.zero_le _, rfl, by omega, HG0, HK0, HO0, HV0, HA0⟩
      case round =>
        clear HG0 HK0 HO0 HV0 HA0 r0
        obtain ⟨j, s, vs, hj, rfl, hg, HG, HK, HO, HV, HAp⟩ := hrel
        cases gk with
        | zero => omega
        | succ g2 =>
        have r1 : wr.cell? ⟨p, 1, none⟩ = some (.int .i64 C) := (HKP.out.grown HG.out (fun e => hpq (Option.some.inj e))).cell 1
        by_cases hjt : j < C
        · obtain ⟨As, cs, rfl, _, _, _⟩ := own_formX HO.out
          have hvl : vs.length ≤ 2000 := by rw [HV.out.1, gridTo_len]; exact HLN.out i j (by omega) (by omega)
          go_wp2_with fail
          obtain ⟨w1, hw1⟩ : ∃ w1, w1 = wr.alloc (.cells #[.int .i64 i, .int .i64 j, .bool true, .bool true] 131) := ⟨_, rfl⟩
          have hb1 : Below wr.heap.size wr w1 := by rw [hw1]; exact (Below.refl _ _).alloc (Nat.le_refl _) _
          have hk6 : Blk w1 wr.heap.size 131 #[.int .i64 i, .int .i64 j, .bool true, .bool true] := by rw [hw1]; exact Blk.new wr _ _
          have e0 : w1.cell? ⟨wr.heap.size, 0, none⟩ = some (.int .i64 i) := hk6.cell 0
          have e1 : w1.cell? ⟨wr.heap.size, 1, none⟩ = some (.int .i64 j) := hk6.cell 1
          have e2 : w1.cell? ⟨wr.heap.size, 2, none⟩ = some (.bool true) := hk6.cell 2
          have e3 : w1.cell? ⟨wr.heap.size, 3, none⟩ = some (.bool true) := hk6.cell 3
          have hkq1 := HK.out.below hb1 HK.out.lt
          have c2 : w1.cell? ⟨q, 2, none⟩ = some (.slice As vs.length cs) := hkq1.cell 2
          have f2 := hkq1.frozen 2
          have hq1 := hkq1.lt
          have hbw1 : wb.heap.size ≤ w1.heap.size := Nat.le_trans HG.out.size hb1.size
          have hne : (Value.slice As vs.length cs).ownBlock ≠ some q := fun e => by have := (HO.out.lt q e).1; omega
          have HKQ1 := Lib.hid hkq1
          have HB1 := Lib.hid hb1
          have HO1 := Lib.hid (own_belowX HO.out hb1)
          have hlt6 : wr.heap.size < w1.heap.size := hk6.lt
          rw [← hw1]
          clear hw1 hk6 hkq1 hb1
          obtain ⟨W, hW⟩ : ∃ W, W = ((w1.alloc (.cells #[.int .i64 i, .int .i64 j, .bool true, .bool true] 131)).alloc (.cells #[.slice (some ⟨w1.heap.size, 0, none⟩) 1 1] 162)).drew := ⟨_, rfl⟩
          have hbW : Below w1.heap.size w1 W := by rw [hW]; exact below_drewN (((Below.refl _ _).alloc (Nat.le_refl _) _).alloc (by simp) _) 1
          have hlit : RowV W (some ⟨w1.heap.size, 0, none⟩) (clL [(i, j, true, true)]) := by
            rw [hW]
            exact ((RowV.lit w1 (clL [(i, j, true, true)]) 131).alloc _).below (below_drewN (Below.refl _ _) 1)
          have hsl : SlC W (.slice (some ⟨w1.heap.size, 0, none⟩) 1 1) [(i, j, true, true)] := ⟨_, 1, rfl, hlit, Nat.le_refl _, by unfold maxLen; omega⟩
          have hrow : RowV W (some ⟨w1.heap.size + 1, 0, none⟩) [.slice (some ⟨w1.heap.size, 0, none⟩) 1 1] := by
            have h := RowV.lit (w1.alloc (.cells #[.int .i64 i, .int .i64 j, .bool true, .bool true] 131)) [.slice (some ⟨w1.heap.size, 0, none⟩) 1 1] 162
            have e : (w1.alloc (.cells #[.int .i64 i, .int .i64 j, .bool true, .bool true] 131)).heap.size = w1.heap.size + 1 := by simp
            rw [e] at h
            rw [hW]; exact h.below (below_drewN (Below.refl _ _) 1)
          have HBX := Lib.hid hbW
          have HOW := Lib.hid (own_belowX HO1.out hbW)
          have HVW := Lib.hid (((HV.out.below HB1.out).below hbW).snoc hsl)
          have HAW := Lib.hid (HAp.out.snoc (v := .slice (some ⟨w1.heap.size, 0, none⟩) 1 1) (fun g e he => by cases e; have h : w1.heap.size < w1.heap.size := (HO1.out.lt _ he).2; exact Nat.lt_irrefl _ h))
          have HRW := Lib.hid hrow
          have HKW := Lib.hid (HKQ1.out.below hbW hq1)
          have HST : Hid (∀ (v8 : Value) (w8 : World), W.grownBy w8 (Value.slice As vs.length cs).ownBlock → w8.cell? ⟨q, 2, none⟩ = some (.slice As vs.length cs) ∧ w8.frozen? ⟨q, 2, none⟩ = false) := by
            show ∀ (v8 : Value) (w8 : World), _
            intro v8 w8 hg8
            have hk := HKW.out.grown hg8 (fun e => hne e.symm)
            exact ⟨hk.cell 2, hk.frozen 2⟩
          have HBW1 : Hid (wb.heap.size ≤ W.heap.size) := Nat.le_trans hbw1 hbW.size
          have HW := Lib.hid hW
          have HNE := Lib.hid hne
          clear hbW hlit hsl hrow hW hne
          go_region_law
            (first | (rw [← HW.out]; refine step_appS (by rfl) _ _ (by rfl) wb.heap.size (Value.slice As vs.length cs) vs.length vs (some ⟨w1.heap.size + 1, 0, none⟩) 1 1 [Value.slice (some ⟨w1.heap.size, 0, none⟩) 1 1] (by rfl) (by rfl) HOW.out rfl (fun e => by cases e) HRW.out.news (by intro u hu; simp only [List.mem_cons, List.not_mem_nil, or_false] at hu; subst hu; rfl) HBW1.out (by omega) ?_; intro v8 w8 ho8 hg8 hb8 hm8 hr8; obtain ⟨A8, c8, e8, _⟩ := own_formX ho8; subst e8; have c8' := (HST.out (.slice A8 (vs.length + 1) c8) w8 hg8).1; have f8' := (HST.out (.slice A8 (vs.length + 1) c8) w8 hg8).2))
          all_goals
            have hg9 : wb.grownBy (w8.setCell ⟨q, 2, none⟩ (.slice A8 (vs.length + 1) c8)) (some q) := by
              have h1 : Below wb.heap.size wr W := (HB1.out.trans (HBX.out.mono HB1.out.size)).mono HG.out.size
              exact (grown_belowX HG.out (h1.trans hb8)).trans (grown_setX w8 q 2 _)
            have hk8 := HKW.out.grown hg8 (fun e => HNE.out e.symm)
            have hk9 : Blk (w8.setCell ⟨q, 2, none⟩ (.slice A8 (vs.length + 1) c8)) q 187 #[.int .i64 R, .int .i64 C, .slice A8 (vs.length + 1) c8] := by simpa using hk8.set_ 2 (.slice A8 (vs.length + 1) c8)
            have ho9 := ho8.kept (grown_setX w8 q 2 (.slice A8 (vs.length + 1) c8)) (Or.inr fun e => by have := (ho8.lt q e).1; omega)
            have ho10 : OwnS (w8.setCell ⟨q, 2, none⟩ (.slice A8 (vs.length + 1) c8)) wb.heap.size (.slice A8 (vs.length + 1) c8) (vs ++ [Value.slice (some ⟨w1.heap.size, 0, none⟩) 1 1]).length (vs ++ [Value.slice (some ⟨w1.heap.size, 0, none⟩) 1 1]) := by
              rw [List.length_append]; exact ho9
            have hgr : gridTo C F i j ++ [[(i, j, true, true)]] = gridTo C F i (j + 1) := by rw [gridTo_succ, HFF.out]
            have hv9 := (HVW.out.grown HAW.out hg8).sheet (i := 2) (.slice A8 (vs.length + 1) c8) hk8
            rw [hgr] at hv9
            have hp9 := HAW.out.moved HVW.out (by
              intro S hS
              rw [hgr] at hS
              rcases gridTo_mem hS with ⟨a, b, _, _, rfl⟩ | ⟨b, _, rfl⟩
              · rw [HFF.out]; simp
              · rw [HFF.out]; simp) hm8
            have HG9 := Lib.hid hg9
            have HK9 := Lib.hid hk9
            have HO9 := Lib.hid ho10
            have HV9 := Lib.hid hv9
            have HP9 := Lib.hid hp9
            clear hg9 hk8 hk9 ho9 ho10 hgr hv9 hp9 ho8 hg8 hb8 hm8 hr8 c8' f8'
            go_wp2_with fail
            go_roundg g2
            case measure => omega
            case rel => exact ⟨j + 1, _, _, by omega, by go_num, by omega, HG9, HK9, HO9, HV9, HP9⟩
        · obtain rfl : j = C := by omega
          have HV9 : Hid (StkR wr vs (gridTo j F (i + 1) 0)) := by show StkR _ _ _; rw [← gridTo_row]; exact HV.out
          clear HV
          go_wp2_with fail
          go_roundg g1
          case measure => omega
          case rel => exact ⟨i + 1, s, vs, trivial, by omega, by go_num, by omega, HG, HK, HO, HV9, HAp⟩
    · obtain rfl : i = R := by omega
      obtain ⟨As, cs, rfl, hrs, hls, hms⟩ := own_formX HO.out
      have hfin : ShM wo q (newSh i C) := by
        rw [HFin.out]
        have hvl := HV.out.1
        refine ⟨⟨As, cs, vs, ?_, hrs, HV.out, ?_, hms⟩, ?_⟩
        · show Blk _ q _ #[_, _, .slice As (gridTo C F i 0).length cs]
          rw [← hvl]; exact HK.out
        · show (gridTo C F i 0).length ≤ cs
          rw [← hvl]; exact hls
        · show (gridTo C F i 0).length = i * C
          rw [gridTo_len]; rfl
      have HFI := Lib.hid hfin
      have HBE := Lib.hid (HBW.out.grown HG.out HBW.out.size (fun g e => by cases e; exact HQW.out))
      clear hfin hrs HV HO HK HAp
      go_wp2_with fail
      go_ret
      exact ⟨q, rfl, HQW.out, HFI.out, HBE.out⟩
end Go.Proofs.YtkdlipbegdiaaaaGreatDoor
namespace Go.Proofs.YtkdlipbegdiaaaaGreatDoor
open Go.RowKit
/-- as many stacks as places, all of m cells -/
def ShI (S : Sh) (m : Nat) : Prop := S.2.2.length = S.1 * S.2.1 ∧ ∀ x ∈ S.2.2, x.length = m
theorem putS_len (a b : List Cl) (h u : Bool) : (putS a b h u).length = a.length + b.length := by
  unfold putS; split <;> simp <;> omega
theorem foldW_inv {S : Sh} {m : Nat} (f u : Bool) (h : ShI S m) (he : S.2.1 % 2 = 0) : ShI (foldW S f u) (2 * m) := by
  refine ⟨?_, ?_⟩
  · show ((List.range S.1).flatMap _).length = S.1 * (S.2.1 / 2)
    have := gridTo_len (S.2.1 / 2) (fun i j => putS (shAt S i (stay j (S.2.1 / 2) f)) (shAt S i (moved j (S.2.1 / 2) f)) false u) S.1 0
    rw [gridTo_end] at this
    exact this
  · intro x hx
    obtain ⟨i, hi, hx⟩ := List.mem_flatMap.1 (show x ∈ (List.range S.1).flatMap _ from hx)
    obtain ⟨j, hj, rfl⟩ := List.mem_map.1 hx
    rw [List.mem_range] at hi hj
    rw [putS_len, h.2 _ (shAt_mem h.1 hi (by have := stay_lt f hj; omega)), h.2 _ (shAt_mem h.1 hi (by have := moved_lt f hj; omega))]
    omega
theorem foldH_inv {S : Sh} {m : Nat} (f u : Bool) (h : ShI S m) (he : S.1 % 2 = 0) : ShI (foldH S f u) (2 * m) := by
  refine ⟨?_, ?_⟩
  · show ((List.range (S.1 / 2)).flatMap _).length = (S.1 / 2) * S.2.1
    have := gridTo_len S.2.1 (fun i j => putS (shAt S (stay i (S.1 / 2) f) j) (shAt S (moved i (S.1 / 2) f) j) true u) (S.1 / 2) 0
    rw [gridTo_end] at this
    exact this
  · intro x hx
    obtain ⟨i, hi, hx⟩ := List.mem_flatMap.1 (show x ∈ (List.range (S.1 / 2)).flatMap _ from hx)
    obtain ⟨j, hj, rfl⟩ := List.mem_map.1 hx
    rw [List.mem_range] at hi hj
    rw [putS_len, h.2 _ (shAt_mem h.1 (by have := stay_lt f hi; omega) hj), h.2 _ (shAt_mem h.1 (by have := moved_lt f hi; omega) hj)]
    omega
theorem newSh_inv (h w : Nat) : ShI (newSh h w) 1 := by
  refine ⟨?_, ?_⟩
  · show ((List.range h).flatMap _).length = h * w
    have := gridTo_len w (fun i j => [(i, j, true, true)]) h 0
    rw [gridTo_end] at this
    exact this
  · intro x hx
    obtain ⟨i, hi, hx⟩ := List.mem_flatMap.1 (show x ∈ (List.range h).flatMap _ from hx)
    obtain ⟨j, hj, rfl⟩ := List.mem_map.1 hx
    rfl
theorem rowsT_cons (c : UInt8) (l : List UInt8) : rowsT (c :: l) = (if highB c then 2 else 1) * rowsT l := by
  unfold rowsT
  rw [List.countP_cons]
  split
  · rw [Nat.pow_succ]; omega
  · simp
theorem colsT_cons (c : UInt8) (l : List UInt8) : colsT (c :: l) = (if wideL c then 2 else 1) * colsT l := by
  unfold colsT
  rw [List.countP_cons]
  split
  · rw [Nat.pow_succ]; omega
  · simp
theorem letter_one {c : UInt8} (h : (wideL c || highB c) = true) : highB c = !wideL c := by
  unfold wideL highB at *
  simp only [Bool.or_eq_true, decide_eq_true_eq] at h
  rcases h with (((h | h) | h) | h) | (((h | h) | h) | h) <;> subst h <;> decide
/-- the sheet behind some letters, others still to come -/
structure ShK (S : Sh) (rest : List UInt8) (m : Nat) : Prop where
  rows : S.1 = rowsT rest
  cols : S.2.1 = colsT rest
  inv : ShI S m
theorem ShK.new (l : List UInt8) : ShK (newSh (rowsT l) (colsT l)) l 1 := ⟨rfl, rfl, newSh_inv _ _⟩
theorem ShK.step {S : Sh} {c : UInt8} {rest : List UInt8} {m : Nat} (h : ShK S (c :: rest) m) (hl : (wideL c || highB c) = true) : ShK (foldC S c) rest (2 * m) ∧ (highB c = false → S.2.1 % 2 = 0) ∧ (highB c = true → S.1 % 2 = 0) := by
  have h1 := h.rows
  have h2 := h.cols
  rw [rowsT_cons] at h1
  rw [colsT_cons] at h2
  have h3 := letter_one hl
  cases hw : wideL c with
  | true =>
    rw [hw] at h3
    simp only [Bool.not_true] at h3
    rw [hw, if_pos rfl] at h2
    rw [h3, if_neg (by decide)] at h1
    have he : S.2.1 % 2 = 0 := by omega
    refine ⟨?_, fun _ => he, fun e => by rw [h3] at e; cases e⟩
    unfold foldC
    rw [h3, if_neg (by decide)]
    exact ⟨by show S.1 = _; omega, by show S.2.1 / 2 = _; omega, foldW_inv _ _ h.inv he⟩
  | false =>
    rw [hw] at h3
    simp only [Bool.not_false] at h3
    rw [hw, if_neg (by decide)] at h2
    rw [h3, if_pos rfl] at h1
    have he : S.1 % 2 = 0 := by omega
    refine ⟨?_, fun e => (by rw [h3] at e; cases e), fun _ => he⟩
    unfold foldC
    rw [h3, if_pos rfl]
    exact ⟨by show S.1 / 2 = _; omega, by show S.2.1 = _; omega, foldH_inv _ _ h.inv he⟩
theorem pow5 {k : Nat} (h : k ≤ 5) : 2 ^ k ≤ 32 := Nat.le_trans (Nat.pow_le_pow_right (by omega) h) (by decide)
theorem rowsT_le {l : List UInt8} (h : l.length ≤ 5) : rowsT l ≤ 32 := pow5 (Nat.le_trans List.countP_le_length h)
theorem colsT_le {l : List UInt8} (h : l.length ≤ 5) : colsT l ≤ 32 := pow5 (Nat.le_trans List.countP_le_length h)
theorem rowsT_pos (l : List UInt8) : 0 < rowsT l := Nat.two_pow_pos _
theorem colsT_pos (l : List UInt8) : 0 < colsT l := Nat.two_pow_pos _
theorem ShK.all {S : Sh} {rest : List UInt8} {m : Nat} (h : ShK S rest m) (hl : ∀ c ∈ rest, (wideL c || highB c) = true) : ShK (foldAll S rest) [] (m * 2 ^ rest.length) := by
  induction rest generalizing S m with
  | nil => simpa [foldAll] using h
  | cons c r ih =>
    have h1 := (h.step (hl c (by simp))).1
    have h2 := ih h1 (fun d hd => hl d (by simp [hd]))
    have e : 2 * m * 2 ^ r.length = m * 2 ^ (c :: r).length := by
      rw [List.length_cons, Nat.pow_succ, Nat.mul_comm 2 m, Nat.mul_assoc, Nat.mul_comm 2]
    rw [e] at h2
    exact h2
theorem stackT_len {l : List UInt8} (hl : ∀ c ∈ l, (wideL c || highB c) = true) : (stackT l).length = 2 ^ l.length := by
  have h := (ShK.new l).all hl
  rw [Nat.one_mul] at h
  exact h.inv.2 _ (shAt_mem h.inv.1 (by rw [h.rows]; decide) (by rw [h.cols]; decide))
end Go.Proofs.YtkdlipbegdiaaaaGreatDoor
namespace Go.Proofs.YtkdlipbegdiaaaaGreatDoor
open Go.RowKit
/-- where the part k begins -/
def plcAt (xs : List Int) : Nat → Int
  | 0 => 0
  | k + 1 => if k % 2 = 0 then plcAt xs k + xs.getD k 0 else plcAt xs k - xs.getD k 0
def plcTo (xs : List Int) (m : Nat) : List Int := (List.range m).map (plcAt xs)
def plcL (xs : List Int) : List Int := plcTo xs (xs.length + 1)
theorem plcTo_len (xs : List Int) (m : Nat) : (plcTo xs m).length = m := by simp [plcTo]
theorem plcTo_succ (xs : List Int) (m : Nat) : plcTo xs (m + 1) = plcTo xs m ++ [plcAt xs m] := by simp [plcTo, List.range_succ]
theorem plcTo_get {xs : List Int} {m k : Nat} (h : k < m) : (plcTo xs m)[k]? = some (plcAt xs k) := by simp [plcTo, h]
theorem plcAt_bd {xs : List Int} (hx : ∀ x ∈ xs, 0 ≤ x ∧ x ≤ 1000) (k : Nat) : -(1000 * (k : Int)) ≤ plcAt xs k ∧ plcAt xs k ≤ 1000 * (k : Int) := by
  induction k with
  | zero => simp [plcAt]
  | succ k ih =>
    have hg : 0 ≤ xs.getD k 0 ∧ xs.getD k 0 ≤ 1000 := by
      rw [List.getD_eq_getElem?_getD]
      cases hk : xs[k]? with
      | none => simp
      | some y => exact hx y (List.mem_of_getElem? hk)
    rw [plcAt]
    split <;> omega
theorem mod2z (k : Nat) : ((k : Int).tmod 2 = ((k % 2 : Nat) : Int)) ∧ ((k : Int) % 2 = ((k % 2 : Nat) : Int)) := by
  have h1 : (0 : Int) ≤ (k : Int) := by omega
  refine ⟨?_, ?_⟩
  · rw [Int.tmod_eq_emod_of_nonneg h1]; omega
  · omega
set_option maxHeartbeats 1000000 in
set_option maxRecDepth 100000 in
theorem impl_placesOf (A : Option Addr) (cap : Nat) (xs : List Int) (w : World) (h : Ints w A xs) (hl : xs.length ≤ 100) (hx : ∀ x ∈ xs, 0 ≤ x ∧ x ≤ 1000) :
    Calls Tryz.prog 40 #[.slice A xs.length cap] w fun e w' => ∃ v, e = .returned v ∧ Own w' w.heap.size v (plcL xs) ∧ Below w.heap.size w w' := by
  go_enter Tryz.func40, Tryz.ntmps40
  obtain ⟨i0, hi, hz0, hz1, hz2⟩ := info_parts Tryz.infoInt
  obtain ⟨w1, hrun, hown1, hg1⟩ := run_make_own (P := Tryz.prog) w w.heap.size 23 3 i0 (.int .i64 0) 1 Tryz.underlying23 hi hz0 hz1 .i64 .i64 (xs.length + 1) (by rw [hz2]; omega) (by unfold maxLen; omega) (Nat.le_refl _)
  have hb1 : Below w.heap.size w w1 := (Below.refl _ _).grown hg1 (Nat.le_refl _) (by intro k hk; cases hk)
  have HRun : Hid ((Instr.makeSlice 23 (.int .i64 0) (.int .i64 ((xs.length : Int) + 1))).run Tryz.prog w = .ok (.slice (some ⟨w.heap.size, 0, none⟩) 0 (xs.length + 1)) w1) := by
    show _ = _
    have := hrun
    simpa using this
  have hown1' : Own w1 w.heap.size (.slice (some ⟨w.heap.size, 0, none⟩) 0 (xs.length + 1)) (plcTo xs 0) := hown1
  have HB1 := Lib.hid hb1
  have hsz1 := hb1.size
  clear hi hz0 hz1 hz2 hrun hown1 hg1 hb1
  go_wp2_with fail
  rw [HRun.out]
  clear HRun
  go_wp2_with (at_builtin; go_loud (refine wpList_push (W := w1) rfl _ _ rfl w.heap.size _ (plcTo xs 0) 0 (by rfl) (by rfl) hown1' hsz1 (by simp [plcTo]) ?_))
  intro v2 w2 hown2 hgr2 hb2
  have HO2 : Hid (Own w2 w.heap.size v2 (plcTo xs 1)) := by
    have : plcTo xs 1 = plcTo xs 0 ++ [0] := plcTo_succ xs 0
    show Own _ _ _ _
    rw [this]; exact hown2
  have HB2 := Lib.hid (HB1.out.trans hb2)
  clear hown1' hown2 hgr2 hb2 hsz1 HB1
  go_wp2_with fail
  go_loopg [3, 4, 5, 6, 17] (xs.length + 1) (fun g s3 s4 s5 s6 s17 wr => ∃ (k : Nat), s5 = s5 ∧ s6 = s6 ∧ k ≤ xs.length ∧ s17 = .int .i64 k ∧ s4 = .int .i64 (plcAt xs k) ∧ xs.length - k < g ∧ Hid (Own wr w.heap.size s3 (plcTo xs (k + 1))) ∧ Hid (Below w.heap.size w wr))
  case atStart => exact ⟨0, rfl, rfl, Nat.zero_le _, rfl, rfl, by omega, HO2, HB2⟩
  case round =>
    clear HO2 HB2
    obtain ⟨k, _, _, hk, rfl, rfl, hg, HO, HB⟩ := hrel
    cases gk with
    | zero => omega
    | succ g =>
    by_cases hlt : k < xs.length
    · obtain ⟨b, off, rfl, hb, hc⟩ := h.below HB.out (by intro e; rw [e] at hlt; simp at hlt)
      have r1 := hc k xs[k] (List.getElem?_eq_getElem hlt)
      have hxk := hx xs[k] (List.getElem_mem hlt)
      have hpb := plcAt_bd hx k
      have hnext : plcAt xs (k + 1) = if k % 2 = 0 then plcAt xs k + xs[k] else plcAt xs k - xs[k] := by
        rw [plcAt, List.getD_eq_getElem?_getD, List.getElem?_eq_getElem hlt]; rfl
      obtain ⟨x, hx0⟩ : ∃ x, x = xs[k] := ⟨_, rfl⟩
      obtain ⟨p, hp0⟩ : ∃ p, p = plcAt xs k := ⟨_, rfl⟩
      rw [← hx0] at r1 hxk hnext
      rw [← hp0] at hpb hnext ⊢
      obtain ⟨m1, m2⟩ := mod2z k
      have k1 : (k : Int) < (xs.length : Int) := by omega
      have k0 : (0 : Int) ≤ (k : Int) := by omega
      have hT := plcTo_succ xs (k + 1)
      have hown := HO.out
      have hsz := HB.out.size
      have hln : (plcTo xs (k + 1)).length ≤ 101 := by rw [plcTo_len]; omega
      by_cases he : k % 2 = 0
      · rw [if_pos he] at hnext
        rw [he] at m1 m2
        have kw : IntKind.i64.wrap (p + x) = p + x := IntWalk.i64_in _ (by omega)
        rw [hnext] at hT
        have HT := Lib.hid hT
        have HN := Lib.hid hnext
        clear hc hx0 hp0 hnext hT he HO
        go_wp2_with (at_builtin; go_loud (refine wpList_push (W := wr) rfl _ _ rfl w.heap.size _ (plcTo xs (k + 1)) (p + x) (by rfl) (by rfl) hown hsz (by omega) ?_))
        intro v3 w3 hown3 hgr3 hb3
        rw [← HT.out] at hown3
        have HO3 := Lib.hid hown3
        have HB3 := Lib.hid (HB.out.trans hb3)
        clear hown hown3 hgr3 hb3
        go_wp2_with fail
        go_roundg g
        case measure => omega
        case rel => exact ⟨k + 1, trivial, trivial, by omega, by go_num, by rw [HN.out], by omega, HO3, HB3⟩
      · rw [if_neg he] at hnext
        rw [show k % 2 = 1 from by omega] at m1 m2
        have kw : IntKind.i64.wrap (p - x) = p - x := IntWalk.i64_in _ (by omega)
        rw [hnext] at hT
        have HT := Lib.hid hT
        have HN := Lib.hid hnext
        clear hc hx0 hp0 hnext hT he HO
        go_wp2_with (at_builtin; go_loud (refine wpList_push (W := wr) rfl _ _ rfl w.heap.size _ (plcTo xs (k + 1)) (p - x) (by rfl) (by rfl) hown hsz (by omega) ?_))
        intro v3 w3 hown3 hgr3 hb3
        rw [← HT.out] at hown3
        have HO3 := Lib.hid hown3
        have HB3 := Lib.hid (HB.out.trans hb3)
        clear hown hown3 hgr3 hb3
        go_wp2_with fail
        go_roundg g
        case measure => omega
        case rel => exact ⟨k + 1, trivial, trivial, by omega, by go_num, by rw [HN.out], by omega, HO3, HB3⟩
    · obtain rfl : k = xs.length := by omega
      go_wp2_with fail
      go_ret
      exact ⟨_, rfl, HO.out, HB.out⟩
def betB (l a b : Int) : Bool := decide (min a b < l) && decide (l < max a b)
set_option maxHeartbeats 400000 in
theorem impl_isBetween (l a b : Int) (w : World) :
    Calls Tryz.prog 94 #[.int .i64 l, .int .i64 a, .int .i64 b] w fun e w' => e = .returned (.bool (betB l a b)) ∧ w = w' := by
  go_enter Tryz.func94, Tryz.ntmps94
  go_wp2_with fail
  all_goals
    go_ret
    refine ⟨ret_bool ?_, rfl⟩
    rw [Bool.eq_iff_iff]
    unfold betB
    simp only [Bool.and_eq_true, decide_eq_true_eq, Bool.false_eq_true, false_iff]
    omega
end Go.Proofs.YtkdlipbegdiaaaaGreatDoor
