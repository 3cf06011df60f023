/- The program's creaseUses, PatternValid, PatternCreases. No condition but sizes. PatternValid and PatternCreases, the program's and the reference's. No condition but sizes. Bytes and numbers at a place, of pieces and of what is put together. No program, no condition. The program's 'list': the angles and folds of a ring from its first crease on. No condition but sizes. -/
import Derived.Test.YtdpfnhkhojiddaaFnPatternSheetP50
import Derived.Test.YtdpfnhkhojiddaaRingE
import Derived.Test.YtdpfnhkhojiddaaRingF
import Derived.Test.YtdpfnhkhojiddaaBytes
namespace Go.Proofs.Ytdpfnhkhojiddaa
open Go.RowKit

theorem Row10.prefix_ {w : World} {B g : Nat} {f : Nat → Int} {n : Nat} (h : Row10 w B g f) (hn : n ≤ 10) : w.ownsRow B 3 1 (.slice (some ⟨g, 0, none⟩) n 10) n (((rowF f).take n).map (Value.int .i64)) := by
  obtain ⟨h1, h2⟩ := h
  refine ⟨by simp [rowF_len]; omega, ?_⟩
  rcases h2 with ⟨hv, _⟩ | ⟨g', cap, cur, hv, hb, hg, hnc, hcm, hcs, htake⟩
  · cases hv
  · injection hv with e1 e2 e3
    injection e1 with e1
    injection e1 with e1
    subst e1 e3
    refine Or.inr ⟨g, 10, cur, rfl, hb, hg, hn, hcm, hcs, ?_⟩
    rw [List.map_take, ← htake, List.take_take]
    congr 1
    omega
/-- of the counts, those from n on are nothing -/
def TailZero (f : Nat → Int) (n : Nat) : Prop := ∀ k, n ≤ k → k < 10 → f k = 0
theorem ncr_of {vs : List Vx} {n : Nat} (hall : allGo vs = true) (hn : n ≤ 10) (hz : ∀ k, n ≤ k → k < 10 → useN vs (k : Int) = 0) (hlast : n = 0 ∨ 0 < useN vs ((n - 1 : Nat) : Int)) : ncr vs = (n : Int) := by
  have hb := ncr_bd (by rw [allGo_eq]; exact hall : vs.all vtxB = true)
  have hle := (ncGo_le 0 vs).2
  have hvx : ∀ v ∈ vs, ∀ x ∈ v.2, 0 ≤ x ∧ x ≤ 9 := fun v hv => by
    rw [← allGo_eq, List.all_eq_true] at hall
    exact (vtxB_bd (hall v hv)).2.2.2.2
  have h1 : (n : Int) ≤ ncr vs := by
    rcases hlast with rfl | h
    · exact hb.1
    · obtain ⟨v, hv, hk⟩ := useN_pos.1 h
      have := hle v hv _ hk
      unfold ncr
      omega
  have h2 : ncr vs ≤ (n : Int) := by
    rcases ncGo_is 0 vs with e | ⟨v, hv, x, hx, e⟩
    · unfold ncr; rw [e]; omega
    · unfold ncr; rw [e]
      have hx9 := hvx v hv x hx
      rcases Nat.lt_or_ge x.toNat n with h | h
      · omega
      · exfalso
        have := hz x.toNat h (by omega)
        have hp : 0 < useN vs x := useN_pos.2 ⟨v, hv, hx⟩
        rw [show ((x.toNat : Nat) : Int) = x from by omega] at this
        omega
  omega
theorem allGo_take {vs : List Vx} {k : Nat} (h : k < vs.length) (hv : vtxB vs[k] = false) : allGo vs = false := by
  rw [← allGo_eq, ← Bool.not_eq_true, List.all_eq_true]
  intro hh
  have := hh vs[k] (List.getElem_mem h)
  rw [hv] at this
  cases this
theorem usesOk_iff {vs : List Vx} {n : Nat} : usesOk vs n = true ↔ ∀ k, k < n → 1 ≤ useN vs (k : Int) ∧ useN vs (k : Int) ≤ 2 := by
  induction n with
  | zero => simp [usesOk]
  | succ n ih =>
    rw [usesOk, Bool.and_eq_true, ih, Bool.and_eq_true, decide_eq_true_eq, decide_eq_true_eq]
    constructor
    · rintro ⟨h1, h2⟩ k hk
      rcases Nat.lt_or_ge k n with h | h
      · exact h1 k h
      · have : k = n := by omega
        rw [this]; exact h2
    · intro h
      exact ⟨fun k hk => h k (by omega), h n (by omega)⟩

set_option maxHeartbeats 4000000 in
set_option maxRecDepth 100000 in
theorem impl_creaseUses (A : Option Addr) (cap : Nat) (vs : List Vx) (w : World) (h : Verts w A vs) (hl : vs.length ≤ maxLen) :
    Calls Try.prog 39 #[.slice A vs.length cap] w fun e w' => ∃ v, e = .returned (.tuple #[v, .bool (patB vs)]) ∧ (patB vs = true → Own w' w.heap.size v (usesL vs (ncr vs).toNat)) ∧ (patB vs = false → v = .slice none 0 0) ∧ Below w.heap.size w w' := by
  unfold maxLen at hl
  by_cases hin : 1 ≤ vs.length ∧ vs.length ≤ 3
  · have hfin : patB vs = (allGo vs && usesOk vs (ncr vs).toNat) := by
      unfold patB; rw [decide_eq_true hin.1, decide_eq_true hin.2, ← allGo_eq]; rfl
    have HF := Lib.hid hfin
    obtain ⟨hin1, hin2⟩ := hin
    have q1 : decide ((vs.length : Int) < 1) = false := by simp; omega
    have q2 : decide ((3 : Int) < (vs.length : Int)) = false := by simp; omega
    obtain ⟨i0, hi, hz0, hz1, hz2⟩ := info_parts Try.infoInt
    obtain ⟨w1, hrun, ho1, hg1⟩ := run_make_full (P := Try.prog) w w.heap.size 28 3 i0 (.int .i64 0) 1 Try.underlying28 hi hz0 hz1 .i64 .i64 10 (by rw [hz2]; omega) (by unfold maxLen; omega) (Nat.le_refl w.heap.size)
    have hrow : Row10 w1 w.heap.size w.heap.size (fun k => (useN (vs.take 0) (k : Int) : Int)) := by
      have e : (madeCells (Value.int .i64 0).cells (10 * 1)).toList = List.replicate 10 (Value.int .i64 0) := toList_madeCells_one _ _
      have e2 : List.replicate 10 (Value.int .i64 0) = (rowF (fun k => (useN (vs.take 0) (k : Int) : Int))).map (Value.int .i64) := by
        simp [rowF, useN]
        rfl
      show w1.ownsRow _ _ _ _ _ _
      rw [← e2, ← e]
      exact ho1
    have hrun : Sem.run Try.prog (Instr.makeSlice 28 (.int .i64 10) (.int .i64 10)) w = .ok (.slice (some ⟨w.heap.size, 0, none⟩) 10 10) w1 := hrun
    have HRun := Lib.hid hrun
    have HRow := Lib.hid hrow
    have HB1 := Lib.hid ((Below.refl w.heap.size w).grown hg1 (Nat.le_refl _) (fun _ hh => by cases hh))
    clear hfin hi hz0 hz1 hz2 hrun ho1 hg1 hrow
    go_enter Try.func39, Try.ntmps39
    go_wp2_with fail
    rw [HRun.out]
    go_wp2_with fail
    go_loopg [6, 20] (vs.length + 1) (fun g s6 s20 wr => ∃ (k : Nat), k ≤ vs.length ∧ s20 = .int .i64 k ∧ vs.length - k < g ∧ Hid (allGo (vs.drop k) = allGo vs) ∧ Hid (Below w.heap.size w wr) ∧ Hid (Row10 wr w.heap.size w.heap.size (fun j => (useN (vs.take k) (j : Int) : Int))))
    case atStart => exact ⟨0, Nat.zero_le _, rfl, by omega, rfl, HB1.out, HRow.out⟩
    case round =>
      clear HB1 HRow HRun
      obtain ⟨k, hk, rfl, hg, HA, HB, HR⟩ := hrel
      cases gk with
      | zero => omega
      | succ g =>
      by_cases hlt : k < vs.length
      · obtain ⟨b, off, A1, c1, A2, c2, rfl, hb, r1, r2, i1, l1, m1, i2, l2, m2⟩ := h.at_ hlt
        have r1w := (HB.out.cell (p := ⟨b, off + k * 2, none⟩) hb).trans r1
        have r2w := (HB.out.cell (p := ⟨b, off + k * 2 + 1, none⟩) hb).trans r2
        obtain ⟨xs, hxs⟩ : ∃ xs, xs = vs[k].1 := ⟨_, rfl⟩
        obtain ⟨cs, hcs⟩ : ∃ cs, cs = vs[k].2 := ⟨_, rfl⟩
        have hd := List.drop_eq_getElem_cons hlt
        have hvk : vs[k] = (xs, cs) := by rw [hxs, hcs]
        rw [← hxs] at r1w i1 l1
        rw [← hcs] at r2w i2 l2
        have k1 : (k : Int) < (vs.length : Int) := by omega
        have k0 : (0 : Int) ≤ (k : Int) := by omega
        have hgo : allGo vs = if vtxB (xs, cs) = true then allGo (vs.drop (k + 1)) else false := by rw [← HA.out, hd, allGo, hvk]
        have hno : vtxB (xs, cs) = false → patB vs = false := fun hh => by rw [HF.out, hgo, hh]; rfl
        have HGO := Lib.hid hgo
        have HNO := Lib.hid hno
        obtain ⟨w2, hw2⟩ : ∃ w2, w2 = wr.alloc (.cells #[.slice A1 xs.length c1, .slice A2 cs.length c2] 31) := ⟨_, rfl⟩
        have hblk : Blk w2 wr.heap.size 31 #[.slice A1 xs.length c1, .slice A2 cs.length c2] := by rw [hw2]; exact Blk.new wr _ _
        have hb2 : Below w.heap.size w w2 := by rw [hw2]; exact HB.out.alloc HB.out.size _
        have hr2 : Row10 w2 w.heap.size w.heap.size (fun j => (useN (vs.take k) (j : Int) : Int)) := by rw [hw2]; exact HR.out.alloc _
        have hd1 := hblk.cell 0
        have hd2 := hblk.cell 1
        have hsz := HB.out.size
        have hgs : w.heap.size < w2.heap.size := Nat.lt_of_le_of_lt hsz hblk.lt
        have haw : Away w2 w.heap.size A2 cs := i2.away hb2 (Nat.le_refl _)
        have HI1 := Lib.hid (i1.below hb2)
        have HAW := Lib.hid haw
        have HB2 := Lib.hid hb2
        have HR2 := Lib.hid hr2
        have hvk2 : ∀ j : Nat, (useN (vs.take (k + 1)) (j : Int) : Int) = bump (fun j => (useN (vs.take k) (j : Int) : Int)) cs j := by
          intro j
          rw [List.take_succ_eq_append_getElem hlt, hvk, useN_app]
          unfold bump
          have e1 : useN [(xs, cs)] (j : Int) = if (j : Int) ∈ cs then 1 else 0 := by simp [useN]
          rw [e1]
          show _ = (useN (vs.take k) (j : Int) : Int) + _
          by_cases hj : (j : Int) ∈ cs
          · rw [if_pos hj, if_pos hj]; omega
          · rw [if_neg hj, if_neg hj]; omega
        have HVK2 := Lib.hid hvk2
        have HW2 := Lib.hid hw2
        have HI2 := Lib.hid i2
        have l2m : cs.length ≤ maxLen := Nat.le_trans l2 m2
        have l1m : xs.length ≤ maxLen := Nat.le_trans l1 m1
        clear hxs hcs hd hvk hgo hno hb2 hr2 haw hvk2 r1 r2 hw2 HB HR hblk i1 i2
        go_wp2_with fail
        rw [← HW2.out]
        go_wp2_with fail
        refine (impl_AnglesCloses A1 c1 xs w2 HI1.out l1m).mono ?_
        rintro e w' ⟨rfl, rfl⟩
        cases ha : acB xs with
        | false =>
          have hp := HNO.out (by unfold vtxB; rw [ha]; rfl)
          have HP := Lib.hid hp
          clear ha hp
          go_wp2_with fail
          go_ret2
          refine ⟨.slice none 0 0, by rw [HP.out]; rfl, ?_, fun _ => rfl, HB2.out⟩
          intro hh
          rw [HP.out] at hh
          cases hh
        | true =>
          by_cases hl2 : cs.length = xs.length
          · have dl : ((cs.length : Int) != (xs.length : Int)) = false := by rw [bne_eq_false_iff_eq]; omega
            have hl10 : cs.length ≤ 10 := by
              have ha2 := ha
              unfold acB at ha2
              simp only [Bool.and_eq_true] at ha2
              have := avB_parts ha2.1
              omega
            have hvt : vtxB (xs, cs) = crB cs := by unfold vtxB; rw [ha]; simp [hl2]
            have HVT := Lib.hid hvt
            have hcall : Calls Try.prog 46 #[.agg #[.slice A1 xs.length c1, .slice A2 cs.length c2], .slice (some ⟨w.heap.size, 0, none⟩) 10 10] w2 fun e w' => e = .returned (.bool (crB cs)) ∧ (∃ f', Row10 w' w.heap.size w.heap.size f' ∧ (crB cs = true → ∀ j, j < 10 → f' j = bump (fun j => (useN (vs.take k) (j : Int) : Int)) cs j)) ∧ w2.grownBy w' (some w.heap.size) :=
              impl_addUses A1 A2 c1 c2 xs.length cs _ w.heap.size w.heap.size w2 HAW.out (by omega) l2 HR2.out (fun j hj => by have := useN_le (vs.take k) (j : Int); have := List.length_take_le k vs; omega) (Nat.le_refl _) hgs
            have HCALL := Lib.hid hcall
            clear ha hvt hl2 hcall
            go_wp2_with fail
            refine HCALL.out.mono ?_
            rintro e w3 ⟨rfl, ⟨f', hr3, hf'⟩, hg3⟩
            have hb3 : Below w.heap.size w w3 := HB2.out.grown hg3 HB2.out.size (fun q hq => by cases hq; exact Nat.le_refl _)
            have HB3 := Lib.hid hb3
            have HR3 := Lib.hid hr3
            have HF3 := Lib.hid hf'
            clear hb3 hr3 hg3 hf'
            cases hc : crB cs with
            | false =>
              have hp := HNO.out (by rw [HVT.out, hc])
              have HP := Lib.hid hp
              clear hc hp
              go_wp2_with fail
              go_ret2
              refine ⟨.slice none 0 0, by rw [HP.out]; rfl, ?_, fun _ => rfl, HB3.out⟩
              intro hh
              rw [HP.out] at hh
              cases hh
            | true =>
              have hgo2 : allGo (vs.drop (k + 1)) = allGo vs := by rw [HGO.out, HVT.out, hc, if_pos rfl]
              have hrow : Row10 w3 w.heap.size w.heap.size (fun j => (useN (vs.take (k + 1)) (j : Int) : Int)) := by
                have e : rowF f' = rowF (fun j => (useN (vs.take (k + 1)) (j : Int) : Int)) := rowF_congr fun j hj => by
                  rw [HF3.out hc j hj]
                  exact (HVK2.out j).symm
                show w3.ownsRow _ _ _ _ _ _
                rw [← e]
                exact HR3.out
              have HGO2 := Lib.hid hgo2
              have HRow := Lib.hid hrow
              clear hc hgo2 hrow
              go_wp2_with fail
              go_roundg g
              case measure => omega
              case rel => exact ⟨k + 1, by omega, by go_num, by omega, HGO2, HB3, HRow⟩
          · have dl : ((cs.length : Int) != (xs.length : Int)) = true := by rw [bne_iff_ne]; omega
            have hp := HNO.out (by unfold vtxB; simp [hl2])
            have HP := Lib.hid hp
            clear ha hp hl2
            go_wp2_with fail
            go_ret2
            refine ⟨.slice none 0 0, by rw [HP.out]; rfl, ?_, fun _ => rfl, HB2.out⟩
            intro hh
            rw [HP.out] at hh
            cases hh
      · obtain rfl : k = vs.length := by omega
        have hall : allGo vs = true := by rw [← HA.out, List.drop_length]; rfl
        have hfin : patB vs = usesOk vs (ncr vs).toNat := by rw [HF.out, hall]; rfl
        have hrow : Row10 wr w.heap.size w.heap.size (fun j => (useN vs (j : Int) : Int)) := by
          have := HR.out
          rwa [List.take_length] at this
        have HAll := Lib.hid hall
        have HF2 := Lib.hid hfin
        have HRow := Lib.hid hrow
        have hcell : ∀ j, j < 10 → wr.cell? ⟨w.heap.size, j, none⟩ = some (.int .i64 (useN vs (j : Int) : Int)) := by
          intro j hj
          have := hrow.cellAt j hj
          rw [List.getElem?_map, rowF_get _ hj] at this
          simpa using this
        have HC := Lib.hid hcell
        clear hall hfin hrow hcell HR HA
        go_wp2_with fail
        go_loop [4] (fun s4 => ∃ n : Nat, n ≤ 10 ∧ s4 = .slice (some ⟨w.heap.size, 0, none⟩) n 10 ∧ Hid (∀ j, n ≤ j → j < 10 → useN vs (j : Int) = 0)) (fun s4 => (match s4 with | .slice _ n _ => n | _ => 0))
        case atStart => exact ⟨10, Nat.le_refl _, rfl, fun j h1 h2 => by omega⟩
        case round =>
          obtain ⟨n, hn, rfl, HZ⟩ := hrel
          have n3 : (n : Int) ≤ 10 := by omega
          by_cases n0 : n = 0
          · subst n0
            have hnc : ncr vs = ((0 : Nat) : Int) := ncr_of HAll.out hn HZ.out (Or.inl rfl)
            have hp : patB vs = true := by rw [HF2.out, hnc]; rfl
            have hN2 : (ncr vs).toNat = 0 := by rw [hnc]; rfl
            have HP := Lib.hid hp
            have HN2 := Lib.hid hN2
            clear hnc hp hN2
            go_wp2_with fail
            go_loop [8, 63] (fun s8 s63 => s63 = .int .i64 0) (fun _ s63 => 0)
            case atStart => exact rfl
            case round =>
              subst hrel
              go_wp2_with fail
              go_ret2
              refine ⟨.slice (some ⟨w.heap.size, 0, none⟩) 0 10, by rw [HP.out]; rfl, fun _ => ?_, ?_, HB.out⟩
              · rw [HN2.out]
                have hpre := HRow.out.prefix_ (n := 0) (by omega)
                show wr.ownsRow _ _ _ _ _ _
                rw [usesL_len]
                exact hpre
              · intro hh
                rw [HP.out] at hh
                cases hh
          · have hn1 : n - 1 < 10 := by omega
            have c1 := HC.out (n - 1) hn1
            have d0 : decide ((0 : Int) < (n : Int)) = true := by simp; omega
            have i1 : ((n : Int) - 1).toNat = n - 1 := by omega
            have i2 : (0 : Int) ≤ (n : Int) - 1 := by omega
            have i3 : (n : Int) - 1 < (n : Int) := by omega
            have i4 : (n : Int) - 1 ≤ 10 := by omega
            have i5 : (1 : Int) ≤ (n : Int) := by omega
            obtain ⟨u, hu⟩ : ∃ u, u = useN vs ((n - 1 : Nat) : Int) := ⟨_, rfl⟩
            rw [← hu] at c1
            have HU := Lib.hid hu
            clear hu
            by_cases u0 : u = 0
            · subst u0
              have HZ2 : Hid (∀ j, n - 1 ≤ j → j < 10 → useN vs (j : Int) = 0) := fun j h1 h2 => by
                rcases Nat.lt_or_ge j n with h3 | h3
                · have : j = n - 1 := by omega
                  rw [this, ← HU.out]
                · exact HZ.out j h3 h2
              go_wp2_with fail
              go_round
              case rel => exact ⟨n - 1, by omega, rfl, HZ2⟩
              case measure => first | omega | (simp; omega)
            · have du0 : ((u : Int) == 0) = false := by rw [beq_eq_false_iff_ne]; omega
              have hnc : ncr vs = (n : Int) := ncr_of HAll.out hn HZ.out (Or.inr (by have := HU.out; omega))
              have hfin : patB vs = usesOk vs n := by rw [HF2.out, hnc]; rfl
              have hN2 : (ncr vs).toNat = n := by rw [hnc]; rfl
              have HF3 := Lib.hid hfin
              have HN2 := Lib.hid hN2
              clear hnc hfin hN2
              go_wp2_with fail
              go_loop [8, 63] (fun s8 s63 => ∃ j : Nat, j ≤ n ∧ s63 = .int .i64 j ∧ Hid (∀ i, i < j → 1 ≤ useN vs (i : Int) ∧ useN vs (i : Int) ≤ 2)) (fun _ s63 => n - (intOf s63).toNat)
              case atStart => exact ⟨0, Nat.zero_le _, rfl, fun i hi => by omega⟩
              case round =>
                obtain ⟨j, hj, rfl, HJ⟩ := hrel
                by_cases hjn : j < n
                · have cj := HC.out j (by omega)
                  obtain ⟨u, hu⟩ : ∃ u, u = useN vs (j : Int) := ⟨_, rfl⟩
                  rw [← hu] at cj
                  have HU := Lib.hid hu
                  clear hu
                  have j1 : (j : Int) < (n : Int) := by omega
                  have j0 : (0 : Int) ≤ (j : Int) := by omega
                  have hbad : ¬ (1 ≤ u ∧ u ≤ 2) → patB vs = false := by
                    intro hb
                    rw [HF3.out, ← Bool.not_eq_true, usesOk_iff]
                    intro hh
                    have := hh j hjn
                    rw [← HU.out] at this
                    exact hb this
                  have HBad := Lib.hid hbad
                  clear hbad
                  by_cases u1 : u < 1
                  · have du : decide ((u : Int) < 1) = true := by simp; omega
                    have hp := HBad.out (by omega)
                    have HP := Lib.hid hp
                    clear hp
                    go_wp2_with fail
                    go_ret2
                    refine ⟨.slice none 0 0, by rw [HP.out]; rfl, ?_, fun _ => rfl, HB.out⟩
                    intro hh
                    rw [HP.out] at hh
                    cases hh
                  · have du : decide ((u : Int) < 1) = false := by simp; omega
                    by_cases u2 : 2 < u
                    · have du2 : decide ((2 : Int) < (u : Int)) = true := by simp; omega
                      have hp := HBad.out (by omega)
                      have HP := Lib.hid hp
                      clear hp
                      go_wp2_with fail
                      go_ret2
                      refine ⟨.slice none 0 0, by rw [HP.out]; rfl, ?_, fun _ => rfl, HB.out⟩
                      intro hh
                      rw [HP.out] at hh
                      cases hh
                    · have du2 : decide ((2 : Int) < (u : Int)) = false := by simp; omega
                      have HJ2 : Hid (∀ i, i < j + 1 → 1 ≤ useN vs (i : Int) ∧ useN vs (i : Int) ≤ 2) := fun i hi => by
                        rcases Nat.lt_or_ge i j with h3 | h3
                        · exact HJ.out i h3
                        · have : i = j := by omega
                          rw [this, ← HU.out]; omega
                      go_wp2_with fail
                      go_round
                      case rel => exact ⟨j + 1, by omega, by go_num, HJ2⟩
                      case measure => simp [intOf]; omega
                · obtain rfl : j = n := by omega
                  have hp : patB vs = true := by rw [HF3.out, usesOk_iff]; exact HJ.out
                  have HP := Lib.hid hp
                  clear hp
                  go_wp2_with fail
                  go_ret2
                  refine ⟨.slice (some ⟨w.heap.size, 0, none⟩) j 10, by rw [HP.out]; rfl, fun _ => ?_, ?_, HB.out⟩
                  · rw [HN2.out]
                    have hpre := HRow.out.prefix_ hn
                    have e : (rowF (fun i => (useN vs (i : Int) : Int))).take j = usesL vs j := by
                      unfold rowF usesL
                      rw [← List.map_take, List.take_range, Nat.min_eq_left hn]
                    rw [e] at hpre
                    show wr.ownsRow _ _ _ _ _ _
                    rw [usesL_len]
                    exact hpre
                  · intro hh
                    rw [HP.out] at hh
                    cases hh
  · have hfin : patB vs = false := by
      unfold patB
      by_cases h1 : 1 ≤ vs.length
      · rw [decide_eq_false (p := vs.length ≤ 3) (fun h3 => hin ⟨h1, h3⟩)]; simp
      · rw [decide_eq_false (p := 1 ≤ vs.length) h1]; simp
    have HF := Lib.hid hfin
    by_cases h1 : vs.length < 1
    · have q1 : decide ((vs.length : Int) < 1) = true := by simp; omega
      clear hfin hin
      go_enter Try.func39, Try.ntmps39
      go_wp2_with fail
      go_ret2
      refine ⟨.slice none 0 0, by rw [HF.out]; rfl, ?_, fun _ => rfl, Below.refl _ _⟩
      intro hh
      rw [HF.out] at hh
      cases hh
    · have q1 : decide ((vs.length : Int) < 1) = false := by simp; omega
      have q2 : decide ((3 : Int) < (vs.length : Int)) = true := by simp; omega
      clear hfin hin
      go_enter Try.func39, Try.ntmps39
      go_wp2_with fail
      go_ret2
      refine ⟨.slice none 0 0, by rw [HF.out]; rfl, ?_, fun _ => rfl, Below.refl _ _⟩
      intro hh
      rw [HF.out] at hh
      cases hh
end Go.Proofs.Ytdpfnhkhojiddaa
namespace Go.Proofs.Ytdpfnhkhojiddaa
open Go.RowKit

/-- the number of creases, -1 for no pattern -/
def pcI (vs : List Vx) : Int := if patB vs then ncr vs else -1
theorem patB_parts {vs : List Vx} (h : patB vs = true) : 1 ≤ vs.length ∧ vs.length ≤ 3 ∧ vs.all vtxB = true ∧ usesOk vs (ncr vs).toNat = true ∧ 0 ≤ ncr vs ∧ ncr vs ≤ 10 := by
  have h0 := h
  unfold patB at h
  simp only [Bool.and_eq_true, decide_eq_true_eq] at h
  obtain ⟨⟨⟨h1, h2⟩, h3⟩, h4⟩ := h
  have := ncr_bd h3
  exact ⟨h1, h2, h3, h4, this.1, this.2⟩
set_option maxHeartbeats 400000 in
theorem impl_PatternCreases (A : Option Addr) (cap : Nat) (vs : List Vx) (w : World) (h : Verts w A vs) (hl : vs.length ≤ maxLen) :
    Calls Try.prog 26 #[.slice A vs.length cap] w fun e w' => e = .returned (.int .i64 (pcI vs)) ∧ Below w.heap.size w w' := by
  go_enter Try.func26, Try.ntmps26
  go_wp2_with fail
  refine (impl_creaseUses A cap vs w h hl).mono ?_
  rintro e w1 ⟨v, rfl, hyes, hno, hb⟩
  cases hp : patB vs with
  | false =>
    have hv := hno hp
    subst hv
    have HP := Lib.hid hp
    clear hp hyes hno
    go_wp2_with fail
    go_ret
    exact ⟨ret_int (by unfold pcI; rw [HP.out]; rfl), hb⟩
  | true =>
    have hown := hyes hp
    obtain ⟨_, _, _, _, n0, _⟩ := patB_parts hp
    obtain ⟨n, hn⟩ : ∃ n, n = (ncr vs).toNat := ⟨_, rfl⟩
    rw [← hn] at hown
    obtain ⟨D, cd, rfl, _, _, _⟩ := hown.form
    rw [usesL_len]
    have HP := Lib.hid hp
    have HN := Lib.hid (show (n : Int) = ncr vs from by omega)
    clear hp hyes hno hown hn n0
    go_wp2_with fail
    go_ret
    exact ⟨ret_int (by unfold pcI; rw [HP.out, if_pos rfl]; exact HN.out), hb⟩
end Go.Proofs.Ytdpfnhkhojiddaa
namespace Go.Proofs.Ytdpfnhkhojiddaa

theorem byteAt_append (a b : ByteArray) (k : Nat) : byteAt (a ++ b) k = if k < a.size then byteAt a k else byteAt b (k - a.size) := by
  unfold byteAt
  simp only [ByteArray.data_append, Array.toList_append, List.getD_eq_getElem?_getD]
  by_cases h : k < a.size
  · rw [if_pos h, List.getElem?_append_left (by simpa using h)]
  · rw [if_neg h, List.getElem?_append_right (by simpa using h)]; simp
theorem byteAt_extract (s : ByteArray) (a b k : Nat) (h : a + k < b) : byteAt (s.extract a b) k = byteAt s (a + k) := by
  unfold byteAt
  simp only [ByteArray.data_extract, Array.toList_extract, List.getD_eq_getElem?_getD]
  rw [List.extract_eq_take_drop, List.getElem?_take, if_pos (by omega), List.getElem?_drop]

theorem angleAt_append (a b : List Int) (k : Nat) : angleAt (a ++ b) k = if k < a.length then angleAt a k else angleAt b (k - a.length) := by
  unfold angleAt
  simp only [List.getD_eq_getElem?_getD]
  by_cases h : k < a.length
  · rw [if_pos h, List.getElem?_append_left h]
  · rw [if_neg h, List.getElem?_append_right (by omega)]
theorem angleAt_drop (a : List Int) (m k : Nat) : angleAt (a.drop m) k = angleAt a (m + k) := by
  unfold angleAt
  simp only [List.getD_eq_getElem?_getD, List.getElem?_drop]
theorem angleAt_take (a : List Int) (m k : Nat) (h : k < m) : angleAt (a.take m) k = angleAt a k := by
  unfold angleAt
  simp only [List.getD_eq_getElem?_getD, List.getElem?_take, if_pos h]
theorem angleAt_one (z : Int) : angleAt [z] 0 = z := rfl

end Go.Proofs.Ytdpfnhkhojiddaa
namespace Go.Proofs.Ytdpfnhkhojiddaa
open Go.RowKit

def angTo (x : Nat → Int) (k : Nat) : List Int := (List.range k).map x
def folTo (f : Nat → Nat) (k : Nat) : List UInt8 := (List.range k).map fun i => UInt8.ofNat (f i)
theorem angTo_succ (x : Nat → Int) (k : Nat) : angTo x (k + 1) = angTo x k ++ [x k] := by simp [angTo, List.range_succ]
theorem folTo_succ (f : Nat → Nat) (k : Nat) : folTo f (k + 1) = folTo f k ++ [UInt8.ofNat (f k)] := by simp [folTo, List.range_succ]
theorem angTo_len (x : Nat → Int) (k : Nat) : (angTo x k).length = k := by simp [angTo]
theorem folTo_len (f : Nat → Nat) (k : Nat) : (folTo f k).length = k := by simp [folTo]
theorem angleAt_angTo (x : Nat → Int) {n k : Nat} (h : k < n) : angleAt (angTo x n) k = x k := by
  simp [angleAt, angTo, List.getD_eq_getElem?_getD, h]
theorem byteAt_folTo (f : Nat → Nat) {n k : Nat} (h : k < n) (hf : f k < 256) : byteAt ⟨(folTo f n).toArray⟩ k = f k := by
  simp [byteAt, folTo, List.getD_eq_getElem?_getD, h]
  omega


end Go.Proofs.Ytdpfnhkhojiddaa
