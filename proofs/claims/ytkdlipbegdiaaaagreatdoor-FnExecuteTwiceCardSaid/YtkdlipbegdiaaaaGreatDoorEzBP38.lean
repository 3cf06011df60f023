/- A line of the desk: what 'do' does with one that is of a kind. No condition but sizes. Numbers of words, counts as texts: the program's. No condition but sizes, and what the table of powers of ten holds. A line answered: the deferred closure of 'answer'. No condition but sizes. -/
import Derived.Test.YtkdlipbegdiaaaaGreatDoorEzBP37
import Derived.Test.YtkdlipbegdiaaaaGreatDoorEzBP0
import Derived.Test.YtkdlipbegdiaaaaGreatDoorEzBP5
import Derived.Test.YtkdlipbegdiaaaaGreatDoorEzBP7
import Derived.Defers
import Derived.Recover
namespace Go.Proofs.YtkdlipbegdiaaaaGreatDoor
open Go.RowKit
/-- a kind's method -/
def cmdFn : Nat → FuncId
  | 0 => 101
  | 1 => 102
  | 2 => 103
  | 3 => 104
  | 4 => 105
  | 5 => 106
  | 6 => 107
  | 7 => 108
  | 8 => 109
  | _ => 110
theorem cmd_cells {k : Nat} (hk : k < 10) : cmdCells[k * 4]? = some (.string (btj (cmdName k))) ∧ cmdCells[k * 4 + 1]? = some (.int .i64 (cmdLeast k : Nat)) ∧ cmdCells[k * 4 + 2]? = some (.int .i64 (cmdMost k : Nat)) ∧ cmdCells[k * 4 + 3]? = some (.func (.func (cmdFn k)) #[] #[]) := by
  have : k = 0 ∨ k = 1 ∨ k = 2 ∨ k = 3 ∨ k = 4 ∨ k = 5 ∨ k = 6 ∨ k = 7 ∨ k = 8 ∨ k = 9 := by omega
  rcases this with rfl | rfl | rfl | rfl | rfl | rfl | rfl | rfl | rfl | rfl <;> exact ⟨rfl, rfl, rfl, rfl⟩
/-- the cells of a line's words -/
def wordsV (ws : List (List UInt8)) : Array Value := ((ws.map btj).map Value.string).toArray
theorem wordsV_get {ws : List (List UInt8)} {k : Nat} {x : List UInt8} (h : ws[k]? = some x) : (wordsV ws)[k]? = some (.string (btj x)) := by
  unfold wordsV
  rw [List.getElem?_toArray, List.getElem?_map, List.getElem?_map, h]; rfl
theorem cmd_ten {k : Nat} (h : k < 10) : k = 0 ∨ k = 1 ∨ k = 2 ∨ k = 3 ∨ k = 4 ∨ k = 5 ∨ k = 6 ∨ k = 7 ∨ k = 8 ∨ k = 9 := by omega
theorem name_ne {k : Nat} {x : List UInt8} (h : cmdName k ≠ x) : (cmdName k == x) = false := by
  rw [beq_eq_false_iff_ne]; exact h
theorem name_eq {k : Nat} {x : List UInt8} (h : cmdName k = x) : (cmdName k == x) = true := by
  rw [h]; simp
theorem grown_of_belowE {B td : Nat} {w w1 w2 : World} (h : Below B w w1) (hB : w.heap.size ≤ B) (hg : w1.grownBy w2 (some td)) : w.grownBy w2 (some td) := by
  refine ⟨?_, ?_, ?_, ?_, ?_⟩
  · exact hg.os.trans h.os
  · exact hg.tape.trans h.tape
  · exact hg.output.trans h.output
  · exact Nat.le_trans h.size hg.size
  · intro i hi hne
    exact (hg.block i (Nat.lt_of_lt_of_le hi h.size) hne).trans (h.block i (Nat.lt_of_lt_of_le hi hB))
set_option maxHeartbeats 8000000 in
set_option maxRecDepth 100000 in
theorem impl_do_cmd (td : Nat) (x : List UInt8) (r : List (List UInt8)) (c : Nat) (hc : c < 10) (m : Int) (out : ByteArray) (ok : Bool) (R : World → Prop) (w : World) (htd : td < w.heap.size) (hm : w.cell? ⟨0, 0, none⟩ = some (.int .i64 m)) (ha : ∀ y ∈ x :: r, (32 : UInt8) ∉ y) (hl : (joinC 32 (x :: r)).length ≤ 300)
    (hk : cmdIs c x r.length = true)
    (HC : ∀ (b o : Nat) (W : World), Below w.heap.size w W → (r ≠ [] → o = 1) → Blk W b 9 (wordsV (x :: r)) → Calls Tryz.prog (cmdFn c) #[.pointer (some ⟨td, 0, none⟩), .slice (some ⟨b, o, none⟩) r.length r.length] W fun e w' => e = .returned (.tuple #[.string out, .bool ok]) ∧ W.grownBy w' (some td) ∧ R w') :
    Calls Tryz.prog 50 #[.pointer (some ⟨td, 0, none⟩), .string (btj (joinC 32 (x :: r)))] w fun e w' => e = .returned (.string (if ok then out else ⟨#[110, 111]⟩)) ∧ w.grownBy w' (some td) ∧ R w' := by
  have hparts : cmdName c = x ∧ cmdLeast c ≤ r.length ∧ r.length ≤ cmdMost c := by
    unfold cmdIs at hk
    simp only [Bool.and_eq_true, beq_iff_eq, decide_eq_true_eq] at hk
    exact ⟨hk.1.1, hk.1.2, hk.2⟩
  obtain ⟨hn, hle, hmo⟩ := hparts
  obtain ⟨L, hL⟩ : ∃ L, L = btj (joinC 32 (x :: r)) := ⟨_, rfl⟩
  have hLs : L.size < 4294967281 := by
    rw [hL]
    show (List.toArray _).size < _
    simp; omega
  have hcnt := count_join 32 (x :: r) (by simp) ha
  have hspl := split_join 32 (x :: r) (by simp) ha
  rw [← hL] at hcnt hspl
  have hc1 : Lib.countB L (btj [32]) = r.length := by simp at hcnt; omega
  have hr300 : r.length ≤ 300 := by
    have key : ∀ (y : List UInt8) (q : List (List UInt8)), q.length ≤ (joinC 32 (y :: q)).length := by
      intro y q
      induction q generalizing y with
      | nil => simp
      | cons z q ih =>
        have := ih z
        show _ ≤ (y ++ 32 :: joinC 32 (z :: q)).length
        simp; omega
    exact Nat.le_trans (key x r) hl
  rw [hc1] at hspl
  have HSP : Hid (∀ W : World, W.cell? ⟨0, 0, none⟩ = some (.int .i64 m) → Calls Tryz.prog 25 #[.string L, .string ⟨#[32]⟩] W fun e w' => e = .returned (.slice (some ⟨W.heap.size, 0, none⟩) (r.length + 1) (r.length + 1)) ∧ w' = W.alloc (.cells (wordsV (x :: r)) 9)) := by
    show ∀ W : World, _
    intro W hW
    have := Tryz.strings_Split L (btj [32]) m W hLs hW (Nat.le_refl 1)
    rw [hc1, hspl] at this
    exact this
  have hsf : ∀ (a : Addr) (f : Fn) (x y : Array Value) (m : Mode) (W : World), (store a (.func f x y) m).run Tryz.prog W = stored Tryz.prog W a (.func f x y) m := fun a f x y m W => run_store _ W a _ m rfl
  have HCC := Lib.hid HC
  have HNE : Hid (∀ k, k < c → cmdName k ≠ x) := fun k hk e => by
    have := cmdName_inj (Nat.lt_trans hk hc) hc (e.trans hn.symm)
    omega
  have HN := Lib.hid hn
  have HLE := Lib.hid hle
  have HMO := Lib.hid hmo
  rw [← hL]
  clear ha hL hcnt hspl hc1 hLs HC hn hle hmo hk hl
  go_enter Tryz.func50, Tryz.ntmps50
  go_wp2_with fail
  refine (HSP.out w hm).mono ?_
  rintro e w1 ⟨rfl, hw1⟩
  have HB1 : Hid (Below w.heap.size w w1) := by show Below _ _ _; rw [hw1]; exact (Below.refl _ _).alloc (Nat.le_refl _) _
  have HK1 : Hid (Blk w1 w.heap.size 9 (wordsV (x :: r))) := by show Blk _ _ _ _; rw [hw1]; exact Blk.new w _ _
  clear hw1
  go_wp2_with fail
  refine (impl_deskCommands w1).mono ?_
  rintro e w2 ⟨rfl, hw2⟩
  have hb2 : Below w1.heap.size w1 w2 := by rw [hw2]; exact (Below.refl _ _).alloc (Nat.le_refl _) _
  have HB2 := Lib.hid (HB1.out.trans (hb2.mono HB1.out.size))
  have HK2 := Lib.hid (HK1.out.below hb2 HK1.out.lt)
  have HKC : Hid (Blk w2 w1.heap.size 99 cmdCells) := by show Blk _ _ _ _; rw [hw2]; exact Blk.new w1 _ _
  obtain ⟨b, hb⟩ : ∃ b, b = w.heap.size := ⟨_, rfl⟩
  obtain ⟨cb, hcb⟩ : ∃ cb, cb = w1.heap.size := ⟨_, rfl⟩
  rw [← hb] at HK2 ⊢
  rw [← hcb] at HKC ⊢
  clear hw2 hb2 HB1 HK1 hb hcb
  go_wp2_with fail
  go_loopg [8, 18] 11 (fun gg s8 s18 wr => ∃ (k : Nat), s8 = s8 ∧ k ≤ c ∧ s18 = .int .i64 k ∧ 10 - k < gg ∧ Hid (Below w2.heap.size w2 wr))
  case atStart => exact ⟨0, rfl, by omega, rfl, by omega, Below.refl _ _⟩
  case round =>
    obtain ⟨k, _, hk, rfl, hg, HB⟩ := hrel
    cases gk with
    | zero => omega
    | succ g1 =>
    have hk10 : k < 10 := by omega
    have k10 : (k : Int) < 10 := by omega
    have k0 : (0 : Int) ≤ (k : Int) := by omega
    have hkc := HKC.out.below HB.out HKC.out.lt
    have hk2 := HK2.out.below HB.out HK2.out.lt
    have n0 : wr.cell? ⟨b, 0, none⟩ = some (.string (btj x)) := (hk2.cell 0).trans (wordsV_get rfl)
    have hbl := hk2.lt
    have hcl := hkc.lt
    have HK3 := Lib.hid hk2
    obtain ⟨q0, q1, q2, q3⟩ := cmd_cells hk10
    have c0 := (hkc.cell (k * 4)).trans q0
    have c1 := (hkc.cell (k * 4 + 1)).trans q1
    have c2 := (hkc.cell (k * 4 + 2)).trans q2
    have c3 := (hkc.cell (k * 4 + 3)).trans q3
    clear hkc hk2 q0 q1 q2 q3
    by_cases hkc : k = c
    · subst hkc
      have hlE := HLE.out
      have hmO := HMO.out
      have t1 := name_eq HN.out
      have d1 : decide (r.length < cmdLeast k) = false := by simp; omega
      have d2 : decide (cmdMost k < r.length) = false := by simp; omega
      obtain ⟨nm, hnm⟩ : ∃ nm, nm = cmdName k := ⟨_, rfl⟩
      obtain ⟨le, hle⟩ : ∃ le, le = cmdLeast k := ⟨_, rfl⟩
      obtain ⟨mo, hmo⟩ : ∃ mo, mo = cmdMost k := ⟨_, rfl⟩
      rw [← hnm] at c0 t1
      rw [← hle] at c1 d1
      rw [← hmo] at c2 d2
      clear hnm hle hmo
      go_wp2_with fail
      go_quiet (fail)
      go_wp2_with fail
      obtain ⟨wv, hwv⟩ : ∃ y, y = (wr.alloc (.cells #[.string (btj nm), .int .i64 le, .int .i64 mo, .func (.func (cmdFn k)) #[] #[]] 99)).drewN nq := ⟨_, rfl⟩
      have hbv : Below wr.heap.size wr wv := by rw [hwv]; exact below_drewN ((Below.refl _ _).alloc (Nat.le_refl _) _) _
      have hkv : Blk wv wr.heap.size 99 #[.string (btj nm), .int .i64 le, .int .i64 mo, .func (.func (cmdFn k)) #[] #[]] := by rw [hwv]; exact (Blk.new wr _ _).drewN _
      have k3 : wv.cell? ⟨wr.heap.size, 3, none⟩ = some (.func (.func (cmdFn k)) #[] #[]) := hkv.cell 3
      have HKW := Lib.hid (HK3.out.below hbv hbl)
      have hlv := hkv.lt
      have HBW := Lib.hid ((HB2.out.trans (HB.out.mono HB2.out.size)).trans (hbv.mono (Nat.le_trans HB2.out.size HB.out.size)))
      obtain ⟨q, hq⟩ : ∃ q, q = wr.heap.size := ⟨_, rfl⟩
      have HQT : Hid (td ≠ q) := by
        show _ ≠ _
        have h1 := HB2.out.size
        have h2 := HB.out.size
        omega
      rw [← hwv, ← hq]
      rw [← hq] at k3 hlv
      clear hwv hbv hkv hq c0 c1 c2 c3 n0 d1 d2 t1 HK3 HB
      rcases cmd_ten hc with rfl | rfl | rfl | rfl | rfl | rfl | rfl | rfl | rfl | rfl
      · have k4 : wv.cell? ⟨q, 3, none⟩ = some (.func (.func 101) #[] #[]) := k3
        cases r with
        | nil => exact absurd hlE (by decide)
        | cons y r =>
          have HCI : Hid (∀ (W : World), Below w.heap.size w W → Blk W b 9 (wordsV (x :: (y :: r))) → Calls Tryz.prog 101 #[.pointer (some ⟨td, 0, none⟩), .slice (some ⟨b, 1, none⟩) (r.length + 1) (r.length + 1)] W fun e w' => e = .returned (.tuple #[.string out, .bool ok]) ∧ W.grownBy w' (some td) ∧ R w') := fun W h1 h2 => HCC.out b 1 W h1 (fun _ => rfl) h2
          clear HCC k3 hlE hmO HNE HN HLE HMO htd
          have z1 : (1 : Int) ≤ (r.length : Int) + 1 + 1 := by omega
          have z2 : ¬ (r.length + 1 + 1 = 1) := by omega
          go_region_held3 (fun W => W.cell? ⟨q, 3, none⟩ = some (.func (.func 101) #[] #[]))
            (first | exact k4 | exact (hgx.cell_far ⟨q, 3, none⟩ (by simpa using hlv) (fun e => HQT.out (Option.some.inj e).symm)).trans k4)
            ((go_simp; go_at_call 101; refine (HCI.out _ (below_drewN HBW.out _) (HKW.out.drewN _)).mono ?_; rintro e w6 ⟨rfl, hgx, hrx⟩))
          all_goals
            have HG6 := Lib.hid (grown_of_belowE (below_drewN HBW.out 1) (Nat.le_refl _) hgx)
            have HR6 := Lib.hid hrx
            clear hgx hrx
            cases ok with
            | true =>
              go_wp2_with fail
              go_ret
              exact ⟨rfl, HG6.out, HR6.out⟩
            | false =>
              go_wp2_with fail
              go_ret
              exact ⟨rfl, HG6.out, HR6.out⟩
      · have k4 : wv.cell? ⟨q, 3, none⟩ = some (.func (.func 102) #[] #[]) := k3
        cases r with
        | nil => exact absurd hlE (by decide)
        | cons y r =>
          have HCI : Hid (∀ (W : World), Below w.heap.size w W → Blk W b 9 (wordsV (x :: (y :: r))) → Calls Tryz.prog 102 #[.pointer (some ⟨td, 0, none⟩), .slice (some ⟨b, 1, none⟩) (r.length + 1) (r.length + 1)] W fun e w' => e = .returned (.tuple #[.string out, .bool ok]) ∧ W.grownBy w' (some td) ∧ R w') := fun W h1 h2 => HCC.out b 1 W h1 (fun _ => rfl) h2
          clear HCC k3 hlE hmO HNE HN HLE HMO htd
          have z1 : (1 : Int) ≤ (r.length : Int) + 1 + 1 := by omega
          have z2 : ¬ (r.length + 1 + 1 = 1) := by omega
          go_region_held3 (fun W => W.cell? ⟨q, 3, none⟩ = some (.func (.func 102) #[] #[]))
            (first | exact k4 | exact (hgx.cell_far ⟨q, 3, none⟩ (by simpa using hlv) (fun e => HQT.out (Option.some.inj e).symm)).trans k4)
            ((go_simp; go_at_call 102; refine (HCI.out _ (below_drewN HBW.out _) (HKW.out.drewN _)).mono ?_; rintro e w6 ⟨rfl, hgx, hrx⟩))
          all_goals
            have HG6 := Lib.hid (grown_of_belowE (below_drewN HBW.out 1) (Nat.le_refl _) hgx)
            have HR6 := Lib.hid hrx
            clear hgx hrx
            cases ok with
            | true =>
              go_wp2_with fail
              go_ret
              exact ⟨rfl, HG6.out, HR6.out⟩
            | false =>
              go_wp2_with fail
              go_ret
              exact ⟨rfl, HG6.out, HR6.out⟩
      · have k4 : wv.cell? ⟨q, 3, none⟩ = some (.func (.func 103) #[] #[]) := k3
        cases r with
        | cons y r => exact absurd hmO (by show ¬ ((y :: r).length ≤ 0); simp)
        | nil =>
          have HCI : Hid (∀ (W : World), Below w.heap.size w W → Blk W b 9 (wordsV (x :: [])) → Calls Tryz.prog 103 #[.pointer (some ⟨td, 0, none⟩), .slice (some ⟨b, 0, none⟩) 0 0] W fun e w' => e = .returned (.tuple #[.string out, .bool ok]) ∧ W.grownBy w' (some td) ∧ R w') := fun W h1 h2 => HCC.out b 0 W h1 (fun e => absurd rfl e) h2
          clear HCC k3 hlE hmO HNE HN HLE HMO htd
          go_region_held3 (fun W => W.cell? ⟨q, 3, none⟩ = some (.func (.func 103) #[] #[]))
            (first | exact k4 | exact (hgx.cell_far ⟨q, 3, none⟩ (by simpa using hlv) (fun e => HQT.out (Option.some.inj e).symm)).trans k4)
            ((go_simp; go_at_call 103; refine (HCI.out _ (below_drewN HBW.out _) (HKW.out.drewN _)).mono ?_; rintro e w6 ⟨rfl, hgx, hrx⟩))
          all_goals
            have HG6 := Lib.hid (grown_of_belowE (below_drewN HBW.out 1) (Nat.le_refl _) hgx)
            have HR6 := Lib.hid hrx
            clear hgx hrx
            cases ok with
            | true =>
              go_wp2_with fail
              go_ret
              exact ⟨rfl, HG6.out, HR6.out⟩
            | false =>
              go_wp2_with fail
              go_ret
              exact ⟨rfl, HG6.out, HR6.out⟩
      · have k4 : wv.cell? ⟨q, 3, none⟩ = some (.func (.func 104) #[] #[]) := k3
        cases r with
        | cons y r => exact absurd hmO (by show ¬ ((y :: r).length ≤ 0); simp)
        | nil =>
          have HCI : Hid (∀ (W : World), Below w.heap.size w W → Blk W b 9 (wordsV (x :: [])) → Calls Tryz.prog 104 #[.pointer (some ⟨td, 0, none⟩), .slice (some ⟨b, 0, none⟩) 0 0] W fun e w' => e = .returned (.tuple #[.string out, .bool ok]) ∧ W.grownBy w' (some td) ∧ R w') := fun W h1 h2 => HCC.out b 0 W h1 (fun e => absurd rfl e) h2
          clear HCC k3 hlE hmO HNE HN HLE HMO htd
          go_region_held3 (fun W => W.cell? ⟨q, 3, none⟩ = some (.func (.func 104) #[] #[]))
            (first | exact k4 | exact (hgx.cell_far ⟨q, 3, none⟩ (by simpa using hlv) (fun e => HQT.out (Option.some.inj e).symm)).trans k4)
            ((go_simp; go_at_call 104; refine (HCI.out _ (below_drewN HBW.out _) (HKW.out.drewN _)).mono ?_; rintro e w6 ⟨rfl, hgx, hrx⟩))
          all_goals
            have HG6 := Lib.hid (grown_of_belowE (below_drewN HBW.out 1) (Nat.le_refl _) hgx)
            have HR6 := Lib.hid hrx
            clear hgx hrx
            cases ok with
            | true =>
              go_wp2_with fail
              go_ret
              exact ⟨rfl, HG6.out, HR6.out⟩
            | false =>
              go_wp2_with fail
              go_ret
              exact ⟨rfl, HG6.out, HR6.out⟩
      · have k4 : wv.cell? ⟨q, 3, none⟩ = some (.func (.func 105) #[] #[]) := k3
        cases r with
        | cons y r => exact absurd hmO (by show ¬ ((y :: r).length ≤ 0); simp)
        | nil =>
          have HCI : Hid (∀ (W : World), Below w.heap.size w W → Blk W b 9 (wordsV (x :: [])) → Calls Tryz.prog 105 #[.pointer (some ⟨td, 0, none⟩), .slice (some ⟨b, 0, none⟩) 0 0] W fun e w' => e = .returned (.tuple #[.string out, .bool ok]) ∧ W.grownBy w' (some td) ∧ R w') := fun W h1 h2 => HCC.out b 0 W h1 (fun e => absurd rfl e) h2
          clear HCC k3 hlE hmO HNE HN HLE HMO htd
          go_region_held3 (fun W => W.cell? ⟨q, 3, none⟩ = some (.func (.func 105) #[] #[]))
            (first | exact k4 | exact (hgx.cell_far ⟨q, 3, none⟩ (by simpa using hlv) (fun e => HQT.out (Option.some.inj e).symm)).trans k4)
            ((go_simp; go_at_call 105; refine (HCI.out _ (below_drewN HBW.out _) (HKW.out.drewN _)).mono ?_; rintro e w6 ⟨rfl, hgx, hrx⟩))
          all_goals
            have HG6 := Lib.hid (grown_of_belowE (below_drewN HBW.out 1) (Nat.le_refl _) hgx)
            have HR6 := Lib.hid hrx
            clear hgx hrx
            cases ok with
            | true =>
              go_wp2_with fail
              go_ret
              exact ⟨rfl, HG6.out, HR6.out⟩
            | false =>
              go_wp2_with fail
              go_ret
              exact ⟨rfl, HG6.out, HR6.out⟩
      · have k4 : wv.cell? ⟨q, 3, none⟩ = some (.func (.func 106) #[] #[]) := k3
        cases r with
        | nil => exact absurd hlE (by decide)
        | cons y r =>
          have HCI : Hid (∀ (W : World), Below w.heap.size w W → Blk W b 9 (wordsV (x :: (y :: r))) → Calls Tryz.prog 106 #[.pointer (some ⟨td, 0, none⟩), .slice (some ⟨b, 1, none⟩) (r.length + 1) (r.length + 1)] W fun e w' => e = .returned (.tuple #[.string out, .bool ok]) ∧ W.grownBy w' (some td) ∧ R w') := fun W h1 h2 => HCC.out b 1 W h1 (fun _ => rfl) h2
          clear HCC k3 hlE hmO HNE HN HLE HMO htd
          have z1 : (1 : Int) ≤ (r.length : Int) + 1 + 1 := by omega
          have z2 : ¬ (r.length + 1 + 1 = 1) := by omega
          go_region_held3 (fun W => W.cell? ⟨q, 3, none⟩ = some (.func (.func 106) #[] #[]))
            (first | exact k4 | exact (hgx.cell_far ⟨q, 3, none⟩ (by simpa using hlv) (fun e => HQT.out (Option.some.inj e).symm)).trans k4)
            ((go_simp; go_at_call 106; refine (HCI.out _ (below_drewN HBW.out _) (HKW.out.drewN _)).mono ?_; rintro e w6 ⟨rfl, hgx, hrx⟩))
          all_goals
            have HG6 := Lib.hid (grown_of_belowE (below_drewN HBW.out 1) (Nat.le_refl _) hgx)
            have HR6 := Lib.hid hrx
            clear hgx hrx
            cases ok with
            | true =>
              go_wp2_with fail
              go_ret
              exact ⟨rfl, HG6.out, HR6.out⟩
            | false =>
              go_wp2_with fail
              go_ret
              exact ⟨rfl, HG6.out, HR6.out⟩
      · have k4 : wv.cell? ⟨q, 3, none⟩ = some (.func (.func 107) #[] #[]) := k3
        cases r with
        | nil => exact absurd hlE (by decide)
        | cons y r =>
          have HCI : Hid (∀ (W : World), Below w.heap.size w W → Blk W b 9 (wordsV (x :: (y :: r))) → Calls Tryz.prog 107 #[.pointer (some ⟨td, 0, none⟩), .slice (some ⟨b, 1, none⟩) (r.length + 1) (r.length + 1)] W fun e w' => e = .returned (.tuple #[.string out, .bool ok]) ∧ W.grownBy w' (some td) ∧ R w') := fun W h1 h2 => HCC.out b 1 W h1 (fun _ => rfl) h2
          clear HCC k3 hlE hmO HNE HN HLE HMO htd
          have z1 : (1 : Int) ≤ (r.length : Int) + 1 + 1 := by omega
          have z2 : ¬ (r.length + 1 + 1 = 1) := by omega
          go_region_held3 (fun W => W.cell? ⟨q, 3, none⟩ = some (.func (.func 107) #[] #[]))
            (first | exact k4 | exact (hgx.cell_far ⟨q, 3, none⟩ (by simpa using hlv) (fun e => HQT.out (Option.some.inj e).symm)).trans k4)
            ((go_simp; go_at_call 107; refine (HCI.out _ (below_drewN HBW.out _) (HKW.out.drewN _)).mono ?_; rintro e w6 ⟨rfl, hgx, hrx⟩))
          all_goals
            have HG6 := Lib.hid (grown_of_belowE (below_drewN HBW.out 1) (Nat.le_refl _) hgx)
            have HR6 := Lib.hid hrx
            clear hgx hrx
            cases ok with
            | true =>
              go_wp2_with fail
              go_ret
              exact ⟨rfl, HG6.out, HR6.out⟩
            | false =>
              go_wp2_with fail
              go_ret
              exact ⟨rfl, HG6.out, HR6.out⟩
      · have k4 : wv.cell? ⟨q, 3, none⟩ = some (.func (.func 108) #[] #[]) := k3
        cases r with
        | nil => exact absurd hlE (by decide)
        | cons y r =>
          have HCI : Hid (∀ (W : World), Below w.heap.size w W → Blk W b 9 (wordsV (x :: (y :: r))) → Calls Tryz.prog 108 #[.pointer (some ⟨td, 0, none⟩), .slice (some ⟨b, 1, none⟩) (r.length + 1) (r.length + 1)] W fun e w' => e = .returned (.tuple #[.string out, .bool ok]) ∧ W.grownBy w' (some td) ∧ R w') := fun W h1 h2 => HCC.out b 1 W h1 (fun _ => rfl) h2
          clear HCC k3 hlE hmO HNE HN HLE HMO htd
          have z1 : (1 : Int) ≤ (r.length : Int) + 1 + 1 := by omega
          have z2 : ¬ (r.length + 1 + 1 = 1) := by omega
          go_region_held3 (fun W => W.cell? ⟨q, 3, none⟩ = some (.func (.func 108) #[] #[]))
            (first | exact k4 | exact (hgx.cell_far ⟨q, 3, none⟩ (by simpa using hlv) (fun e => HQT.out (Option.some.inj e).symm)).trans k4)
            ((go_simp; go_at_call 108; refine (HCI.out _ (below_drewN HBW.out _) (HKW.out.drewN _)).mono ?_; rintro e w6 ⟨rfl, hgx, hrx⟩))
          all_goals
            have HG6 := Lib.hid (grown_of_belowE (below_drewN HBW.out 1) (Nat.le_refl _) hgx)
            have HR6 := Lib.hid hrx
            clear hgx hrx
            cases ok with
            | true =>
              go_wp2_with fail
              go_ret
              exact ⟨rfl, HG6.out, HR6.out⟩
            | false =>
              go_wp2_with fail
              go_ret
              exact ⟨rfl, HG6.out, HR6.out⟩
      · have k4 : wv.cell? ⟨q, 3, none⟩ = some (.func (.func 109) #[] #[]) := k3
        cases r with
        | nil => exact absurd hlE (by decide)
        | cons y r =>
          have HCI : Hid (∀ (W : World), Below w.heap.size w W → Blk W b 9 (wordsV (x :: (y :: r))) → Calls Tryz.prog 109 #[.pointer (some ⟨td, 0, none⟩), .slice (some ⟨b, 1, none⟩) (r.length + 1) (r.length + 1)] W fun e w' => e = .returned (.tuple #[.string out, .bool ok]) ∧ W.grownBy w' (some td) ∧ R w') := fun W h1 h2 => HCC.out b 1 W h1 (fun _ => rfl) h2
          clear HCC k3 hlE hmO HNE HN HLE HMO htd
          have z1 : (1 : Int) ≤ (r.length : Int) + 1 + 1 := by omega
          have z2 : ¬ (r.length + 1 + 1 = 1) := by omega
          go_region_held3 (fun W => W.cell? ⟨q, 3, none⟩ = some (.func (.func 109) #[] #[]))
            (first | exact k4 | exact (hgx.cell_far ⟨q, 3, none⟩ (by simpa using hlv) (fun e => HQT.out (Option.some.inj e).symm)).trans k4)
            ((go_simp; go_at_call 109; refine (HCI.out _ (below_drewN HBW.out _) (HKW.out.drewN _)).mono ?_; rintro e w6 ⟨rfl, hgx, hrx⟩))
          all_goals
            have HG6 := Lib.hid (grown_of_belowE (below_drewN HBW.out 1) (Nat.le_refl _) hgx)
            have HR6 := Lib.hid hrx
            clear hgx hrx
            cases ok with
            | true =>
              go_wp2_with fail
              go_ret
              exact ⟨rfl, HG6.out, HR6.out⟩
            | false =>
              go_wp2_with fail
              go_ret
              exact ⟨rfl, HG6.out, HR6.out⟩
      · have k4 : wv.cell? ⟨q, 3, none⟩ = some (.func (.func 110) #[] #[]) := k3
        cases r with
        | nil => exact absurd hlE (by decide)
        | cons y r =>
          have HCI : Hid (∀ (W : World), Below w.heap.size w W → Blk W b 9 (wordsV (x :: (y :: r))) → Calls Tryz.prog 110 #[.pointer (some ⟨td, 0, none⟩), .slice (some ⟨b, 1, none⟩) (r.length + 1) (r.length + 1)] W fun e w' => e = .returned (.tuple #[.string out, .bool ok]) ∧ W.grownBy w' (some td) ∧ R w') := fun W h1 h2 => HCC.out b 1 W h1 (fun _ => rfl) h2
          clear HCC k3 hlE hmO HNE HN HLE HMO htd
          have z1 : (1 : Int) ≤ (r.length : Int) + 1 + 1 := by omega
          have z2 : ¬ (r.length + 1 + 1 = 1) := by omega
          go_region_held3 (fun W => W.cell? ⟨q, 3, none⟩ = some (.func (.func 110) #[] #[]))
            (first | exact k4 | exact (hgx.cell_far ⟨q, 3, none⟩ (by simpa using hlv) (fun e => HQT.out (Option.some.inj e).symm)).trans k4)
            ((go_simp; go_at_call 110; refine (HCI.out _ (below_drewN HBW.out _) (HKW.out.drewN _)).mono ?_; rintro e w6 ⟨rfl, hgx, hrx⟩))
          all_goals
            have HG6 := Lib.hid (grown_of_belowE (below_drewN HBW.out 1) (Nat.le_refl _) hgx)
            have HR6 := Lib.hid hrx
            clear hgx hrx
            cases ok with
            | true =>
              go_wp2_with fail
              go_ret
              exact ⟨rfl, HG6.out, HR6.out⟩
            | false =>
              go_wp2_with fail
              go_ret
              exact ⟨rfl, HG6.out, HR6.out⟩
    · have t1 := name_ne (HNE.out k (by omega))
      go_wp2_with fail
      go_quiet (fail)
      go_wp2_with fail
      go_roundg g1
      case measure => omega
      case rel => exact ⟨k + 1, trivial, by omega, by go_num, by omega, below_drewN (HB.out.alloc HB.out.size _) _⟩
end Go.Proofs.YtkdlipbegdiaaaaGreatDoor
namespace Go.Proofs.YtkdlipbegdiaaaaGreatDoor
open Go.RowKit
/-- the table of powers of ten is laid -/
def Pow (w : World) : Prop := Lib.TabIs Tryz.prog w "internal/strconv.uint64pow10" .u64 Lib.pow10Tab
theorem Pow.same {w w' : World} (h : Pow w) (hb : ∀ i, i < w.heap.size → w'.heap[i]? = w.heap[i]?) : Pow w' := by
  unfold Pow Lib.TabIs World.var? at h ⊢
  cases hg : Tryz.prog.globalNamed "internal/strconv.uint64pow10" with
  | none => rw [hg] at h; simp at h
  | some g =>
    rw [hg] at h
    simp only [Option.bind_some] at h ⊢
    have hlt : g < w.heap.size := by
      apply Classical.byContradiction
      intro hn
      rw [Array.getElem?_eq_none (by omega)] at h
      cases h
    rw [hb g hlt]; exact h
theorem Pow.below {w w' : World} (h : Pow w) (hb : Below w.heap.size w w') : Pow w' := h.same fun i hi => hb.block i hi
theorem Pow.grown {w w' : World} {td : Nat} {u v : Value} (h : Pow w) (hg : w.grownBy w' (some td)) (ht : Blk w td 45 #[u, v]) : Pow w' := by
  unfold Pow Lib.TabIs World.var? at h ⊢
  cases hn : Tryz.prog.globalNamed "internal/strconv.uint64pow10" with
  | none => rw [hn] at h; simp at h
  | some g =>
    rw [hn] at h
    simp only [Option.bind_some] at h ⊢
    have hty : g ≠ td := by
      intro e
      subst e
      unfold Blk at ht
      rw [ht] at h
      have := congrArg Array.size (Option.some.inj h)
      simp [Lib.pow10Tab] at this
    have hlt : g < w.heap.size := by
      apply Classical.byContradiction
      intro hn
      rw [Array.getElem?_eq_none (by omega)] at h
      cases h
    rw [hg.block g hlt (fun e => hty (Option.some.inj e))]; exact h
theorem below_grow (w : World) (k : Nat) (os : Array Obj) : Below w.heap.size w (Go.Sort.grow (w.drewN k) os) := by
  refine ⟨rfl, rfl, rfl, ?_, fun i hi => ?_⟩
  · show w.heap.size ≤ (w.heap ++ os).size
    simp
  · show (w.heap ++ os)[i]? = w.heap[i]?
    rw [Array.getElem?_append_left hi]
theorem itoa_nat (n : Nat) : Lib.itoa (n : Int) = Lib.decDigits n := by unfold Lib.itoa; rw [if_neg (by omega)]; simp
set_option maxHeartbeats 1000000 in
theorem impl_numberOf (s : ByteArray) (w : World) :
    Calls Tryz.prog 135 #[.string s] w fun e w' => e = .returned (.int .i64 (numV s.data.toList : Nat)) ∧ w = w' := by
  have hsz : s.data.toList.length = s.size := Array.length_toList
  by_cases g1 : s.size < 1
  · have d1 : decide ((s.size : Int) < 1) = true := by simp; omega
    have HV : Hid (numV s.data.toList = 0) := by show _ = _; unfold numV; rw [if_pos (by omega)]
    clear hsz
    go_enter Tryz.func135, Tryz.ntmps135
    go_wp2_with fail
    go_ret
    exact ⟨by rw [HV.out]; rfl, rfl⟩
  · by_cases g2 : 4 < s.size
    · have d1 : decide ((s.size : Int) < 1) = false := by simp; omega
      have d2 : decide ((4 : Int) < (s.size : Int)) = true := by simp; omega
      have HV : Hid (numV s.data.toList = 0) := by show _ = _; unfold numV; rw [if_pos (by omega)]
      clear hsz
      go_enter Tryz.func135, Tryz.ntmps135
      go_wp2_with fail
      go_ret
      exact ⟨by rw [HV.out]; rfl, rfl⟩
    · have d1 : decide ((s.size : Int) < 1) = false := by simp; omega
      have d2 : decide ((4 : Int) < (s.size : Int)) = false := by simp; omega
      have HV : Hid (numV s.data.toList = (numD s.data.toList 0).getD 0) := by show _ = _; unfold numV; rw [if_neg (by omega)]
      have HSZ := Lib.hid hsz
      clear hsz
      go_enter Tryz.func135, Tryz.ntmps135
      go_wp2_with fail
      go_loopg [3, 4] (s.size + 1) (fun gg s3 s4 wr => ∃ (k a : Nat), k ≤ s.size ∧ s3 = .int .i64 a ∧ s4 = .int .i64 k ∧ s.size - k < gg ∧ Hid (wr = w) ∧ Hid (numD (s.data.toList.drop k) a = numD s.data.toList 0) ∧ Hid (a < 10 ^ k))
      case atStart => exact ⟨0, 0, Nat.zero_le _, rfl, rfl, by omega, rfl, rfl, by show _ < _; decide⟩
      case round =>
        obtain ⟨k, a, hk, rfl, rfl, hg, HW, HD, HA⟩ := hrel
        cases gk with
        | zero => omega
        | succ gl =>
        have ha : a < 10000 := Nat.lt_of_lt_of_le HA.out (Nat.le_trans (Nat.pow_le_pow_right (by omega) (show k ≤ 4 by omega)) (by decide))
        by_cases hlt : k < s.size
        · have k1 : (k : Int) < (s.size : Int) := by omega
          have k0 : (0 : Int) ≤ (k : Int) := by omega
          have hx := byte_drop hlt
          have hdd := HD.out
          rw [hx, numD_cons] at hdd
          obtain ⟨z, hz⟩ : ∃ z, z = s[k].toNat := ⟨_, rfl⟩
          have hz256 : z < 256 := by rw [hz]; exact UInt8.toNat_lt _
          rw [← hz] at hdd
          by_cases m1 : z < 48
          · have e1 : decide ((z : Int) < 48) = true := by simp; omega
            rw [if_pos (Or.inl m1)] at hdd
            have HE : Hid (numV s.data.toList = 0) := by show _ = _; rw [HV.out, ← hdd]; rfl
            rw [hz] at e1
            clear hx hdd m1 hz
            go_wp2_with fail
            go_ret
            exact ⟨by rw [HE.out]; rfl, HW.out.symm⟩
          · by_cases m2 : 57 < z
            · have e1 : decide ((z : Int) < 48) = false := by simp; omega
              have e2 : decide ((57 : Int) < (z : Int)) = true := by simp; omega
              rw [if_pos (Or.inr m2)] at hdd
              have HE : Hid (numV s.data.toList = 0) := by show _ = _; rw [HV.out, ← hdd]; rfl
              rw [hz] at e1 e2
              clear hx hdd m1 m2 hz
              go_wp2_with fail
              go_ret
              exact ⟨by rw [HE.out]; rfl, HW.out.symm⟩
            · have e1 : decide ((z : Int) < 48) = false := by simp; omega
              have e2 : decide ((57 : Int) < (z : Int)) = false := by simp; omega
              rw [if_neg (by omega)] at hdd
              have f1 : IntKind.i64.wrap ((a : Int) * 10) = ((a * 10 : Nat) : Int) := (IntWalk.i64_in _ (by omega)).trans (by omega)
              have f2 : IntKind.u8.wrap ((z : Int) - 48) = ((z - 48 : Nat) : Int) := by
                have : (z : Int) - 48 = ((z - 48 : Nat) : Int) := by omega
                rw [this]
                unfold IntKind.wrap
                have q : (2 : Int) ^ IntKind.u8.bits = 256 := by decide
                have q2 : IntKind.u8.signed = false := rfl
                simp only [q, q2]
                simp; omega
              have f4 : IntKind.i64.wrap ((z - 48 : Nat) : Int) = ((z - 48 : Nat) : Int) := IntWalk.i64_in _ (by omega)
              have f3 : IntKind.i64.wrap (((a * 10 : Nat) : Int) + ((z - 48 : Nat) : Int)) = ((a * 10 + (z - 48) : Nat) : Int) := (IntWalk.i64_in _ (by omega)).trans (by omega)
              have HD2 := Lib.hid hdd
              have HA2 : Hid (a * 10 + (z - 48) < 10 ^ (k + 1)) := by
                show _ < _
                have := HA.out
                rw [Nat.pow_succ]; omega
              obtain ⟨a10, ha10⟩ : ∃ x, x = a * 10 := ⟨_, rfl⟩
              obtain ⟨zd, hzd⟩ : ∃ x, x = z - 48 := ⟨_, rfl⟩
              rw [← ha10] at f1 f3 HD2 HA2
              rw [← hzd] at f2 f3 f4 HD2 HA2
              rw [hz] at e1 e2 f2
              clear hx hdd m1 m2 hz ha10 hzd
              go_wp2_with fail
              go_roundg gl
              case measure => omega
              case rel => exact ⟨k + 1, a10 + zd, by omega, by go_num, by go_num, by omega, HW, HD2, HA2⟩
        · obtain rfl : k = s.size := by omega
          have HE : Hid (numV s.data.toList = a) := by
            show _ = _
            have := HD.out
            rw [List.drop_of_length_le (by rw [HSZ.out]; exact Nat.le_refl _)] at this
            rw [HV.out, ← this]; rfl
          go_wp2_with fail
          go_ret
          exact ⟨by rw [HE.out]; rfl, HW.out.symm⟩
/-- a count as a text -/
theorem impl_countText (n : Nat) (hn : n ≤ 1000000) (w : World) (hp : Pow w) :
    Calls Tryz.prog 130 #[.int .i64 n] w fun e w' => e = .returned (.tuple #[.string (btj (Lib.decDigits n)), .bool true]) ∧ Below w.heap.size w w' := by
  have HI := Tryz.strconv_Itoa (n : Int) (by omega) (by omega) w hp
  rw [itoa_nat] at HI
  have HII := Lib.hid HI
  have d1 : ((n : Int) == -1) = false := by rw [beq_eq_false_iff_ne]; omega
  clear HI
  go_enter Tryz.func130, Tryz.ntmps130
  go_wp2_with fail
  refine HII.out.mono ?_
  rintro e w1 ⟨rfl, k, os, rfl⟩
  go_wp2_with fail
  go_ret2
  exact ⟨rfl, below_grow w k os⟩
theorem impl_countText_no (w : World) :
    Calls Tryz.prog 130 #[.int .i64 (-1)] w fun e w' => e = .returned (.tuple #[.string ⟨#[]⟩, .bool false]) ∧ w = w' := by
  go_enter Tryz.func130, Tryz.ntmps130
  go_wp2_with fail
  go_ret2
  exact ⟨rfl, rfl⟩
end Go.Proofs.YtkdlipbegdiaaaaGreatDoor
namespace Go.Proofs.YtkdlipbegdiaaaaGreatDoor
open Go.RowKit Go.Extern.Stop Go.Stop Go.Extern
theorem grown_setE (w : World) (g i : Nat) (v : Value) : w.grownBy (w.setCell ⟨g, i, none⟩ v) (some g) :=
  ⟨rfl, rfl, rfl, by simp, fun n hn hne => heap_setCell_other w ⟨g, i, none⟩ n v (by intro e; apply hne; exact congrArg some e)⟩
set_option maxRecDepth 100000 in
set_option maxHeartbeats 2000000 in
/-- the deferred closure behind a line that was done: recover finds nothing, and nothing turns -/
theorem answer_idle (p : Addr) (w : World) :
    CallsD Tryz.prog 49 #[.pointer (some p)] .returning w fun e u' w' => e = .returned (.tuple #[]) ∧ u' = .returning ∧ Below w.heap.size w w' := by
  have hta : ∀ W : World, (Instr.typeAssert .nilIface 20 73 true).run Tryz.prog W = .ok (.tuple #[.agg #[.string ⟨#[]⟩], .bool false]) W := fun _ => by kernel_rfl
  refine callsD_of_wpS Tryz.func49 rfl fun c₀ cs hu => ?_
  apply wpS_seq
  apply wpS_region
  simp [wpOpsS, go_sem, recoverD, hu, hta, Tryz.ntmps49, Exit.thenS]
  apply wpS_seq
  apply wpS_region
  simp [wpOpsS, go_sem, Exit.thenS]
  refine wpS_cond (t := false) (by simp [Act.eval, Array.replicate]) ?_
  simp only [Bool.false_eq_true, if_false]
  refine wpS_of_wp (wp_skip ?_)
  cases c₀
  simp_all [bodyPostS, results, Tryz.results49]
  exact (Below.refl _ _).alloc (Nat.le_refl _) _
end Go.Proofs.YtkdlipbegdiaaaaGreatDoor
