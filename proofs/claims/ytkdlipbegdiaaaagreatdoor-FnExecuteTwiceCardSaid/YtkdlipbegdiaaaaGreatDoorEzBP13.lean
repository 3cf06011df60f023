/- The drawn angles: 'l91Angles'. No condition but sizes. The program's 'foldsOfNumber': the text of so many folds with a rank. No condition but sizes. -/
import Derived.Test.YtkdlipbegdiaaaaGreatDoorEzBP3
import Derived.Laws.BitsAllLaws
import Derived.Laws.BitsLemmas
import Derived.Laws.OwnMore
import Derived.Test.YtkdlipbegdiaaaaGreatDoorEzBP6
import Derived.Test.YtkdlipbegdiaaaaGreatDoorEzBP7
namespace Go.Proofs.YtkdlipbegdiaaaaGreatDoor
open Go.RowKit
theorem Rd.drewN {w : World} {r : Nat} {A : Option Addr} {cap : Nat} {bs : List UInt8} {q : Nat} (h : Rd w r A cap bs q) (n : Nat) : Rd (w.drewN n) r A cap bs q := ⟨h.blk, h.codes, h.len⟩
theorem grown_fresh {w w1 w2 : World} (h1 : Below w.heap.size w w1) (h2 : w1.grownBy w2 (some w.heap.size)) (hs : w.heap.size < w1.heap.size) : Below w.heap.size w w2 :=
  ⟨h2.os.trans h1.os, h2.tape.trans h1.tape, h2.output.trans h1.output, Nat.le_trans h1.size h2.size, fun k hk => (h2.block k (by omega) (by intro e; have := Option.some.inj e; omega)).trans (h1.block k hk)⟩
theorem made_ints (n : Nat) : (madeCells (Value.int .i64 0).cells (n * 1)).toList = (List.replicate n (0 : Int)).map (Value.int .i64) := by
  apply List.ext_getElem
  · simp [madeCells]
  · intro i h1 h2
    simp [madeCells, Value.cells, Nat.mod_one]
theorem ret_slice {A : Option Addr} {n m c : Nat} (h : n = m) : Ending.returned (.slice A n c) = .returned (.slice A m c) := by rw [h]
/-- a slice that reads as a list, its cells in blocks from H on, none of them r -/
def AwayF (w : World) (H r : Nat) (A : Option Addr) (xs : List Int) : Prop := xs ≠ [] → ∃ b off, A = some ⟨b, off, none⟩ ∧ H ≤ b ∧ b ≠ r ∧ b < w.heap.size ∧ ∀ k x, xs[k]? = some x → w.cell? ⟨b, off + k, none⟩ = some (.int .i64 x)
theorem AwayF.nil (w : World) (H r : Nat) (A : Option Addr) : AwayF w H r A [] := fun h => absurd rfl h
theorem AwayF.away {w : World} {H r : Nat} {A : Option Addr} {xs : List Int} (h : AwayF w H r A xs) : Away w r A xs := fun hn => by
  obtain ⟨b, off, e, _, h1, h2, h3⟩ := h hn
  exact ⟨b, off, e, h1, h2, h3⟩
theorem Seg.awayF {w : World} {B g off cap r : Nat} {xs : List Int} {cur : Array Value} (h : Seg w B g off cap xs cur) (hr : r < B) : AwayF w B r (some ⟨g, off, none⟩) xs :=
  fun _ => ⟨g, off, rfl, h.lo, by have := h.lo; omega, h.blk.lt, fun k x hk => (h.blk.cell (off + k)).trans (h.at_ k x hk)⟩
set_option maxHeartbeats 2000000 in
set_option maxRecDepth 100000 in
theorem spec_l91AnglesF (w : World) (r : Nat) (A : Option Addr) (cap : Nat) (bs : List UInt8) (q most : Nat) (h : Rd w r A cap bs q) (hq : q ≤ 700000) (h2 : 2 ≤ most) (h10 : most ≤ 10) :
    Calls Tryz.prog 57 #[ptr r, .int .i64 most] w fun e w' => ∃ (B : Option Addr) (xs : List Int) (c q' : Nat), e = .returned (.slice B xs.length c) ∧ AwayF w' w.heap.size r B xs ∧ xs.length ≤ c ∧ c ≤ maxLen ∧ xs.length ≤ most ∧ Small xs ∧ q' ≤ q + 60 ∧ Rd w' r A cap bs q' ∧ w.grownBy w' (some r) := by
  go_enter Tryz.func57, Tryz.ntmps57
  go_wp2_with fail
  refine (spec_pick w r A cap bs q (most / 2) h (by omega) (by omega)).mono ?_
  rintro e w1 ⟨k, rfl, hk, R1, g1⟩
  obtain ⟨i0, hi, hz0, hz1, hz2⟩ := info_parts Tryz.infoInt
  obtain ⟨w2, hrun, ho1, hg1⟩ := run_make_full (P := Tryz.prog) w1 w1.heap.size 23 3 i0 (.int .i64 0) 1 Tryz.underlying23 hi hz0 hz1 .i64 .i64 (2 * (1 + k)) (by rw [hz2]; omega) (by unfold maxLen; omega) (Nat.le_refl w1.heap.size)
  rw [made_ints] at ho1
  rw [show (((2 * (1 + k) : Nat)) : Int) = 2 * (1 + (k : Int)) from by omega] at hrun
  have ho2 : Own w2 w1.heap.size (.slice (some ⟨w1.heap.size, 0, none⟩) (2 * (1 + k)) (2 * (1 + k))) (List.replicate (2 * (1 + k)) 0) := by simpa [Own] using ho1
  have hk5 : 1 + k ≤ 5 := by omega
  have hkm : 2 * (1 + k) ≤ most := by omega
  have HR := Lib.hid hrun
  have HO := Lib.hid ho2
  have R2 := R1.below ((Below.refl w1.heap.size w1).grown hg1 (Nat.le_refl _) (fun _ hh => by cases hh)) R1.blk.lt
  have G2 := grown_below g1 ((Below.refl w1.heap.size w1).grown hg1 (Nat.le_refl _) (fun _ hh => by cases hh) |>.mono g1.size)
  have hB0 := g1.size
  clear hi hz0 hz1 hz2 hrun ho1 ho2 g1 R1 hg1
  go_wp2_with fail
  rw [HR.out]
  go_wp2_with fail
  have hB : w.heap.size ≤ w1.heap.size := hB0
  have S2 : ∃ cur, Seg w2 w.heap.size w1.heap.size 0 (2 * (1 + k)) (List.replicate (2 * (1 + k)) 0) cur := by
    obtain ⟨g, c, cur, hv, hS⟩ := Seg.of_own HO.out (by simp; omega)
    injection hv with e1 e2 e3
    injection e1 with e1
    injection e1 with e1 _ _
    subst e1 e3
    exact ⟨cur, Nat.le_trans hB hS.lo, hS.blk, hS.size, hS.le, hS.max, hS.at_⟩
  obtain ⟨cur2, S2⟩ := S2
  have HS2 := Lib.hid S2
  clear S2 HO HR
  go_loopg [7] 3 (fun g s7 wr => ∃ (d q' : Nat) (xs : List Int) (cur : Array Value), d ≤ 2 ∧ s7 = .int .i64 d ∧ 2 - d < g ∧ xs.length = 2 * (1 + k) ∧ Hid (Tight xs) ∧ q' ≤ q + 1 + 5 * d ∧ Hid (Seg wr w.heap.size w1.heap.size 0 (2 * (1 + k)) xs cur) ∧ Rd wr r A cap bs q' ∧ w.grownBy wr (some r))
  case atStart => exact ⟨0, q + 1, _, cur2, by omega, rfl, by omega, by simp, (fun x hx => by have := List.eq_of_mem_replicate hx; omega), by omega, HS2, R2, G2⟩
  case round =>
    obtain ⟨d, q', xs, cur, hd, rfl, hg, hlen, HSm, hq', HS, R, G⟩ := hrel
    cases gk with
    | zero => omega
    | succ g =>
    by_cases hlt : d < 2
    · have dl : decide ((d : Int) < 2) = true := by simp; omega
      go_wp2_with fail
      go_loopg [8, 9] (k + 2) (fun g s8 s9 wi => ∃ (i q'' : Nat) (rest : Int) (ys : List Int) (cu : Array Value), i ≤ 1 + k ∧ s9 = .int .i64 i ∧ s8 = .int .i64 rest ∧ (i = 1 + k ∨ 180 - 45 * (i : Int) ≤ rest) ∧ -1000 ≤ rest ∧ rest ≤ 180 ∧ 1 + k - i < g ∧ ys.length = 2 * (1 + k) ∧ Hid (Tight ys) ∧ q'' ≤ q + 1 + 5 * d + i ∧ Hid (Seg wi w.heap.size w1.heap.size 0 (2 * (1 + k)) ys cu) ∧ Rd wi r A cap bs q'' ∧ w.grownBy wi (some r))
      case atStart => exact ⟨0, q', 180, xs, cur, by omega, rfl, rfl, Or.inr (by omega), by omega, by omega, by omega, hlen, HSm, by omega, HS, R, G⟩
      case round =>
        obtain ⟨i, q'', rest, ys, cu, hi, rfl, rfl, hr1, hr0, hr2, hg', hyl, HYm, hq'', HY, R', G'⟩ := hrel
        cases gk with
        | zero => omega
        | succ g' =>
        by_cases hi1 : i < 1 + k
        · have hj : 2 * i + d < 2 * (1 + k) := by omega
          have hbk := HY.out.blk
          have hcs : 2 * i + d < cu.size := by have := HY.out.size; omega
          by_cases hi2 : i + 1 < 1 + k
          · have hrB := h.blk.lt
            have hsz := G'.size
            have R3 := R'.far (.cells #[.int .i64 15, .int .i64 30, .int .i64 20, .int .i64 45, .int .i64 10, .int .i64 36] 3)
            have G3 := G'.trans (grown_alloc wr (.cells #[.int .i64 15, .int .i64 30, .int .i64 20, .int .i64 45, .int .i64 10, .int .i64 36] 3) (some r))
            have hY3 := HY.out.grown (grown_alloc wr (.cells #[.int .i64 15, .int .i64 30, .int .i64 20, .int .i64 45, .int .i64 10, .int .i64 36] 3) none) (by simp)
            have HY3 := Lib.hid hY3
            have hnew := Blk.new wr 3 #[.int .i64 15, .int .i64 30, .int .i64 20, .int .i64 45, .int .i64 10, .int .i64 36]
            have HN := Lib.hid hnew
            have hrl := R'.blk.lt
            clear hbk R' G' hY3 hnew
            go_wp2_with fail
            refine (spec_pick _ r A cap bs q'' 6 R3 (by omega) (by omega)).mono ?_
            rintro e w5 ⟨m, rfl, hm, R5, g5⟩
            have hm6 : m < 6 := by omega
            have G5 := G3.trans g5
            have hN5 := HN.out.grown g5 (by intro e; have := Option.some.inj e; omega)
            have hY5 := HY3.out.grown g5 (by intro e; have := Option.some.inj e; omega)
            obtain ⟨x, hx1, hx2, hx3⟩ : ∃ x : Int, w5.cell? ⟨wr.heap.size, m, none⟩ = some (.int .i64 x) ∧ 10 ≤ x ∧ x ≤ 45 := by
              rw [hN5.cell]
              match m, hm6 with
              | 0, _ => exact ⟨15, rfl, by decide, by decide⟩
              | 1, _ => exact ⟨30, rfl, by decide, by decide⟩
              | 2, _ => exact ⟨20, rfl, by decide, by decide⟩
              | 3, _ => exact ⟨45, rfl, by decide, by decide⟩
              | 4, _ => exact ⟨10, rfl, by decide, by decide⟩
              | 5, _ => exact ⟨36, rfl, by decide, by decide⟩
            have c1 := hY5.blk.cell (2 * i + d)
            rw [Array.getElem?_eq_getElem hcs] at c1
            have f1 := hY5.blk.frozen (2 * i + d)
            have hst := hY5.set (2 * i + d) x
            rw [Nat.zero_add] at hst
            have hsm := HYm.out.set (2 * i + d) (y := x) (by omega)
            have hbb : Below w.heap.size w5 (w5.setCell ⟨w1.heap.size, 2 * i + d, none⟩ (.int .i64 x)) := ⟨rfl, rfl, rfl, by simp, fun n hn => heap_setCell_other w5 ⟨w1.heap.size, 2 * i + d, none⟩ n _ (by show n ≠ w1.heap.size; omega)⟩
            have R6 := R5.below hbb hrB
            have G6 := grown_below G5 hbb
            have HST := Lib.hid hst
            have HSM := Lib.hid hsm
            clear hst hsm hbb R5 G5 HY HYm g5 hN5 hY5 G3 R3 hm
            go_wp2_with fail
            go_roundg g'
            case measure => omega
            case rel => exact ⟨i + 1, q'' + 1, rest - x, _, _, by omega, by go_num, by go_num, Or.inr (by omega), by omega, by omega, by omega, by simpa using hyl, HSM, by omega, HST, R6, G6⟩
          · have c1 := hbk.cell (2 * i + d)
            rw [Array.getElem?_eq_getElem hcs] at c1
            have f1 := hbk.frozen (2 * i + d)
            have hst := HY.out.set (2 * i + d) rest
            rw [Nat.zero_add] at hst
            have hsm := HYm.out.set (2 * i + d) (y := rest) (by omega)
            have hrb := R'.blk.lt
            have hrB := h.blk.lt
            have hbb : Below w.heap.size wr (wr.setCell ⟨w1.heap.size, 2 * i + d, none⟩ (.int .i64 rest)) := ⟨rfl, rfl, rfl, by simp, fun n hn => heap_setCell_other wr ⟨w1.heap.size, 2 * i + d, none⟩ n _ (by show n ≠ w1.heap.size; omega)⟩
            have R3 := R'.below hbb hrB
            have G3 := grown_below G' hbb
            have HST := Lib.hid hst
            have HSM := Lib.hid hsm
            clear hbk hst hsm hbb R' G' HY HYm
            go_wp2_with fail
            go_roundg g'
            case measure => omega
            case rel => exact ⟨i + 1, q'', 0, _, _, by omega, by go_num, by go_num, Or.inl (by omega), by omega, by omega, by omega, by simpa using hyl, HSM, by omega, HST, R3, G3⟩
        · have hie : i = 1 + k := by omega
          subst hie
          go_wp2_with fail
          go_roundg g
          case measure => omega
          case rel => exact ⟨d + 1, q'', ys, cu, by omega, by go_num, by omega, hyl, HYm, by omega, HY, R', G'⟩
    · obtain rfl : d = 2 := by omega
      go_wp2_with fail
      refine (spec_pick wr r A cap bs q' (2 * (1 + k)) R (by omega) (by omega)).mono ?_
      rintro e w5 ⟨n, rfl, hn, R5, g5⟩
      have hrB := h.blk.lt
      have hn9 : n < 10 := by omega
      have S5 := HS.out.grown g5 (by intro e; have := Option.some.inj e; omega)
      have HS5 := Lib.hid S5
      have G5 := G.trans g5
      clear S5 HS G R g5 hn
      go_wp2_with fail
      go_loopg [6, 11] (n + 1) (fun g s6 s11 wl => ∃ (m qq gg off cp L : Nat) (zs : List Int) (cu : Array Value), m < g ∧ m < 10 ∧ s11 = .int .i64 m ∧ s6 = .slice (some ⟨gg, off, none⟩) L cp ∧ L ≤ 2 * (1 + k) ∧ 2 * (1 + k) ≤ L ∧ L ≤ cp ∧ cp ≤ 9223372036854775807 ∧ Hid (zs.length = L) ∧ Hid (Tight zs) ∧ Hid (Seg wl w.heap.size gg off cp zs cu) ∧ qq ≤ q + 13 ∧ Rd wl r A cap bs qq ∧ w.grownBy wl (some r))
      case atStart => exact ⟨n, q' + 1, w1.heap.size, 0, 2 * (1 + k), 2 * (1 + k), xs, cur, by omega, hn9, rfl, rfl, Nat.le_refl _, Nat.le_refl _, Nat.le_refl _, by omega, hlen, HSm, HS5, by omega, R5, G5⟩
      case round =>
        clear R5 G5 HS5 HSm hlen
        obtain ⟨m, qq, gg, off, cp, L, zs, cu, hmg, hm10, rfl, rfl, hL1, hL2, hLc, hcp, HL, HT, HSg, hqq, R, G⟩ := hrel
        cases gk with
        | zero => omega
        | succ g' =>
        by_cases hm0 : 0 < m
        · obtain ⟨z, tl, hz⟩ : ∃ z tl, zs = z :: tl := by
            cases zs with
            | nil => have := HL.out; simp at this; omega
            | cons z tl => exact ⟨z, tl, rfl⟩
          subst hz
          have hc0 : wr.cell? ⟨gg, off, none⟩ = some (.int .i64 z) := by
            have := (HSg.out.blk.cell (off + 0)).trans (HSg.out.at_ 0 z rfl)
            rwa [Nat.add_zero] at this
          have htl : tl.length = L - 1 := by have := HL.out; simp at this; omega
          have HTL := Lib.hid htl
          have HS1 := Lib.hid HSg.out.tail
          have hB := G.size
          have d1 : decide ((0 : Int) < (m : Int)) = true := by simp; omega
          have b0 : (0 : Int) < (L : Int) := by omega
          have b0' : 0 < L := by omega
          have b1 : (1 : Int) ≤ (L : Int) := by omega
          have b2 : (L : Int) ≤ (cp : Int) := by omega
          have b3 : cp ≠ 1 := by omega
          have b4 : (cp : Int) ≠ 1 := by omega
          have hrl := R.blk.lt
          clear htl HSg
          go_wp2_with fail
          go_region_held3 (fun w' => w'.cell? ⟨gg, off, none⟩ = some (.int .i64 z)) (first | exact hc0 | exact cell_alloc _ hc0 | exact (hk2 _ (by omega)).trans (cell_alloc _ hc0)) ((refine step_seg (by rfl) _ _ (by rfl) w.heap.size gg (off + 1) (cp - 1) tl cu z (L - 1) HTL.out (by rfl) _ _ (by rfl) ((HS1.out.drewN _).far _) (new_cell0 _ _ _) (Nat.le_trans hB (by simp)) (by omega) ?_; intro g2 off2 cap2 cur2 w2 hS2 hb2 hk2))
          have R2 := ((R.below (below_drewN (Below.refl _ _) _) hrl).far _).below hb2 hrB
          have hb3 : Below w.heap.size wr w2 := (((Below.refl wr.heap.size wr).alloc (Nat.le_refl _) (Obj.cells #[Value.int IntKind.i64 z] 3)).mono hB).trans ⟨hb2.os, hb2.tape, hb2.output, hb2.size, hb2.block⟩
          have G3 : w.grownBy w2 (some r) := ⟨hb3.os.trans G.os, hb3.tape.trans G.tape, hb3.output.trans G.output, Nat.le_trans G.size hb3.size, fun i hi hr => (hb3.block i hi).trans (G.block i hi hr)⟩
          have hTn : Tight (tl ++ [z]) := by
            intro x hx
            exact HT.out x (by simp at hx ⊢; exact hx.symm)
          have hcl := hS2.le
          have hcm := hS2.max
          have hln : (tl ++ [z]).length = L - 1 + 1 := by have := HTL.out; simp; omega
          rw [hln] at hcl
          unfold maxLen at hcm
          have HS2' := Lib.hid hS2
          have HLn := Lib.hid hln
          have HTn := Lib.hid hTn
          clear hS2 hb2 hk2 hb3 G hln hTn
          go_wp2_with fail
          go_roundg g'
          case measure => omega
          case rel => exact ⟨m - 1, qq, g2, off2, cap2, L - 1 + 1, tl ++ [z], cur2, by omega, by omega, congrArg (Value.int .i64) (by omega), rfl, by omega, by omega, hcl, hcm, HLn, HTn, HS2', hqq, R2, G3⟩
        · obtain rfl : m = 0 := by omega
          go_wp2_with fail
          refine (spec_pick wr r A cap bs qq 24 R (by omega) (by omega)).mono ?_
          rintro e w6 ⟨v, rfl, hv, R6, g6⟩
          have S6 := HSg.out.grown g6 (by intro e; have := Option.some.inj e; have := HSg.out.lo; omega)
          have G6 := G.trans g6
          have hL0 : 2 ≤ L := by omega
          obtain ⟨x0, x1, tl, hz⟩ : ∃ x0 x1 tl, zs = x0 :: x1 :: tl := by
            have := HL.out
            match zs, this with
            | [], h => simp at h; omega
            | [_], h => simp at h; omega
            | x0 :: x1 :: tl, _ => exact ⟨x0, x1, tl, rfl⟩
          subst hz
          have c0 := (S6.blk.cell (off + 0)).trans (S6.at_ 0 x0 rfl)
          have c1 := (S6.blk.cell (off + 1)).trans (S6.at_ 1 x1 rfl)
          rw [Nat.add_zero] at c0
          have f0 := S6.blk.frozen off
          have f1 := S6.blk.frozen (off + 1)
          have t0 := HT.out x0 (by simp)
          have t1 := HT.out x1 (by simp)
          have htl : tl.length + 1 + 1 = L := by have := HL.out; simpa using this
          have HTL := Lib.hid htl
          have HS6 := Lib.hid S6
          have HLc := Lib.hid hLc
          have b0 : (0 : Int) < (L : Int) := by omega
          have b0' : 0 < L := by omega
          have b1 : (1 : Int) ≤ (L : Int) := by omega
          have b1' : 1 < L := by omega
          have b2 : (L : Int) ≤ (cp : Int) := by omega
          have b3 : cp ≠ 1 := by omega
          have b4 : (cp : Int) ≠ 1 := by omega
          have hLm : L ≤ most := by omega
          clear HSg G R g6 hv htl S6
          by_cases v0 : v = 0
          · subst v0
            have st := HS6.out.set 0 (x0 + 1)
            rw [Nat.add_zero] at st
            have sm := HT.out.small.set 0 (y := x0 + 1) (by omega)
            have hbb : Below w.heap.size w6 (w6.setCell ⟨gg, off, none⟩ (.int .i64 (x0 + 1))) := ⟨rfl, rfl, rfl, by simp, fun n hn => heap_setCell_other w6 ⟨gg, off, none⟩ n _ (by have := HS6.out.lo; show n ≠ gg; omega)⟩
            have R7 := R6.below hbb hrB
            have G7 := grown_below G6 hbb
            have ST := Lib.hid st
            have SM := Lib.hid sm
            clear st sm hbb
            go_wp2_with fail
            go_ret
            exact ⟨_, (x0 :: x1 :: tl).set 0 (x0 + 1), cp, qq + 1, ret_slice (by have := HTL.out; simp; omega), ST.out.awayF hrB, by have := HTL.out; have := HLc.out; simp; omega, by unfold maxLen; omega, by have := HTL.out; simp; omega, SM.out, by omega, R7, G7⟩
          · have e0 : ((v : Int) == 0) = false := by rw [beq_eq_false_iff_ne]; omega
            by_cases v1 : v = 1
            · subst v1
              clear e0
              by_cases hl3 : 3 < L
              · have d3 : decide ((3 : Int) < (L : Int)) = true := by simp; omega
                have st := (HS6.out.set 0 (x0 + 5)).set 1 (x1 - 5)
                rw [Nat.add_zero] at st
                have tt : Tight (((x0 :: x1 :: tl).set 0 (x0 + 5)).set 1 (x1 - 5)) ∨ Small (((x0 :: x1 :: tl).set 0 (x0 + 5)).set 1 (x1 - 5)) := Or.inr ((HT.out.small.set 0 (by omega)).set 1 (by omega))
                have hc1 : (w6.setCell ⟨gg, off, none⟩ (.int .i64 (x0 + 5))).cell? ⟨gg, off + 1, none⟩ = some (.int .i64 x1) := by
                  have := ((HS6.out.blk.set_ off (.int .i64 (x0 + 5))).cell (off + 1))
                  rw [this, Array.getElem?_setIfInBounds, if_neg (by omega), ← HS6.out.blk.cell]
                  exact c1
                have hbb := (below_set w6 off (.int .i64 (x0 + 5)) HS6.out.lo).trans (below_set _ (off + 1) (.int .i64 (x1 - 5)) HS6.out.lo)
                have R7 := R6.below hbb hrB
                have G7 := grown_below G6 hbb
                have ST := Lib.hid st
                have SM := Lib.hid tt
                clear st tt hbb
                go_wp2_with fail
                go_ret
                exact ⟨_, ((x0 :: x1 :: tl).set 0 (x0 + 5)).set 1 (x1 - 5), cp, qq + 1, ret_slice (by have := HTL.out; simp; omega), ST.out.awayF hrB, by have := HTL.out; have := HLc.out; simp; omega, by unfold maxLen; omega, by have := HTL.out; simp; omega, SM.out.elim Tight.small id, by omega, R7, G7⟩
              · have d3 : decide ((3 : Int) < (L : Int)) = false := by simp; omega
                go_wp2_with fail
                go_ret
                exact ⟨_, x0 :: x1 :: tl, cp, qq + 1, ret_slice (by have := HTL.out; simp; omega), HS6.out.awayF hrB, by have := HTL.out; have := HLc.out; simp; omega, by unfold maxLen; omega, by have := HTL.out; simp; omega, HT.out.small, by omega, R6, G6⟩
            · have e1 : ((v : Int) == 1) = false := by rw [beq_eq_false_iff_ne]; omega
              by_cases v2 : v = 2
              · subst v2
                clear e0 e1
                go_wp2_with fail
                go_ret
                exact ⟨_, x1 :: tl, cp - 1, qq + 1, ret_slice (by have := HTL.out; simp; omega), HS6.out.tail.awayF hrB, by have := HTL.out; have := HLc.out; simp; omega, by unfold maxLen; omega, by have := HTL.out; simp; omega, (fun x hx => HT.out.small x (by simp at hx ⊢; exact Or.inr hx)), by omega, R6, G6⟩
              · have e2 : ((v : Int) == 2) = false := by rw [beq_eq_false_iff_ne]; omega
                by_cases v3 : v = 3
                · subst v3
                  clear e0 e1 e2
                  go_wp2_with fail
                  go_ret
                  exact ⟨_, [], 0, qq + 1, rfl, AwayF.nil _ _ _ _, by simp, by unfold maxLen; omega, by simp, (fun x hx => by cases hx), by omega, R6.far _, G6.trans (grown_alloc _ _ _)⟩
                · have e3 : ((v : Int) == 3) = false := by rw [beq_eq_false_iff_ne]; omega
                  go_wp2_with fail
                  go_ret
                  exact ⟨_, x0 :: x1 :: tl, cp, qq + 1, ret_slice (by have := HTL.out; simp; omega), HS6.out.awayF hrB, by have := HTL.out; have := HLc.out; simp; omega, by unfold maxLen; omega, by have := HTL.out; simp; omega, HT.out.small, by omega, R6, G6⟩
theorem spec_l91Angles (w : World) (r : Nat) (A : Option Addr) (cap : Nat) (bs : List UInt8) (q most : Nat) (h : Rd w r A cap bs q) (hq : q ≤ 700000) (h2 : 2 ≤ most) (h10 : most ≤ 10) :
    Calls Tryz.prog 57 #[ptr r, .int .i64 most] w fun e w' => ∃ (B : Option Addr) (xs : List Int) (c q' : Nat), e = .returned (.slice B xs.length c) ∧ Away w' r B xs ∧ xs.length ≤ c ∧ c ≤ maxLen ∧ xs.length ≤ most ∧ Small xs ∧ q' ≤ q + 60 ∧ Rd w' r A cap bs q' ∧ w.grownBy w' (some r) :=
  (spec_l91AnglesF w r A cap bs q most h hq h2 h10).mono fun _ _ ⟨B, xs, c, q', h1, h2, h3⟩ => ⟨B, xs, c, q', h1, h2.away, h3⟩
end Go.Proofs.YtkdlipbegdiaaaaGreatDoor
namespace Go.Proofs.YtkdlipbegdiaaaaGreatDoor
open Go.RowKit
theorem i64_and_one (a : Nat) (ha : a < 9223372036854775808) : bits .and .i64 (a : Int) 1 = ((a % 2 : Nat) : Int) := by
  have h1 : (BitVec.ofInt 64 (a : Int)).toNat = a := by rw [BitVec.ofInt_natCast, BitVec.toNat_ofNat]; exact Nat.mod_eq_of_lt (by omega)
  show IntKind.i64.wrap ((BitVec.ofInt 64 (a : Int) &&& BitVec.ofInt 64 (1 : Int)).toNat : Int) = _
  rw [BitVec.toNat_and, h1, show (BitVec.ofInt 64 (1 : Int)).toNat = 1 from by decide, Nat.and_one_is_mod, IntKind.wrap_i64]
  omega
theorem shr_nat (k m : Nat) : (k : Int) / 2 ^ m = ((k / 2 ^ m : Nat) : Int) := by simp
theorem byteVals_set (bs : List UInt8) (i : Nat) (c : UInt8) (ci : Int) (h : (c.toNat : Int) = ci) : (byteVals bs).set i (.int .u8 ci) = byteVals (bs.set i c) := by
  subst h; simp [byteVals, List.map_set]
theorem made_zero (n : Nat) : (madeCells (Value.int .u8 0).cells (n * 1)).toList = byteVals (List.replicate n 0) := by
  apply List.ext_getElem
  · simp [madeCells, byteVals]
  · intro i h1 h2
    simp [madeCells, byteVals, Value.cells, Nat.mod_one]
theorem ext_txtL (n k : Nat) (bs : List UInt8) (hl : bs.length = n) (h : ∀ j, j < n → bs[j]? = some (bitL k (n - 1 - j))) : bs = txtL n k := by
  apply List.ext_getElem?
  intro i
  by_cases hi : i < n
  · rw [h i hi, txtL_get n k i hi]
  · rw [List.getElem?_eq_none (by omega), List.getElem?_eq_none (by rw [txtL_len]; omega)]
set_option maxHeartbeats 1000000 in
theorem impl_foldsOfNumber (n k : Nat) (w : World) (hn : n ≤ 60) (hk : k ≤ 1000000000000) :
    Calls Tryz.prog 151 #[.int .i64 n, .int .i64 k] w fun e w' => e = .returned (.string (txt n k)) ∧ Below w.heap.size w w' := by
  go_enter Tryz.func151, Tryz.ntmps151
  obtain ⟨i0, hi, hz0, hz1, hz2⟩ := info_parts Tryz.infoByte
  obtain ⟨w1, hrun, ho1, hg1⟩ := run_make_full (P := Tryz.prog) w w.heap.size 22 5 i0 (.int .u8 0) 1 Tryz.underlying22 hi hz0 hz1 .i64 .i64 n (by rw [hz2]; omega) (by unfold maxLen; omega) (Nat.le_refl w.heap.size)
  rw [made_zero] at ho1
  have HB := Lib.hid ((Below.refl w.heap.size w).grown hg1 (Nat.le_refl _) (fun _ hh => by cases hh))
  have HO := Lib.hid ho1
  have HR := Lib.hid hrun
  clear ho1 hg1 hi hz0 hz1 hz2 hrun
  set_option maxRecDepth 100000 in
  go_wp2_with fail
  rw [HR.out]
  go_wp2_with fail
  go_loopg [11] (n + 1) (fun g s11 wr => ∃ (i : Nat) (bs : List UInt8), i ≤ n ∧ s11 = .int .i64 i ∧ n - i < g ∧ Below w.heap.size w wr ∧ bs.length = n ∧ Hid (∀ j, j < i → bs[j]? = some (bitL k (n - 1 - j))) ∧
    wr.ownsRow w.heap.size 5 1 (.slice (some ⟨w.heap.size, 0, none⟩) n n) n (byteVals bs))
  case atStart => exact ⟨0, List.replicate n 0, Nat.zero_le _, rfl, by omega, HB.out, by simp, fun j hj => absurd hj (Nat.not_lt_zero j), HO.out⟩
  case round =>
    obtain ⟨i, bs, hi, rfl, hg, hbel, hlen, HE, hown⟩ := hrel
    cases gk with
    | zero => omega
    | succ g =>
    by_cases hlt : i < n
    · have c1 := hown.cellAt i (by omega)
      rw [List.getElem?_eq_getElem (by simp [byteVals_len]; omega)] at c1
      have c2 := hown.frozenAt i
      have st1 := hown.stored i (.int .u8 77)
      rw [byteVals_set bs i 77 77 rfl] at st1
      have hb1 := hbel.grown st1.2 hbel.size (fun k hk => by cases hk; exact Nat.le_refl _)
      have st2 := st1.1.stored i (.int .u8 86)
      rw [byteVals_set _ i 86 86 rfl, List.set_set] at st2
      have hb2 := hb1.grown st2.2 hb1.size (fun k hk => by cases hk; exact Nat.le_refl _)
      have c3 := st1.1.frozenAt i
      have c4 := st1.1.cellAt i (by omega)
      rw [List.getElem?_eq_getElem (by simp [byteVals_len]; omega)] at c4
      have he : ∀ c : UInt8, bitL k (n - 1 - i) = c → ∀ j, j < i + 1 → (bs.set i c)[j]? = some (bitL k (n - 1 - j)) := by
        intro c hc j hj
        rw [List.getElem?_set]
        by_cases hji : i = j
        · subst hji; rw [if_pos rfl, if_pos (by omega), hc]
        · rw [if_neg hji]; exact HE.out j (by omega)
      have hbits : bits .and .i64 ((k : Int) / 2 ^ (n - 1 - i)) 1 = ((k / 2 ^ (n - 1 - i) % 2 : Nat) : Int) := by
        rw [shr_nat]
        exact i64_and_one _ (Nat.lt_of_le_of_lt (Nat.div_le_self _ _) (by omega))
      have S1 := Lib.hid (show _ ∧ _ ∧ _ from ⟨st1.1, hb1, he⟩)
      have S2 := Lib.hid (show _ ∧ _ from ⟨st2.1, hb2⟩)
      clear st1 st2 hb1 hb2 he hown hbel HE HB HO HR
      by_cases q : k / 2 ^ (n - 1 - i) % 2 = 0
      · have d1 : (bits .and .i64 ((k : Int) / 2 ^ (n - 1 - i)) 1 == 1) = false := by rw [hbits, q]; rfl
        have hb : bitL k (n - 1 - i) = 77 := if_pos q
        have HBB := Lib.hid hb
        clear hb q hbits
        go_wp2_with fail
        go_roundg g
        case measure => omega
        case rel => exact ⟨i + 1, bs.set i 77, by omega, by go_num, by omega, S1.out.2.1, by simp [hlen], S1.out.2.2 77 HBB.out, S1.out.1⟩
      · have d1 : (bits .and .i64 ((k : Int) / 2 ^ (n - 1 - i)) 1 == 1) = true := by rw [hbits, show k / 2 ^ (n - 1 - i) % 2 = 1 from by omega]; rfl
        have hb : bitL k (n - 1 - i) = 86 := if_neg q
        have HBB := Lib.hid hb
        clear hb q hbits
        go_wp2_with fail
        go_roundg g
        case measure => omega
        case rel => exact ⟨i + 1, bs.set i 86, by omega, by go_num, by omega, S2.out.2, by simp [hlen], S1.out.2.2 86 HBB.out, S2.out.1⟩
    · obtain rfl : i = n := by omega
      have hbe : bs = txtL i k := ext_txtL i k bs hlen HE.out
      subst hbe
      have ho : OwnB wr w.heap.size (.slice (some ⟨w.heap.size, 0, none⟩) i i) (txtL i k) := by
        have := hown; rw [← hlen] at this; simpa [OwnB, txtL_len] using this
      have hst : (convert 22 9 (.slice (some ⟨w.heap.size, 0, none⟩) i i)).run Tryz.prog wr = .ok (.string (txt i k)) wr := run_ownB_string ho
      clear ho hown HB HO HR
      go_wp2_with fail
      go_ret
      exact ⟨rfl, hbel⟩
end Go.Proofs.YtkdlipbegdiaaaaGreatDoor
