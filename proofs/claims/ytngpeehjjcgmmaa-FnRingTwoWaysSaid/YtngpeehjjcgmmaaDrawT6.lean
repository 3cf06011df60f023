/- The drawn ring of at most six parts: 'l91Ring', and the draw of the law on both ways (XDrawT turned by mkT6.py). No condition but sizes. -/
import Derived.Test.YtngpeehjjcgmmaaDrawB
import Derived.Test.YtngpeehjjcgmmaaTexts
import Derived.Test.YtngpeehjjcgmmaaSpecF
namespace Go.Proofs.Ytngpeehjjcgmmaa
open Go.RowKit

def Few6 (xs : List Int) : Prop := ∀ x ∈ xs, 0 ≤ x ∧ x ≤ 20
theorem Few6.set {xs : List Int} (h : Few6 xs) (j : Nat) {y : Int} (hy : 0 ≤ y ∧ y ≤ 20) : Few6 (xs.set j y) := by
  intro x hx
  rcases List.mem_or_eq_of_mem_set hx with h' | h'
  · exact h x h'
  · exact h' ▸ hy
theorem ret_pair6 {A : Option Addr} {n m c : Nat} {s : ByteArray} (h : n = m) : Ending.returned (.tuple #[.slice A n c, .string s]) = .returned (.tuple #[.slice A m c, .string s]) := by rw [h]
set_option maxHeartbeats 2000000 in
set_option maxRecDepth 100000 in
theorem spec_l91Ring6 (w : World) (r : Nat) (A : Option Addr) (cap : Nat) (bs : List UInt8) (q : Nat) (h : Rd w r A cap bs q) (hq : q ≤ 500000) :
    Calls Try.prog 32 #[ptr r, .int .i64 6] w fun e w' => ∃ (B : Option Addr) (xs : List Int) (c : Nat) (s : ByteArray) (q' : Nat), e = .returned (.tuple #[.slice B xs.length c, .string s]) ∧ Away w' r B xs ∧ xs.length ≤ c ∧ c ≤ maxLen ∧ xs.length ≤ 8 ∧ s.size ≤ 8 ∧ q' ≤ q + 1000 ∧ Rd w' r A cap bs q' ∧ w.grownBy w' (some r) := by
  go_enter Try.func32, Try.ntmps32
  go_wp2_with fail
  refine (spec_pick w r A cap bs q 3 h (by omega) (by omega)).mono ?_
  rintro e w1 ⟨k, rfl, hk, R1, g1⟩
  obtain ⟨hf, hhf⟩ : ∃ hf, hf = 1 + k := ⟨_, rfl⟩
  obtain ⟨L, hL⟩ : ∃ L, L = 2 * hf := ⟨_, rfl⟩
  have hf4 : hf ≤ 4 := by omega
  have hf1 : 1 ≤ hf := by omega
  have hL8 : L ≤ 8 := by omega
  have hL2 : 2 ≤ L := by omega
  obtain ⟨i0, hi, hz0, hz1, hz2⟩ := info_parts Try.infoInt
  obtain ⟨w2, hrun, ho1, hg1⟩ := run_make_full (P := Try.prog) w1 w1.heap.size 23 3 i0 (.int .i64 0) 1 Try.underlying23 hi hz0 hz1 .i64 .i64 L (by rw [hz2]; omega) (by unfold maxLen; omega) (Nat.le_refl w1.heap.size)
  rw [made_ints] at ho1
  have ho2 : Own w2 w1.heap.size (.slice (some ⟨w1.heap.size, 0, none⟩) L L) (List.replicate L 0) := by simpa [Own] using ho1
  have kk : IntKind.i64.wrap (1 + (k : Int)) = (hf : Int) := by rw [IntWalk.i64_in _ (by omega)]; omega
  have kk1 : 1 + (k : Int) = (hf : Int) := by omega
  have kk2 : IntKind.i64.wrap (2 * (hf : Int)) = (L : Int) := by rw [IntWalk.i64_in _ (by omega)]; omega
  have kk3 : 2 * (hf : Int) = (L : Int) := by omega
  have HR := Lib.hid hrun
  have HO := Lib.hid ho2
  have R2 := R1.below ((Below.refl w1.heap.size w1).grown hg1 (Nat.le_refl _) (fun _ hh => by cases hh)) R1.blk.lt
  have G2 := grown_below g1 ((Below.refl w1.heap.size w1).grown hg1 (Nat.le_refl _) (fun _ hh => by cases hh) |>.mono g1.size)
  have hB0 := g1.size
  have HHF := Lib.hid hhf
  have HHL := Lib.hid hL
  clear hi hz0 hz1 hz2 hrun ho1 ho2 g1 R1 hg1 hhf hL
  go_wp2_with fail
  rw [HR.out]
  have hB : w.heap.size ≤ w1.heap.size := hB0
  have S2 : ∃ cur, Seg w2 w.heap.size w1.heap.size 0 L (List.replicate L 0) cur := by
    obtain ⟨g, c, cur, hv, hS⟩ := Seg.of_own HO.out (by simp; omega)
    injection hv with e1 e2 e3
    injection e1 with e1
    injection e1 with e1 _ _
    subst e1 e3
    exact ⟨cur, Nat.le_trans hB hS.lo, hS.blk, hS.size, hS.le, hS.max, hS.at_⟩
  obtain ⟨cur2, S2⟩ := S2
  have HS2 := Lib.hid S2
  clear S2 HO HR
  go_wp2_with fail
  refine (spec_pick w2 r A cap bs (q + 1) 6 R2 (by omega) (by omega)).mono ?_
  rintro e w3 ⟨p6, rfl, hp6, R3, g3⟩
  obtain ⟨sm, hsm⟩ : ∃ sm, sm = hf + p6 := ⟨_, rfl⟩
  have kk4 : (hf : Int) + (p6 : Int) = (sm : Int) := by omega
  have kk5 : IntKind.i64.wrap ((hf : Int) + (p6 : Int)) = (sm : Int) := by rw [IntWalk.i64_in _ (by omega)]; omega
  have hsm1 : hf ≤ sm := by omega
  have hsm2 : sm ≤ 9 := by omega
  have HS3 := Lib.hid (HS2.out.grown g3 (by intro e; have := Option.some.inj e; have := HS2.out.lo; have := R2.blk.lt; have := h.blk.lt; omega))
  have G3 := G2.trans g3
  have HF3 : Hid (Few6 (List.replicate L 0)) := fun x hx => by have := List.eq_of_mem_replicate hx; omega
  clear hsm hp6 g3 R2 HS2 G2
  go_wp2_with fail
  clear kk kk1
  go_loopg [9] 3 (fun g s9 wr => ∃ (d q' : Nat) (xs : List Int) (cur : Array Value), d ≤ 2 ∧ s9 = .int .i64 d ∧ 2 - d < g ∧ Hid (xs.length = L) ∧ Hid (Few6 xs) ∧ q' ≤ q + 2 + 5 * d ∧ Hid (Seg wr w.heap.size w1.heap.size 0 L xs cur) ∧ Rd wr r A cap bs q' ∧ w.grownBy wr (some r))
  case atStart => exact ⟨0, q + 2, _, cur2, by omega, rfl, by omega, by show _ = _; simp, HF3, by omega, HS3, R3, G3⟩
  case round =>
    clear HS3 R3 G3 HF3
    obtain ⟨d, q', xs, cur, hd, rfl, hg, hlen, HSm, hq', HS, R, G⟩ := hrel
    cases gk with
    | zero => omega
    | succ g =>
    by_cases hlt : d < 2
    · have dl : decide ((d : Int) < 2) = true := by simp; omega
      go_wp2_with fail
      go_loopg [10, 11] (hf + 1) (fun g s10 s11 wi => ∃ (i q'' : Nat) (rest : Int) (ys : List Int) (cu : Array Value), i ≤ hf ∧ s11 = .int .i64 i ∧ s10 = .int .i64 rest ∧ (hf : Int) - (i : Int) ≤ rest ∧ rest ≤ 9 ∧ hf - i < g ∧ Hid (ys.length = L) ∧ Hid (Few6 ys) ∧ q'' ≤ q + 2 + 5 * d + i ∧ Hid (Seg wi w.heap.size w1.heap.size 0 L ys cu) ∧ Rd wi r A cap bs q'' ∧ w.grownBy wi (some r))
      case atStart => exact ⟨0, q', sm, xs, cur, by omega, rfl, rfl, by omega, by omega, by omega, hlen, HSm, by omega, HS, R, G⟩
      case round =>
        obtain ⟨i, q'', rest, ys, cu, hi, rfl, rfl, hr0, hr2, hg', HYL, HYm, hq'', HY, R', G'⟩ := hrel
        cases gk with
        | zero => omega
        | succ g' =>
        by_cases hi1 : i < hf
        · have hj : 2 * i + d < L := by have := HHL.out; omega
          have hcs : 2 * i + d < cu.size := by have := HY.out.size; omega
          have ja : 2 * (i : Int) + (d : Int) = ((2 * i + d : Nat) : Int) := by omega
          obtain ⟨j, hjj⟩ : ∃ j, j = 2 * i + d := ⟨_, rfl⟩
          rw [← hjj] at ja hj hcs
          have jw : IntKind.i64.wrap (2 * (i : Int) + (d : Int)) = (j : Int) := by rw [IntWalk.i64_in _ (by omega)]; omega
          have jl : (j : Int) < (L : Int) := by omega
          have j0 : (0 : Int) ≤ (j : Int) := by omega
          have di : decide ((i : Int) < (hf : Int)) = true := by simp; omega
          clear hjj
          by_cases hi2 : i + 1 < hf
          · have di2 : decide ((i : Int) + 1 < (hf : Int)) = true := by simp; omega
            obtain ⟨mx, hmx⟩ : ∃ mx : Nat, (mx : Int) = rest - ((hf : Int) - 1 - (i : Int)) := ⟨(rest - ((hf : Int) - 1 - (i : Int))).toNat, by omega⟩
            have mx1 : 1 ≤ mx := by omega
            have mw : IntKind.i64.wrap (rest - ((hf : Int) - 1 - (i : Int))) = (mx : Int) := by rw [IntWalk.i64_in _ (by omega)]; omega
            have HMX := Lib.hid hmx
            have hmx9 : mx ≤ 9 := by omega
            clear hmx
            rcases (show mx = 1 ∨ 1 < mx by omega) with hm1 | hm1
            · subst hm1
              have mw2 : IntKind.i64.wrap (rest - ((hf : Int) - 1 - (i : Int))) = 1 := mw
              clear mw
              have mw := mw2
              clear mw2
              go_wp2_with fail
              refine (spec_pick wr r A cap bs q'' 1 R' (by omega) (by omega)).mono ?_
              rintro e w5 ⟨m, rfl, hm, R5, g5⟩
              obtain ⟨x, hx⟩ : ∃ x, x = 1 + m := ⟨_, rfl⟩
              have hxx : 1 + (m : Int) = (x : Int) := by omega
              have hxw : IntKind.i64.wrap (1 + (m : Int)) = (x : Int) := by rw [IntWalk.i64_in _ (by omega)]; omega
              have hx1 : 1 ≤ x ∧ x ≤ 1 := by omega
              have G5 := G'.trans g5
              have hY5 := HY.out.grown g5 (by intro e; have := Option.some.inj e; have := HY.out.lo; have := h.blk.lt; omega)
              have c1 := hY5.blk.cell j
              rw [Array.getElem?_eq_getElem hcs] at c1
              have f1 := hY5.blk.frozen j
              have hst := hY5.set j (x : Int)
              rw [Nat.zero_add] at hst
              have hsm := HYm.out.set j (y := (x : Int)) (by omega)
              have hrB := h.blk.lt
              have hbb := below_set w5 j (.int .i64 (x : Int)) HY.out.lo
              have R6 := R5.below hbb hrB
              have G6 := grown_below G5 hbb
              have HST := Lib.hid hst
              have HSM := Lib.hid hsm
              have HR9 : Hid ((hf : Int) - ((i + 1 : Nat) : Int) ≤ rest - (x : Int)) := by show _ ≤ _; have := HMX.out; omega
              clear hst hsm hbb R5 G5 HY HYm g5 hY5 hm hx mw
              go_wp2_with fail
              go_roundg g'
              case measure => omega
              case rel => exact ⟨i + 1, q'' + 1, rest - (x : Int), _, _, by omega, by go_num, by go_num, HR9.out, by omega, by omega, by show _ = _; rw [List.length_set]; exact HYL.out, HSM, by omega, HST, R6, G6⟩
            · have mm4 : ¬ (mx : Int) ≤ 1 := by omega
              have mm5 : (1 : Int) < (mx : Int) := by omega
              go_wp2_with fail
              refine (spec_pick wr r A cap bs q'' mx R' (by omega) (by omega)).mono ?_
              rintro e w5 ⟨m, rfl, hm, R5, g5⟩
              obtain ⟨x, hx⟩ : ∃ x, x = 1 + m := ⟨_, rfl⟩
              have hxx : 1 + (m : Int) = (x : Int) := by omega
              have hxw : IntKind.i64.wrap (1 + (m : Int)) = (x : Int) := by rw [IntWalk.i64_in _ (by omega)]; omega
              have hx1 : 1 ≤ x ∧ x ≤ mx := by omega
              have G5 := G'.trans g5
              have hY5 := HY.out.grown g5 (by intro e; have := Option.some.inj e; have := HY.out.lo; have := h.blk.lt; omega)
              have c1 := hY5.blk.cell j
              rw [Array.getElem?_eq_getElem hcs] at c1
              have f1 := hY5.blk.frozen j
              have hst := hY5.set j (x : Int)
              rw [Nat.zero_add] at hst
              have hsm := HYm.out.set j (y := (x : Int)) (by omega)
              have hrB := h.blk.lt
              have hbb := below_set w5 j (.int .i64 (x : Int)) HY.out.lo
              have R6 := R5.below hbb hrB
              have G6 := grown_below G5 hbb
              have HST := Lib.hid hst
              have HSM := Lib.hid hsm
              have HR9 : Hid ((hf : Int) - ((i + 1 : Nat) : Int) ≤ rest - (x : Int)) := by show _ ≤ _; have := HMX.out; omega
              clear hst hsm hbb R5 G5 HY HYm g5 hY5 hm hx mw
              go_wp2_with fail
              go_roundg g'
              case measure => omega
              case rel => exact ⟨i + 1, q'' + 1, rest - (x : Int), _, _, by omega, by go_num, by go_num, HR9.out, by omega, by omega, by show _ = _; rw [List.length_set]; exact HYL.out, HSM, by omega, HST, R6, G6⟩
          · have di2 : decide ((i : Int) + 1 < (hf : Int)) = false := by simp; omega
            have hbk := HY.out.blk
            have c1 := hbk.cell j
            rw [Array.getElem?_eq_getElem hcs] at c1
            have f1 := hbk.frozen j
            have hst := HY.out.set j rest
            rw [Nat.zero_add] at hst
            have hsm := HYm.out.set j (y := rest) (by omega)
            have hrB := h.blk.lt
            have hbb := below_set wr j (.int .i64 rest) HY.out.lo
            have R6 := R'.below hbb hrB
            have G6 := grown_below G' hbb
            have HST := Lib.hid hst
            have HSM := Lib.hid hsm
            clear hst hsm hbb HY HYm R' G' hbk
            go_wp2_with fail
            go_roundg g'
            case measure => omega
            case rel => exact ⟨i + 1, q'', 0, _, _, by omega, by go_num, by go_num, by omega, by omega, by omega, by show _ = _; rw [List.length_set]; exact HYL.out, HSM, by omega, HST, R6, G6⟩
        · have hie : i = hf := by omega
          subst hie
          go_wp2_with fail
          go_roundg g
          case measure => omega
          case rel => exact ⟨d + 1, q'', ys, cu, by omega, by go_num, by omega, HYL, HYm, by omega, HY, R', G'⟩
    · obtain rfl : d = 2 := by omega
      have hrB := h.blk.lt
      go_wp2_with fail
      refine (spec_l91Text wr r A cap bs q' L R (by omega) (by omega)).mono ?_
      rintro e w4 ⟨t, rfl, ht, R4, g4⟩
      have HS4 := Lib.hid (HS.out.grown g4 (by intro e; have := Option.some.inj e; have := HS.out.lo; omega))
      have G4 := G.trans g4
      have HTZ := Lib.hid ht
      clear g4 HS R G ht
      go_wp2_with fail
      refine (spec_pick w4 r A cap bs (q' + L) 2 R4 (by omega) (by omega)).mono ?_
      rintro e w5 ⟨n, rfl, hn, R5, g5⟩
      have HS5 := Lib.hid (HS4.out.grown g5 (by intro e; have := Option.some.inj e; have := HS4.out.lo; omega))
      have G5 := G4.trans g5
      clear g5 HS4 R4 G4 hn
      by_cases n0 : n = 0
      · subst n0
        obtain ⟨P, hPe⟩ : ∃ P, P = 2 ^ L := ⟨_, rfl⟩
        have hP : P ≤ 256 := by rw [hPe]; exact Nat.le_trans (Nat.pow_le_pow_right (by omega) hL8) (by decide)
        have hP1 : 1 ≤ P := hPe ▸ Nat.one_le_two_pow
        have HP := Lib.hid hPe
        clear hPe
        go_wp2_with fail
        go_loopg [13, 14] (P + 1) (fun g s13 s14 wr => ∃ (kk qq : Nat), s13 = .string t ∧ kk ≤ P ∧ s14 = .int .i64 kk ∧ P - kk < g ∧ qq ≤ q' + L + 1 + kk ∧ Hid (Seg wr w.heap.size w1.heap.size 0 L xs cur) ∧ Rd wr r A cap bs qq ∧ w.grownBy wr (some r))
        case atStart => exact ⟨0, q' + L + 1, rfl, Nat.zero_le _, rfl, by omega, by omega, HS5, R5, G5⟩
        case round =>
          clear HS5 R5 G5
          obtain ⟨kk, qq, rfl, hkk, rfl, hg, hqq, HS6, R6, G6⟩ := hrel
          cases gk with
          | zero => omega
          | succ g =>
          go_wp2_with fail
          refine (spec_l1Power L wr (by omega)).mono ?_
          rintro e w' ⟨rfl, rfl⟩
          rw [← HP.out]
          by_cases hlt2 : kk < P
          · have dk : decide ((kk : Int) < (P : Int)) = true := by simp; omega
            go_wp2_with fail
            refine (spec_pick wr r A cap bs qq 64 R6 (by omega) (by omega)).mono ?_
            rintro e w7 ⟨m, rfl, hm, R7, g7⟩
            have HS7 := Lib.hid (HS6.out.grown g7 (by intro e; have := Option.some.inj e; have := HS6.out.lo; omega))
            have G7 := G6.trans g7
            have hm64 : m < 64 := by omega
            obtain ⟨z, hz⟩ : ∃ z, z = (kk + m) % P := ⟨_, rfl⟩
            have hzP : z < P := hz ▸ Nat.mod_lt _ (by omega)
            have t1 : (((kk : Int) + (m : Int)).tmod (P : Int)) = (z : Int) := by rw [Int.tmod_eq_emod_of_nonneg (by omega), hz]; simp
            have t2 : (((kk : Int) + (m : Int)) % (P : Int)) = (z : Int) := by rw [hz]; simp
            have hP0 : ((P : Int) == 0) = false := by rw [beq_eq_false_iff_ne]; clear t1 t2; omega
            have HT := Lib.hid (And.intro t1 t2)
            have hz6 : z ≤ 1000000000000 := by clear t1 t2; omega
            clear hz t1 t2 HS6 R6 G6 g7 hm
            go_wp2_with fail
            refine (spec_l1Power L w7 (by omega)).mono ?_
            rintro e w' ⟨rfl, rfl⟩
            rw [← HP.out]
            obtain ⟨t1, t2⟩ := HT.out
            go_wp2_with fail
            clear t1 t2
            refine (spec_l1Text L z w7 (by omega) hz6).mono ?_
            rintro e w' ⟨rfl, rfl⟩
            have hts := txt_size L z
            obtain ⟨T, hT⟩ : ∃ T, T = txt L z := ⟨_, rfl⟩
            rw [← hT] at hts ⊢
            have HTS := Lib.hid hts
            have hfl := spec_l1Folds (some ⟨w1.heap.size, 0, none⟩) L xs T w7 HS7.out.ints (by rw [hlen.out]; omega) (by rw [hlen.out]; omega) (by rw [hlen.out]; omega) (by unfold maxLen; omega) (by rw [hts, hlen.out]) (fun k hk => by
              have := HSm.out _ (angleAt_mem hk)
              omega)
            rw [hlen.out] at hfl
            have HFL := Lib.hid hfl
            clear hts hT hfl
            go_wp2_with fail
            refine HFL.out.mono ?_
            rintro e w9 ⟨rfl, hb9⟩
            have HS9 := Lib.hid (HS7.out.grown (row := none) ⟨hb9.os, hb9.tape, hb9.output, hb9.size, fun i hi _ => hb9.block i hi⟩ (by simp))
            have R9 := R7.below hb9 R7.blk.lt
            have G9 := grown_below G7 (hb9.mono G7.size)
            clear hb9 HS7 R7 G7 HFL
            cases hff : ffB xs T with
            | true =>
              clear hff
              go_wp2_with fail
              refine (spec_pick w9 r A cap bs (qq + 1) 40 R9 (by omega) (by omega)).mono ?_
              rintro e w8 ⟨v, rfl, hv, R8, g8⟩
              have S8 := HS9.out.grown g8 (by intro e; have := Option.some.inj e; have := HS9.out.lo; omega)
              have G8 := G9.trans g8
              obtain ⟨x0, tl, hz⟩ : ∃ x0 tl, xs = x0 :: tl := by
                have := hlen.out
                match xs, this with
                | [], h => simp at h; omega
                | x0 :: tl, _ => exact ⟨x0, tl, rfl⟩
              have HXL := hlen.out
              have HXF := HSm.out
              have HTZ := HTS.out
              rw [hz] at S8 HXL HXF
              have c0 := (S8.blk.cell (0 + 0)).trans (S8.at_ 0 x0 rfl)
              rw [Nat.add_zero] at c0
              have f0 := S8.blk.frozen 0
              have t0 := HXF x0 (by simp)
              have htl : tl.length + 1 = L := by simpa using HXL
              have HTL := Lib.hid htl
              have HS8 := Lib.hid S8
              have HTZ2 := Lib.hid HTZ
              have b0 : (0 : Int) < (L : Int) := by omega
              have b0' : 0 < L := by omega
              have b1 : (1 : Int) ≤ (L : Int) := by omega
              have b1' : ¬ L = 1 := by omega
              have b2 : 1 ≤ T.size := by omega
              have b3 : (1 : Int) ≤ (T.size : Int) := by omega
              clear hv g8 htl S8 HXL HXF HTZ hz
              by_cases v0 : v = 0
              · subst v0
                have st := HS8.out.set 0 (x0 + 1)
                rw [Nat.add_zero] at st
                have hbb := below_set w8 0 (.int .i64 (x0 + 1)) HS8.out.lo
                have R9 := R8.below hbb hrB
                have G9 := grown_below G8 hbb
                have ST := Lib.hid st
                clear st hbb
                go_wp2_with fail
                go_ret2
                exact ⟨some ⟨w1.heap.size, 0, none⟩, (x0 :: tl).set 0 (x0 + 1), L, T, (qq + 1) + 1, ret_pair6 (by have := HTL.out; simp; omega), ST.out.away hrB, by have := HTL.out; simp; omega, by unfold maxLen; omega, by have := HTL.out; simp; omega, by have := HTZ2.out; omega, by omega, R9, G9⟩
              · have e0 : ((v : Int) == 0) = false := by rw [beq_eq_false_iff_ne]; omega
                by_cases v1 : v = 1
                · subst v1
                  clear e0
                  go_wp2_with fail
                  go_ret2
                  exact ⟨some ⟨w1.heap.size, 0, none⟩, x0 :: tl, L, _, (qq + 1) + 1, ret_pair6 (by have := HTL.out; simp; omega), HS8.out.away hrB, by have := HTL.out; simp; omega, by unfold maxLen; omega, by have := HTL.out; simp; omega, by have := HTZ2.out; simp [ByteArray.size_extract]; omega, by omega, R8, G8⟩
                · have e1 : ((v : Int) == 1) = false := by rw [beq_eq_false_iff_ne]; omega
                  by_cases v2 : v = 2
                  · subst v2
                    clear e0 e1
                    go_wp2_with fail
                    go_quiet (fail)
                    go_wp2_with fail
                    go_ret2
                    exact ⟨some ⟨w1.heap.size, 0 + 1, none⟩, tl, L - 1, _, (qq + 1) + 1, ret_pair6 (by have := HTL.out; omega), (HS8.out.tail.away hrB), by have := HTL.out; omega, by unfold maxLen; omega, by have := HTL.out; omega, by have := HTZ2.out; simp [ByteArray.size_extract]; omega, by omega, R8.drewN _, grown_below G8 (below_drewN (Below.refl _ _) _)⟩
                  · have e2 : ((v : Int) == 2) = false := by rw [beq_eq_false_iff_ne]; omega
                    go_wp2_with fail
                    go_ret2
                    exact ⟨some ⟨w1.heap.size, 0, none⟩, x0 :: tl, L, T, (qq + 1) + 1, ret_pair6 (by have := HTL.out; simp; omega), HS8.out.away hrB, by have := HTL.out; simp; omega, by unfold maxLen; omega, by have := HTL.out; simp; omega, by have := HTZ2.out; omega, by omega, R8, G8⟩
            | false =>
              clear hff
              go_wp2_with fail
              go_roundg g
              case measure => omega
              case rel => exact ⟨kk + 1, qq + 1, rfl, by omega, by go_num, by omega, by omega, HS9, R9, G9⟩
          · have dk : decide ((kk : Int) < (P : Int)) = false := by simp; omega
            go_wp2_with fail
            refine (spec_pick wr r A cap bs qq 40 R6 (by omega) (by omega)).mono ?_
            rintro e w8 ⟨v, rfl, hv, R8, g8⟩
            have S8 := HS6.out.grown g8 (by intro e; have := Option.some.inj e; have := HS6.out.lo; omega)
            have G8 := G6.trans g8
            obtain ⟨x0, tl, hz⟩ : ∃ x0 tl, xs = x0 :: tl := by
              have := hlen.out
              match xs, this with
              | [], h => simp at h; omega
              | x0 :: tl, _ => exact ⟨x0, tl, rfl⟩
            have HXL := hlen.out
            have HXF := HSm.out
            have HTZ := HTZ.out
            rw [hz] at S8 HXL HXF
            have c0 := (S8.blk.cell (0 + 0)).trans (S8.at_ 0 x0 rfl)
            rw [Nat.add_zero] at c0
            have f0 := S8.blk.frozen 0
            have t0 := HXF x0 (by simp)
            have htl : tl.length + 1 = L := by simpa using HXL
            have HTL := Lib.hid htl
            have HS8 := Lib.hid S8
            have HTZ2 := Lib.hid HTZ
            have b0 : (0 : Int) < (L : Int) := by omega
            have b0' : 0 < L := by omega
            have b1 : (1 : Int) ≤ (L : Int) := by omega
            have b1' : ¬ L = 1 := by omega
            have b2 : 1 ≤ t.size := by omega
            have b3 : (1 : Int) ≤ (t.size : Int) := by omega
            clear hv g8 htl S8 HXL HXF HTZ hz
            by_cases v0 : v = 0
            · subst v0
              have st := HS8.out.set 0 (x0 + 1)
              rw [Nat.add_zero] at st
              have hbb := below_set w8 0 (.int .i64 (x0 + 1)) HS8.out.lo
              have R9 := R8.below hbb hrB
              have G9 := grown_below G8 hbb
              have ST := Lib.hid st
              clear st hbb
              go_wp2_with fail
              go_ret2
              exact ⟨some ⟨w1.heap.size, 0, none⟩, (x0 :: tl).set 0 (x0 + 1), L, t, qq + 1, ret_pair6 (by have := HTL.out; simp; omega), ST.out.away hrB, by have := HTL.out; simp; omega, by unfold maxLen; omega, by have := HTL.out; simp; omega, by have := HTZ2.out; omega, by omega, R9, G9⟩
            · have e0 : ((v : Int) == 0) = false := by rw [beq_eq_false_iff_ne]; omega
              by_cases v1 : v = 1
              · subst v1
                clear e0
                go_wp2_with fail
                go_ret2
                exact ⟨some ⟨w1.heap.size, 0, none⟩, x0 :: tl, L, _, qq + 1, ret_pair6 (by have := HTL.out; simp; omega), HS8.out.away hrB, by have := HTL.out; simp; omega, by unfold maxLen; omega, by have := HTL.out; simp; omega, by have := HTZ2.out; simp [ByteArray.size_extract]; omega, by omega, R8, G8⟩
              · have e1 : ((v : Int) == 1) = false := by rw [beq_eq_false_iff_ne]; omega
                by_cases v2 : v = 2
                · subst v2
                  clear e0 e1
                  go_wp2_with fail
                  go_quiet (fail)
                  go_wp2_with fail
                  go_ret2
                  exact ⟨some ⟨w1.heap.size, 0 + 1, none⟩, tl, L - 1, _, qq + 1, ret_pair6 (by have := HTL.out; omega), (HS8.out.tail.away hrB), by have := HTL.out; omega, by unfold maxLen; omega, by have := HTL.out; omega, by have := HTZ2.out; simp [ByteArray.size_extract]; omega, by omega, R8.drewN _, grown_below G8 (below_drewN (Below.refl _ _) _)⟩
                · have e2 : ((v : Int) == 2) = false := by rw [beq_eq_false_iff_ne]; omega
                  go_wp2_with fail
                  go_ret2
                  exact ⟨some ⟨w1.heap.size, 0, none⟩, x0 :: tl, L, t, qq + 1, ret_pair6 (by have := HTL.out; simp; omega), HS8.out.away hrB, by have := HTL.out; simp; omega, by unfold maxLen; omega, by have := HTL.out; simp; omega, by have := HTZ2.out; omega, by omega, R8, G8⟩
      · have e9 : ((n : Int) == 0) = false := by rw [beq_eq_false_iff_ne]; omega
        go_wp2_with fail
        refine (spec_pick w5 r A cap bs (q' + L + 1) 40 R5 (by omega) (by omega)).mono ?_
        rintro e w8 ⟨v, rfl, hv, R8, g8⟩
        have S8 := HS5.out.grown g8 (by intro e; have := Option.some.inj e; have := HS5.out.lo; omega)
        have G8 := G5.trans g8
        obtain ⟨x0, tl, hz⟩ : ∃ x0 tl, xs = x0 :: tl := by
          have := hlen.out
          match xs, this with
          | [], h => simp at h; omega
          | x0 :: tl, _ => exact ⟨x0, tl, rfl⟩
        have HXL := hlen.out
        have HXF := HSm.out
        have HTZ := HTZ.out
        rw [hz] at S8 HXL HXF
        have c0 := (S8.blk.cell (0 + 0)).trans (S8.at_ 0 x0 rfl)
        rw [Nat.add_zero] at c0
        have f0 := S8.blk.frozen 0
        have t0 := HXF x0 (by simp)
        have htl : tl.length + 1 = L := by simpa using HXL
        have HTL := Lib.hid htl
        have HS8 := Lib.hid S8
        have HTZ2 := Lib.hid HTZ
        have b0 : (0 : Int) < (L : Int) := by omega
        have b0' : 0 < L := by omega
        have b1 : (1 : Int) ≤ (L : Int) := by omega
        have b1' : ¬ L = 1 := by omega
        have b2 : 1 ≤ t.size := by omega
        have b3 : (1 : Int) ≤ (t.size : Int) := by omega
        clear hv g8 htl S8 HXL HXF HTZ hz
        by_cases v0 : v = 0
        · subst v0
          have st := HS8.out.set 0 (x0 + 1)
          rw [Nat.add_zero] at st
          have hbb := below_set w8 0 (.int .i64 (x0 + 1)) HS8.out.lo
          have R9 := R8.below hbb hrB
          have G9 := grown_below G8 hbb
          have ST := Lib.hid st
          clear st hbb
          go_wp2_with fail
          go_ret2
          exact ⟨some ⟨w1.heap.size, 0, none⟩, (x0 :: tl).set 0 (x0 + 1), L, t, (q' + L + 1) + 1, ret_pair6 (by have := HTL.out; simp; omega), ST.out.away hrB, by have := HTL.out; simp; omega, by unfold maxLen; omega, by have := HTL.out; simp; omega, by have := HTZ2.out; omega, by omega, R9, G9⟩
        · have e0 : ((v : Int) == 0) = false := by rw [beq_eq_false_iff_ne]; omega
          by_cases v1 : v = 1
          · subst v1
            clear e0
            go_wp2_with fail
            go_ret2
            exact ⟨some ⟨w1.heap.size, 0, none⟩, x0 :: tl, L, _, (q' + L + 1) + 1, ret_pair6 (by have := HTL.out; simp; omega), HS8.out.away hrB, by have := HTL.out; simp; omega, by unfold maxLen; omega, by have := HTL.out; simp; omega, by have := HTZ2.out; simp [ByteArray.size_extract]; omega, by omega, R8, G8⟩
          · have e1 : ((v : Int) == 1) = false := by rw [beq_eq_false_iff_ne]; omega
            by_cases v2 : v = 2
            · subst v2
              clear e0 e1
              go_wp2_with fail
              go_quiet (fail)
              go_wp2_with fail
              go_ret2
              exact ⟨some ⟨w1.heap.size, 0 + 1, none⟩, tl, L - 1, _, (q' + L + 1) + 1, ret_pair6 (by have := HTL.out; omega), (HS8.out.tail.away hrB), by have := HTL.out; omega, by unfold maxLen; omega, by have := HTL.out; omega, by have := HTZ2.out; simp [ByteArray.size_extract]; omega, by omega, R8.drewN _, grown_below G8 (below_drewN (Below.refl _ _) _)⟩
            · have e2 : ((v : Int) == 2) = false := by rw [beq_eq_false_iff_ne]; omega
              go_wp2_with fail
              go_ret2
              exact ⟨some ⟨w1.heap.size, 0, none⟩, x0 :: tl, L, t, (q' + L + 1) + 1, ret_pair6 (by have := HTL.out; simp; omega), HS8.out.away hrB, by have := HTL.out; simp; omega, by unfold maxLen; omega, by have := HTL.out; simp; omega, by have := HTZ2.out; omega, by omega, R8, G8⟩
set_option maxHeartbeats 1000000 in
theorem spec_DrawRingMany (w : World) (A : Option Addr) (cap : Nat) (bs : List UInt8) (h : Codes w w.heap.size A bs) (hl : bs.length ≤ 1048576) (hcap : bs.length ≤ cap) (hcm : cap ≤ maxLen) :
    Calls Try.prog 15 #[.slice A bs.length cap] w fun e w' => ∃ (B : Option Addr) (xs : List Int) (c : Nat) (s : ByteArray), e = .returned (.tuple #[.slice B xs.length c, .string s]) ∧ Ints w' B xs ∧ xs.length ≤ c ∧ c ≤ maxLen ∧ xs.length ≤ 8 ∧ s.size ≤ 8 ∧ Below w.heap.size w w' := by
  go_enter Try.func15, Try.ntmps15
  go_wp2_with fail
  refine (spec_l6Open w A cap bs h hl hcap hcm).mono ?_
  rintro e w1 ⟨bs', rfl, R1, hb1⟩
  have hsz := R1.blk.lt
  go_wp2_with fail
  refine (spec_l91Ring6 w1 w.heap.size A cap bs' 0 R1 (by omega)).mono ?_
  rintro e w2 ⟨B, xs, c, s, q1, rfl, hA, hc, hcm, hxm, hs, hq1, R2, G2⟩
  go_wp2_with fail
  go_ret2
  exact ⟨B, xs, c, s, rfl, hA.ints, hc, hcm, hxm, hs, grown_fresh hb1 G2 hsz⟩
end Go.Proofs.Ytngpeehjjcgmmaa
