/- Right layers of a strip, counted the reference's way. No condition but sizes. Every order of seven numbers is one of places. No program, no condition. The drawn angles: 'l91Angles'. No condition but sizes. The drawn strips: 'l91Strip', 'DrawStripMany'. No condition but sizes. -/
import Derived.Test.YtkdlipbegdiaaaaGreatDoorEzAP30
import Derived.Test.YtkdlipbegdiaaaaGreatDoorEzAP31
import Derived.Test.YtkdlipbegdiaaaaGreatDoorEzAP28
import Derived.Test.YtkdlipbegdiaaaaGreatDoorEzAP12
import Derived.Test.YtkdlipbegdiaaaaGreatDoorEzAP11
import Derived.Test.YtkdlipbegdiaaaaGreatDoorEzAP15
import Derived.Test.YtkdlipbegdiaaaaGreatDoorEzAP13
namespace Go.Proofs.YtkdlipbegdiaaaaGreatDoor
open Go.RowKit
set_option maxHeartbeats 4000000 in
set_option maxRecDepth 100000 in
theorem spec_l2Rights_strip (A : Option Addr) (cap : Nat) (xs : List Int) (s : ByteArray) (w : World) (h : Ints w A xs) (h1 : 1 ≤ xs.length) (h6 : xs.length ≤ 6) (hx : ∀ x ∈ xs, 0 ≤ x ∧ x ≤ 1000) (hs : s.size + 1 = xs.length) :
    Calls Tryz.prog 24 #[.slice A xs.length cap, .string s, .bool false] w fun e w' => ∃ A' c, e = .returned (.slice A' (smany xs s) c) ∧ Below w.heap.size w w' := by
  obtain ⟨n, hnn⟩ : ∃ n, n = xs.length := ⟨_, rfl⟩
  obtain ⟨LL, hLL⟩ : ∃ LL, LL = genO n n [] := ⟨_, rfl⟩
  have hOrd : ∀ L, L ∈ LL → OrdF n L := by rw [hLL]; exact ord_six (by omega) (by omega)
  obtain ⟨P, hP⟩ : ∃ P : List Int → Bool, P = fun L => rightQ (lvTo L xs.length L.length) (plcL xs) xs.length (fqTo xs s.data.toList s.size) := ⟨_, rfl⟩
  have hcnt : (LL.filter P).length = smany xs s := by rw [hLL, hP, hnn]; exact count_strip h1 h6 hs
  have hlen : LL.length ≤ 117649 := by
    have h1 := genO_len n (by omega) n []
    have h2 : 7 ^ n ≤ 7 ^ 6 := Nat.pow_le_pow_right (by omega) (by omega)
    rw [hLL]; omega
  have HALL := Lib.hid (fun (W : World) (A0 : Option Addr) (c0 : Nat) (H : Nat) (hH : H ≤ W.heap.size) (h0 : ∀ b off, A0 = some ⟨b, off, none⟩ → H ≤ b) => spec_l2All n (by omega) (by omega) n A0 c0 [] W H (by simp) (Ints.nil _ _) hH h0)
  rw [← hLL] at HALL
  have HRT : Hid (∀ (W : World) (A' : Option Addr) (c' : Nat) (L : List Int), L ∈ LL → Below w.heap.size w W → Ints W A' L → Calls Tryz.prog 47 #[.slice A n cap, .string s, .bool false, .slice A' L.length c'] W fun e w' => e = .returned (.bool (P L)) ∧ Below W.heap.size W w') := by
    show ∀ (W : World) (A' : Option Addr) (c' : Nat) (L : List Int), _
    intro W A' c' L hL hb hI
    have ho := hOrd L hL
    have hll : L.length = xs.length := by rw [ho.len, hnn]
    have hlv : ∀ j, j < xs.length → 0 ≤ lvAt L L.length (j : Int) := fun j hj => by rw [ho.len]; exact ho.lv j (by omega)
    have := spec_l2Right_g A A' cap c' xs L s W (h.below hb) hI (by omega) hx (by omega) hll hlv (fqTo xs s.data.toList s.size) false s.size (fqTo_len _ _ _) (by omega) (fun V hbV => spec_l2AllFolds_strip A cap xs s V ((h.below hb).below hbV) (by omega) hx (by omega) hs) _ rfl (by
      intro f hf
      obtain ⟨k, hk, rfl⟩ := List.mem_map.1 hf
      rw [List.mem_range] at hk
      exact ⟨by show k < _; omega, by show k + 1 < _; omega, lvTo_ne (i := k) (j := k + 1) (by omega) (by omega) hlv (by omega)⟩)
    rw [hP, hnn]
    exact this
  rw [← hnn]
  have HC := Lib.hid hcnt
  have HLN := Lib.hid hlen
  clear hcnt hlen hOrd hLL hP h h1 h6 hx hs hnn
  go_enter Tryz.func24, Tryz.ntmps24
  go_wp2_with fail
  refine (HALL.out _ _ _ (w.heap.size + 1) (by simp) (by intro b off e; injection e with e; injection e with e1 e2; subst e1; simp)).mono ?_
  rintro e w2 ⟨v2, VL, rfl, hO2, hT2, hb2⟩
  have hq : ∀ g, v2.ownBlock = some g → w.heap.size < g ∧ g < w2.heap.size := fun g e => by
    have := hO2.lt g e
    simp at this
    omega
  obtain ⟨A6, c6, rfl, hr6, _, _⟩ := own_formX hO2
  have hVL : VL.length = LL.length := hT2.1
  have HRA : Hid (RowA w2 (some w.heap.size) A6 VL) := ⟨hr6, fun b off e => by
    have := hq b (by rw [e]; rfl)
    exact ⟨this.2, fun e2 => by injection e2; omega⟩⟩
  have HTL : Hid (Tol w2 (w.heap.size + 1) (some w.heap.size) VL LL) := hT2.low (Nat.le_refl _) (fun g e => by injection e; omega)
  have HB2 : Hid (Below w.heap.size w w2) := (Below.refl w.heap.size w).alloc (Nat.le_refl _) _ |>.alloc (by simp) _ |>.trans (hb2.mono (by simp; omega))
  have HO0 : Hid (OwnW w2 w.heap.size (.slice (some ⟨w.heap.size, 0, none⟩) 0 0) 0 []) := own_belowX (own_belowX (World.ownsRow_lit w #[] 0 (Nat.le_refl _) (by unfold maxLen; omega) rfl) ((Below.refl _ _).alloc (Nat.le_refl _) _)) hb2
  clear hO2 hT2 hb2 hq hr6
  go_wp2_with fail
  go_loopg [7, 9] (LL.length + 1) (fun g s7 s9 wr => ∃ (k : Nat) (VO : List Value), k ≤ LL.length ∧ s9 = .int .i64 k ∧ LL.length - k < g ∧ Hid (OwnW wr w.heap.size s7 ((LL.take k).filter P).length VO) ∧ Hid (Tol wr (w.heap.size + 1) s7.ownBlock VL LL) ∧ Hid (RowA wr s7.ownBlock A6 VL) ∧ Hid (Below w.heap.size w wr))
  case atStart => exact ⟨0, [], by omega, rfl, by omega, HO0, HTL, HRA, HB2⟩
  case round =>
    clear HO0 HTL HRA HB2
    obtain ⟨k, VO, hk, rfl, hg, HO, HT, HR, HB⟩ := hrel
    cases gk with
    | zero => omega
    | succ gl =>
    have hl46 := HLN.out
    have kw2 : IntKind.i64.wrap ((k : Int) + 1) = (k : Int) + 1 := IntWalk.i64_in _ (by omega)
    by_cases hlt : k < LL.length
    · have k1 : (k : Int) < (LL.length : Int) := by omega
      obtain ⟨u, hu⟩ : ∃ u, VL[k]? = some u := ⟨_, List.getElem?_eq_getElem (by omega)⟩
      obtain ⟨L, hL⟩ : ∃ L, L = LL[k] := ⟨_, rfl⟩
      obtain ⟨b2, o2, c2, rfl, hi2, _, hb2, _⟩ := HT.out.2 k u _ hu (List.getElem?_eq_getElem hlt)
      obtain ⟨b, off, rfl, hb, hc⟩ := HR.out.1 (show VL ≠ [] from fun e => by rw [e] at hu; simp at hu)
      have hcell := hc k _ hu
      have hstep := take_filter_succ P LL k hlt
      rw [← hL] at hi2 hcell hstep
      have HRT2 := Lib.hid (HRT.out wr (some ⟨b2, o2, none⟩) c2 L (by rw [hL]; exact List.getElem_mem hlt) HB.out hi2)
      have HST := Lib.hid hstep
      have hfl : ((LL.take k).filter P).length ≤ 117649 := Nat.le_trans (List.length_filter_le _ _) (by rw [List.length_take]; omega)
      have HFL := Lib.hid hfl
      clear hi2 hc hu hL hstep hfl
      go_wp2_with fail
      refine HRT2.out.mono ?_
      rintro e w3 ⟨rfl, hb3⟩
      have hcell3 : w3.cell? ⟨b, off + k, none⟩ = some (.slice (some ⟨b2, o2, none⟩) L.length c2) := (hb3.cell (p := ⟨b, off + k, none⟩) hb).trans hcell
      have HB3 := Lib.hid hb3
      have hzr : w.heap.size ≤ wr.heap.size := HB.out.size
      clear hb3
      cases hp : P L with
      | false =>
        rw [hp] at HST
        clear hp
        go_wp2_with fail
        go_roundg gl
        case measure => omega
        case rel => exact ⟨k + 1, VO, by omega, by go_num, by omega, by rw [HST.out]; exact own_belowX HO.out HB3.out, HT.out.below HB3.out, HR.out.below HB3.out, HB.out.trans (HB3.out.mono hzr)⟩
      | true =>
        rw [hp] at HST
        clear hp
        go_wp2_with (at_builtin; go_loud (refine wpList_appW (W := w3.alloc (.cells #[.slice (some ⟨b2, o2, none⟩) L.length c2] 23)) rfl _ _ rfl w.heap.size _ _ VO _ 1 _ [.slice (some ⟨b2, o2, none⟩) L.length c2] (by rfl) (by rfl) (own_belowX HO.out (HB3.out.alloc HB3.out.size _)) rfl (fun e => by cases e) (RowV.lit w3 [.slice (some ⟨b2, o2, none⟩) L.length c2] _).news (fun u hu => by rw [List.mem_singleton] at hu; subst hu; rfl) (Nat.le_trans hzr (HB3.out.alloc HB3.out.size _).size) (Nat.le_trans (Nat.add_le_add_right HFL.out 1) (by omega)) ?_))
        intro vC wC hC hgC hbC hmC hrC
        have hBA : Below wr.heap.size wr (w3.alloc (.cells #[.slice (some ⟨b2, o2, none⟩) L.length c2] 23)) := HB3.out.alloc HB3.out.size _
        have HC1 : Hid (OwnW wC w.heap.size vC ((LL.take (k + 1)).filter P).length (VO ++ [.slice (some ⟨b2, o2, none⟩) L.length c2])) := by show OwnW _ _ _ _ _; rw [HST.out]; exact hC
        have HC2 : Hid (Tol wC (w.heap.size + 1) vC.ownBlock VL LL) := (HT.out.below hBA).appended hgC hmC
        have HC3 : Hid (RowA wC vC.ownBlock (some ⟨b, off, none⟩) VL) := (HR.out.below hBA).appended hgC hmC
        have HC4 : Hid (Below w.heap.size w wC) := HB.out.trans ((hBA.mono hzr).trans hbC)
        clear hC hgC hbC hmC hrC hBA
        go_wp2_with fail
        go_roundg gl
        case measure => omega
        case rel => exact ⟨k + 1, _, by omega, by go_num, by omega, HC1, HC2, HC3, HC4⟩
    · obtain rfl : k = LL.length := by omega
      have HOE := HO.out
      rw [List.take_length, HC.out] at HOE
      obtain ⟨A7, c7, rfl, _, _, _⟩ := own_formX HOE
      clear HOE
      go_wp2_with fail
      go_ret
      exact ⟨A7, c7, rfl, HB.out⟩
set_option maxHeartbeats 1000000 in
set_option maxRecDepth 100000 in
theorem spec_StripMany (A : Option Addr) (cap : Nat) (xs : List Int) (s : ByteArray) (w : World) (h : Ints w A xs) (hr : svB xs s.data.toList = true) :
    Calls Tryz.prog 10 #[.slice A xs.length cap, .string s] w fun e w' => e = .returned (.int .i64 (smany xs s : Nat)) ∧ Below w.heap.size w w' := by
  have hrr := hr
  unfold svB at hrr
  simp only [Bool.and_eq_true, decide_eq_true_eq] at hrr
  obtain ⟨h1, h3⟩ := hrr
  obtain ⟨l1, l6, hx⟩ := lvB_parts h1
  have hss : s.size + 1 = xs.length := by
    have := (fvB_iff _ _).1 h3
    rw [show s.data.toList.length = s.size from Array.length_toList] at this
    omega
  have HV := Lib.hid (spec_StripValidS A cap xs s w h (by unfold maxLen; omega) (by unfold maxLen; omega))
  have HR := Lib.hid (spec_l2Rights_strip A cap xs s w h l1 l6 (fun x hm => ⟨by have := (hx x hm).1; omega, (hx x hm).2⟩) hss)
  rw [hr] at HV
  obtain ⟨z, hz⟩ : ∃ z, z = smany xs s := ⟨_, rfl⟩
  rw [← hz] at HR ⊢
  clear h1 h3 hx hr h hz
  go_enter Tryz.func10, Tryz.ntmps10
  go_wp2_with fail
  refine HV.out.mono ?_
  rintro e w' ⟨rfl, rfl⟩
  go_wp2_with fail
  refine HR.out.mono ?_
  rintro e w2 ⟨A', c, rfl, hb⟩
  have HB := Lib.hid hb
  clear hb
  go_wp2_with fail
  go_ret
  exact ⟨ret_int (by rfl), HB.out⟩
set_option maxHeartbeats 400000 in
theorem spec_StripMany_no (A : Option Addr) (cap : Nat) (xs : List Int) (s : ByteArray) (w : World) (h : Ints w A xs) (hl : xs.length ≤ maxLen) (hs : s.size ≤ maxLen) (hr : svB xs s.data.toList = false) :
    Calls Tryz.prog 10 #[.slice A xs.length cap, .string s] w fun e w' => e = .returned (.int .i64 (-1)) ∧ w = w' := by
  have HV := Lib.hid (spec_StripValidS A cap xs s w h hl hs)
  rw [hr] at HV
  clear hr
  go_enter Tryz.func10, Tryz.ntmps10
  go_wp2_with fail
  refine HV.out.mono ?_
  rintro e w' ⟨rfl, rfl⟩
  go_wp2_with fail
  go_ret
  exact ⟨rfl, rfl⟩
end Go.Proofs.YtkdlipbegdiaaaaGreatDoor
namespace Go.Proofs.YtkdlipbegdiaaaaGreatDoor
theorem ordChk7 : ordChk 7 = true := by decide +kernel
theorem ord_seven {n : Nat} (h1 : 1 ≤ n) (h7 : n ≤ 7) : ∀ L, L ∈ genO n n [] → OrdF n L := by
  by_cases h : n ≤ 6
  · exact ord_six h1 h
  · obtain rfl : n = 7 := by omega
    exact ordF_of ordChk7
end Go.Proofs.YtkdlipbegdiaaaaGreatDoor
namespace Go.Proofs.YtkdlipbegdiaaaaGreatDoor
open Go.RowKit
theorem Rd.drewN {w : World} {r : Nat} {A : Option Addr} {cap : Nat} {bs : List UInt8} {q : Nat} (h : Rd w r A cap bs q) (n : Nat) : Rd (w.drewN n) r A cap bs q := ⟨h.blk, h.codes, h.len⟩
theorem grown_fresh {w w1 w2 : World} (h1 : Below w.heap.size w w1) (h2 : w1.grownBy w2 (some w.heap.size)) (hs : w.heap.size < w1.heap.size) : Below w.heap.size w w2 :=
  ⟨h2.os.trans h1.os, h2.tape.trans h1.tape, h2.output.trans h1.output, Nat.le_trans h1.size h2.size, fun k hk => (h2.block k (by omega) (by intro e; have := Option.some.inj e; omega)).trans (h1.block k hk)⟩
/-- a slice that reads as a list, its cells in blocks from H on, none of them r -/
def AwayF (w : World) (H r : Nat) (A : Option Addr) (xs : List Int) : Prop := xs ≠ [] → ∃ b off, A = some ⟨b, off, none⟩ ∧ H ≤ b ∧ b ≠ r ∧ b < w.heap.size ∧ ∀ k x, xs[k]? = some x → w.cell? ⟨b, off + k, none⟩ = some (.int .i64 x)
theorem AwayF.nil (w : World) (H r : Nat) (A : Option Addr) : AwayF w H r A [] := fun h => absurd rfl h
end Go.Proofs.YtkdlipbegdiaaaaGreatDoor
namespace Go.Proofs.YtkdlipbegdiaaaaGreatDoor
open Go.RowKit
theorem Rd.rowV {w w' : World} {r : Nat} {A : Option Addr} {cap : Nat} {bs : List UInt8} {q : Nat} {row : Option Nat} (h : Rd w r A cap bs q) (hg : w.grownBy w' row) (hr : ∀ g, row = some g → r < g) : Rd w' r A cap bs q :=
  h.below (B := r + 1) ((Below.refl (r + 1) w).grown hg h.blk.lt (fun g e => hr g e)) (Nat.lt_succ_self r)
theorem grown_setR (w : World) (g i : Nat) (v : Value) : w.grownBy (w.setCell ⟨g, i, none⟩ v) (some g) :=
  ⟨rfl, rfl, rfl, by simp, fun n hn hne => heap_setCell_other w ⟨g, i, none⟩ n v (by intro e; apply hne; exact congrArg some e)⟩
theorem grown_rowV {w w1 w2 : World} {r : Nat} {row : Option Nat} (h : w.grownBy w1 (some r)) (hg : w1.grownBy w2 row) (hr : ∀ g, row = some g → w.heap.size ≤ g) : w.grownBy w2 (some r) :=
  ⟨hg.os.trans h.os, hg.tape.trans h.tape, hg.output.trans h.output, Nat.le_trans h.size hg.size, fun k hk hne => (hg.block k (Nat.lt_of_lt_of_le hk h.size) (fun e => by have := hr k e.symm; omega)).trans (h.block k hk hne)⟩
/-- what a drawn strip is: as many lengths as five at most, a short text -/
def StripR (w : World) (r : Nat) (A : Option Addr) (cap : Nat) (bs : List UInt8) (e : Ending) (w' : World) : Prop :=
  ∃ (B : Option Addr) (xs : List Int) (c : Nat) (s : ByteArray) (q1 : Nat), e = .returned (.tuple #[.slice B xs.length c, .string s]) ∧ Ints w' B xs ∧ xs.length ≤ c ∧ c ≤ maxLen ∧ xs.length ≤ 5 ∧ s.size ≤ 5 ∧ Rd w' r A cap bs q1 ∧ w.grownBy w' (some r)
set_option maxHeartbeats 2000000 in
set_option maxRecDepth 100000 in
theorem spec_l91Strip (w : World) (r : Nat) (A : Option Addr) (cap : Nat) (bs : List UInt8) (q : Nat) (h : Rd w r A cap bs q) (hq : q ≤ 600000) :
    Calls Tryz.prog 18 #[ptr r, .int .i64 5] w (StripR w r A cap bs) := by
  have h0 := h.far (.cells #[] 3)
  have g0 := grown_alloc w (.cells #[] 3) (some r)
  have ho : Own (w.alloc (.cells #[] 3)) w.heap.size (.slice (some ⟨w.heap.size, 0, none⟩) 0 0) [] := World.ownsRow_lit w #[] 0 (Nat.le_refl _) (by unfold maxLen; omega) rfl
  have hrl := h.blk.lt
  clear h
  go_enter Tryz.func18, Tryz.ntmps18
  go_wp2_with fail
  refine (spec_pick _ r A cap bs q 5 h0 (by omega) (by omega)).mono ?_
  rintro e w1 ⟨k, rfl, hk, R1, g1⟩
  have ho1 := ho.kept g1 (Or.inr (fun e => by have e2 : w.heap.size = r := Option.some.inj e; omega))
  have G1 := g0.trans g1
  obtain ⟨n, hn⟩ : ∃ n, n = k + 1 := ⟨_, rfl⟩
  have en : (1 : Int) + (k : Int) = (n : Int) := by omega
  have hn5 : n ≤ 5 := by omega
  have hn1 : 1 ≤ n := by omega
  have HO1 := Lib.hid ho1
  have HG1 := Lib.hid G1
  have HR1 := Lib.hid R1
  have iw : IntKind.i64.wrap ((1 : Int) + (k : Int)) = (n : Int) := by rw [en]; exact IntWalk.i64_in _ (by omega)
  clear ho1 G1 R1 ho h0 g0 g1 hk hn en
  go_wp2_with fail
  go_loopg [6, 8] (n + 1) (fun gg s6 s8 wr => ∃ (i : Nat) (xs : List Int), i ≤ n ∧ s8 = .int .i64 i ∧ n - i < gg ∧ Hid (xs.length = i) ∧ Hid (Own wr w.heap.size s6 xs) ∧ Hid (Rd wr r A cap bs (q + 1 + i)) ∧ Hid (w.grownBy wr (some r)))
  case atStart => exact ⟨0, [], Nat.zero_le _, rfl, by omega, rfl, HO1, HR1, HG1⟩
  case round =>
    clear HO1 HR1 HG1
    obtain ⟨i, xs, hi, rfl, hg, HXL, HO, HR, HG⟩ := hrel
    cases gk with
    | zero => omega
    | succ g1 =>
    by_cases hlt : i < n
    · have i1 : (i : Int) < (n : Int) := by omega
      go_wp2_with fail
      refine (spec_pick wr r A cap bs (q + 1 + i) 4 HR.out (by omega) (by omega)).mono ?_
      rintro e w2 ⟨k2, rfl, hk2, R2, g2⟩
      have hrb := HO.out
      have HO2 := Lib.hid (HO.out.kept g2 (Or.inr (fun e => by have := (HO.out.lt _ e).1; omega)))
      have HG2 := Lib.hid (HG.out.trans g2)
      have HR2 := Lib.hid R2
      have hz2 : w.heap.size ≤ w2.heap.size := HG2.out.size
      have iw2 : IntKind.i64.wrap ((1 : Int) + (k2 : Int)) = (1 : Int) + (k2 : Int) := IntWalk.i64_in _ (by omega)
      have hxl2 := HXL.out
      have hxl3 : xs.length ≤ 5 := by omega
      clear R2 g2 hrb hxl2
      go_wp2_with (at_builtin; go_loud (refine wpList_push (W := w2) rfl _ _ rfl w.heap.size _ xs ((1 : Int) + (k2 : Int)) (by rfl) (by rfl) HO2.out hz2 (by omega) ?_))
      intro v3 w3 ho3 hg3 hb3
      have HO3 := Lib.hid ho3
      have HG3 := Lib.hid (grown_rowV HG2.out hg3 (fun g e => (HO2.out.lt g e).1))
      have HR3 := Lib.hid (HR2.out.rowV hg3 (fun g e => by have := (HO2.out.lt g e).1; omega))
      clear ho3 hg3 hb3
      go_wp2_with fail
      go_roundg g1
      case measure => omega
      case rel => exact ⟨i + 1, xs ++ [(1 : Int) + (k2 : Int)], by omega, by go_num, by omega, by show _ = _; rw [List.length_append, HXL.out]; rfl, HO3, HR3, HG3⟩
    · obtain rfl : i = n := by omega
      have en : ((i : Int) - 1) = ((i - 1 : Nat) : Int) := by omega
      have HTX := Lib.hid (spec_l91Text wr r A cap bs (q + 1 + i) (i - 1) HR.out (by omega) (by omega))
      rw [← en] at HTX
      clear en
      go_wp2_with fail
      refine HTX.out.mono ?_
      rintro e w4 ⟨f, rfl, hf, R4, g4⟩
      have HO4 := Lib.hid (HO.out.kept g4 (Or.inr (fun e => by have := (HO.out.lt _ e).1; omega)))
      have HG4 := Lib.hid (HG.out.trans g4)
      have HR4 := Lib.hid R4
      have HF := Lib.hid hf
      clear hf R4 g4 HTX HO HG
      go_wp2_with fail
      refine (spec_pick w4 r A cap bs _ 40 HR4.out (by omega) (by omega)).mono ?_
      rintro e w5 ⟨k5, rfl, hk5, R5, g5⟩
      have HO5 := Lib.hid (HO4.out.kept g5 (Or.inr (fun e => by have := (HO4.out.lt _ e).1; omega)))
      have HG5 := Lib.hid (HG4.out.trans g5)
      have HR5 := Lib.hid R5
      clear R5 g5 HO4 HG4 HR4
      have hx1 : 0 < xs.length := by rw [HXL.out]; omega
      have hx5 : xs.length ≤ 5 := by rw [HXL.out]; omega
      obtain ⟨g, c, cur, hv, hS⟩ := Seg.of_own HO5.out hx1
      have HS := Lib.hid hS
      have HX5 := Lib.hid hx5
      have fsz : f.size ≤ 4 := by rw [HF.out]; omega
      subst hv
      have hci := hS.le
      have hcm := hS.max
      unfold maxLen at hcm
      have HCI := Lib.hid hci
      have HCM := Lib.hid hcm
      have b0 : (0 : Int) < (xs.length : Int) := by omega
      have hgr : w.heap.size ≤ g := hS.lo
      have hg5 : g < w5.heap.size := hS.blk.lt
      have hrg : g ≠ r := by omega
      clear hS HO5 hci hcm hx5
      by_cases v0 : k5 = 0
      · subst v0
        have lit : Blk (w5.alloc (.cells #[.int .i64 0, .int .i64 1001, .int .i64 1000] 3)) w5.heap.size 3 #[.int .i64 0, .int .i64 1001, .int .i64 1000] := Blk.new w5 _ _
        have R6 := HR5.out.far (.cells #[.int .i64 0, .int .i64 1001, .int .i64 1000] 3)
        have G6 := HG5.out.trans (grown_alloc w5 (.cells #[.int .i64 0, .int .i64 1001, .int .i64 1000] 3) (some r))
        have S6 := HS.out.far (.cells #[.int .i64 0, .int .i64 1001, .int .i64 1000] 3)
        have hr5 : r < w5.heap.size := HR5.out.blk.lt
        have HL := Lib.hid (And.intro lit (And.intro R6 (And.intro G6 S6)))
        clear lit R6 G6 S6 HS HR5 HG5
        go_wp2_with fail
        refine (spec_pick _ r A cap bs _ 3 HL.out.2.1 (by omega) (by omega)).mono ?_
        rintro e w7 ⟨k6, rfl, hk6, R7, g7⟩
        have lit7 := HL.out.1.grown g7 (fun e => by have := Option.some.inj e; omega)
        have S7 := HL.out.2.2.2.grown g7 (fun e => by have := Option.some.inj e; omega)
        have G7 := HL.out.2.2.1.trans g7
        have hk3 : k6 < 3 := by omega
        obtain ⟨z, hz⟩ : ∃ z : Int, w7.cell? ⟨w5.heap.size, k6, none⟩ = some (.int .i64 z) := by
          have := lit7.cell k6
          rcases (show k6 = 0 ∨ k6 = 1 ∨ k6 = 2 by omega) with rfl | rfl | rfl
          · exact ⟨0, this⟩
          · exact ⟨1001, this⟩
          · exact ⟨1000, this⟩
        have k60 : (0 : Int) ≤ (k6 : Int) := by omega
        have k63 : (k6 : Int) < 3 := by omega
        have c0 := (S7.blk.cell 0).trans (S7.at_ 0 _ (List.getElem?_eq_getElem hx1))
        have f0 := S7.blk.frozen 0
        have st := S7.set 0 z
        have hbb := below_set w7 (B := w.heap.size) (g := g) 0 (.int .i64 z) hgr
        have R8 := R7.below hbb hrl
        have G8 := grown_rowV G7 (grown_setR w7 g 0 (.int .i64 z)) (fun g' e => by have := Option.some.inj e; omega)
        have HE := Lib.hid (And.intro st (And.intro R8 G8))
        clear lit7 S7 G7 HL R7 g7 st hbb R8 G8 hk3
        go_wp2_with fail
        go_ret2
        exact ⟨_, xs.set 0 z, c, f, _, by simp, HE.out.1.ints, by simpa using HCI.out, HCM.out, by simpa using HX5.out, by omega, HE.out.2.1, HE.out.2.2⟩
      · have e0 : ((k5 : Int) == 0) = false := by rw [beq_eq_false_iff_ne]; omega
        by_cases v1 : k5 = 1
        · subst v1
          clear e0 v0
          have b12 : ∀ W, (Op.stringOp .add f ⟨#[77]⟩).run Tryz.prog W = .ok (.string (f ++ ⟨#[77]⟩)) W := fun W => run_string_add_sum W _ _ (by show f.size + 1 ≤ _; omega)
          go_wp2_with fail
          go_ret2
          exact ⟨_, xs, c, _, _, rfl, HS.out.ints, HCI.out, HCM.out, HX5.out, by rw [ByteArray.size_append]; show f.size + 1 ≤ 5; omega, HR5.out, HG5.out⟩
        · have e1 : ((k5 : Int) == 1) = false := by rw [beq_eq_false_iff_ne]; omega
          by_cases v2 : k5 = 2
          · subst v2
            clear e0 e1 v0 v1
            go_wp2_with fail
            go_ret2
            exact ⟨_, [], 0, ⟨#[]⟩, _, rfl, Ints.nil _ _, by simp, by unfold maxLen; omega, by simp, by show 0 ≤ 5; omega, HR5.out.far _, HG5.out.trans (grown_alloc _ _ _)⟩
          · have e2 : ((k5 : Int) == 2) = false := by rw [beq_eq_false_iff_ne]; omega
            clear v0 v1 v2
            go_wp2_with fail
            go_ret2
            exact ⟨_, xs, c, _, _, rfl, HS.out.ints, HCI.out, HCM.out, HX5.out, by omega, HR5.out, HG5.out⟩
set_option maxHeartbeats 1000000 in
theorem spec_DrawStripMany (w : World) (A : Option Addr) (cap : Nat) (bs : List UInt8) (h : Codes w w.heap.size A bs) (hl : bs.length ≤ 1048576) (hcap : bs.length ≤ cap) (hcm : cap ≤ maxLen) :
    Calls Tryz.prog 8 #[.slice A bs.length cap] w fun e w' => ∃ (B : Option Addr) (xs : List Int) (c : Nat) (s : ByteArray), e = .returned (.tuple #[.slice B xs.length c, .string s]) ∧ Ints w' B xs ∧ xs.length ≤ c ∧ c ≤ maxLen ∧ xs.length ≤ 5 ∧ s.size ≤ 5 ∧ Below w.heap.size w w' := by
  go_enter Tryz.func8, Tryz.ntmps8
  go_wp2_with fail
  refine (spec_l6Open w A cap bs h hl hcap hcm).mono ?_
  rintro e w1 ⟨bs', rfl, R1, hb1⟩
  have hsz := R1.blk.lt
  go_wp2_with fail
  refine (spec_l91Strip w1 w.heap.size A cap bs' 0 R1 (by omega)).mono ?_
  rintro e w2 ⟨B, xs, c, s, q1, rfl, hI, hc, hcm, hxm, hs, R2, G2⟩
  go_wp2_with fail
  go_ret2
  exact ⟨B, xs, c, s, rfl, hI, hc, hcm, hxm, hs, grown_fresh hb1 G2 hsz⟩
end Go.Proofs.YtkdlipbegdiaaaaGreatDoor
