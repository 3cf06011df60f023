/- Right layers of a ring, counted the reference's way. No condition but sizes. The law that a ring's right layers and its crimps agree: the walk of the law itself. No condition but sizes. -/
import Derived.Test.YtngpeehjjcgmmaaFnRingTwoWaysP52
import Derived.Test.YtngpeehjjcgmmaaSpecC
import Derived.Test.YtngpeehjjcgmmaaDrawT6
import Derived.Test.YtngpeehjjcgmmaaFnRingTwoWaysP48
namespace Go.Proofs.Ytngpeehjjcgmmaa
open Go.RowKit

/-- what a row reads as, apart of a block -/
def RowA (w : World) (ob : Option Nat) (A : Option Addr) (L : List Value) : Prop := RowV w A L ∧ ∀ b off, A = some ⟨b, off, none⟩ → b < w.heap.size ∧ ob ≠ some b
theorem RowA.below {w w' : World} {ob : Option Nat} {A : Option Addr} {L : List Value} (h : RowA w ob A L) (hb : Below w.heap.size w w') : RowA w' ob A L :=
  ⟨h.1.below hb, fun b off e => ⟨Nat.lt_of_lt_of_le (h.2 b off e).1 hb.size, (h.2 b off e).2⟩⟩
theorem RowA.appended {w w' : World} {s s' : Value} {A : Option Addr} {L : List Value} (h : RowA w s.ownBlock A L) (hg : w.grownBy w' s.ownBlock) (hm : MovedX w s s') : RowA w' s'.ownBlock A L := by
  refine ⟨fun hn => ?_, fun b off e => ?_⟩
  · obtain ⟨b, off, e, hb, hc⟩ := h.1 hn
    have h2 := (h.2 b off e).2
    exact ⟨b, off, e, Nat.lt_of_lt_of_le hb hg.size, fun j u hj => (hg.cell_far ⟨b, off + j, none⟩ hb (fun e => h2 e.symm)).trans (hc j u hj)⟩
  · obtain ⟨h1, h2⟩ := h.2 b off e
    refine ⟨Nat.lt_of_lt_of_le h1 hg.size, fun e2 => ?_⟩
    rcases hm with h3 | h3
    · rw [h3] at e2; exact h2 e2
    · have := h3 b e2; omega
theorem take_filter_succ {α : Type} (p : α → Bool) (l : List α) (k : Nat) (hk : k < l.length) : ((l.take (k + 1)).filter p).length = ((l.take k).filter p).length + if p l[k] = true then 1 else 0 := by
  rw [List.take_succ_eq_append_getElem hk, List.filter_append, List.length_append]
  congr 1
  simp only [List.filter_cons, List.filter_nil]
  split <;> rfl
set_option maxHeartbeats 4000000 in
set_option maxRecDepth 100000 in
theorem spec_l2Rights_ring (A : Option Addr) (cap : Nat) (xs : List Int) (s : ByteArray) (w : World) (h : Ints w A xs) (hn : xs.length = 2 ∨ xs.length = 4 ∨ xs.length = 6) (hx : ∀ x ∈ xs, 0 ≤ x ∧ x ≤ 1000) (hs : s.size = xs.length) :
    Calls Try.prog 35 #[.slice A xs.length cap, .string s, .bool true] w fun e w' => ∃ A' c, e = .returned (.slice A' (rmany xs s) c) ∧ Below w.heap.size w w' := by
  obtain ⟨n, hnn⟩ : ∃ n, n = xs.length := ⟨_, rfl⟩
  obtain ⟨LL, hLL⟩ : ∃ LL, LL = genO n n [] := ⟨_, rfl⟩
  have hOrd : ∀ L, L ∈ LL → OrdF n L := by rw [hLL]; exact ord_of (by rw [hnn]; exact hn)
  obtain ⟨P, hP⟩ : ∃ P : List Int → Bool, P = fun L => rightQ (lvTo L xs.length L.length) (plcL xs) xs.length (fqR xs s xs.length) := ⟨_, rfl⟩
  have hcnt : (LL.filter P).length = rmany xs s := by rw [hLL, hP, hnn]; exact count_ring hn hs
  have hlen : LL.length ≤ 46656 := by
    have h1 := genO_len n (by omega) n []
    have h2 : 6 ^ n ≤ 6 ^ 6 := Nat.pow_le_pow_right (by omega) (by omega)
    rw [hLL]; omega
  have HALL := Lib.hid (fun (W : World) (A0 : Option Addr) (c0 : Nat) (H : Nat) (hH : H ≤ W.heap.size) (h0 : ∀ b off, A0 = some ⟨b, off, none⟩ → H ≤ b) => spec_l2All n (by omega) (by omega) n A0 c0 [] W H (by simp) (Ints.nil _ _) hH h0)
  rw [← hLL] at HALL
  have HRT : Hid (∀ (W : World) (A' : Option Addr) (c' : Nat) (L : List Int), L ∈ LL → Below w.heap.size w W → Ints W A' L → Calls Try.prog 60 #[.slice A n cap, .string s, .bool true, .slice A' L.length c'] W fun e w' => e = .returned (.bool (P L)) ∧ Below W.heap.size W w') := by
    show ∀ (W : World) (A' : Option Addr) (c' : Nat) (L : List Int), _
    intro W A' c' L hL hb hI
    have ho := hOrd L hL
    have hll : L.length = xs.length := by rw [ho.len, hnn]
    have hlv : ∀ j, j < xs.length → 0 ≤ lvAt L L.length (j : Int) := fun j hj => by rw [ho.len]; exact ho.lv j (by omega)
    have := spec_l2Right_ring A A' cap c' xs L s W (h.below hb) hI (by omega) hx (by omega) hs hll hlv _ rfl _ rfl (by
      rw [fqR_eq xs s (by omega)]
      intro f hf
      obtain ⟨k, hk, rfl⟩ := List.mem_map.1 hf
      rw [List.mem_range] at hk
      unfold fqK
      simp only []
      have e1 := prev_mod hk
      have e2 : (if k = 0 then xs.length - 1 else k - 1) < xs.length ∧ (if k = 0 then xs.length - 1 else k - 1) ≠ k := by split <;> omega
      rw [e1]
      exact ⟨e2.1, hk, lvTo_ne e2.1 hk hlv e2.2⟩)
    rw [fqR_eq xs s (by omega)] at this
    rw [hP, hnn]
    exact this
  rw [← hnn]
  have HC := Lib.hid hcnt
  have HLN := Lib.hid hlen
  clear hcnt hlen hOrd hLL hP h hn hx hs hnn
  go_enter Try.func35, Try.ntmps35
  go_wp2_with fail
  refine (HALL.out _ _ _ (w.heap.size + 1) (by simp) (by intro b off e; injection e with e; injection e with e1 e2; subst e1; simp)).mono ?_
  rintro e w2 ⟨v2, VL, rfl, hO2, hT2, hb2⟩
  have hq : ∀ g, v2.ownBlock = some g → w.heap.size < g ∧ g < w2.heap.size := fun g e => by
    have := hO2.lt g e
    simp at this
    omega
  obtain ⟨A6, c6, rfl, hr6, _, _⟩ := own_formX hO2
  have hVL : VL.length = LL.length := hT2.1
  have HRA : Hid (RowA w2 (some w.heap.size) A6 VL) := ⟨hr6, fun b off e => by
    have := hq b (by rw [e]; rfl)
    exact ⟨this.2, fun e2 => by injection e2; omega⟩⟩
  have HTL : Hid (Tol w2 (w.heap.size + 1) (some w.heap.size) VL LL) := hT2.low (Nat.le_refl _) (fun g e => by injection e; omega)
  have HB2 : Hid (Below w.heap.size w w2) := (Below.refl w.heap.size w).alloc (Nat.le_refl _) _ |>.alloc (by simp) _ |>.trans (hb2.mono (by simp; omega))
  have HO0 : Hid (OwnW w2 w.heap.size (.slice (some ⟨w.heap.size, 0, none⟩) 0 0) 0 []) := own_belowX (own_belowX (World.ownsRow_lit w #[] 0 (Nat.le_refl _) (by unfold maxLen; omega) rfl) ((Below.refl _ _).alloc (Nat.le_refl _) _)) hb2
  clear hO2 hT2 hb2 hq hr6
  go_wp2_with fail
  go_loopg [7, 9] (LL.length + 1) (fun g s7 s9 wr => ∃ (k : Nat) (VO : List Value), k ≤ LL.length ∧ s9 = .int .i64 k ∧ LL.length - k < g ∧ Hid (OwnW wr w.heap.size s7 ((LL.take k).filter P).length VO) ∧ Hid (Tol wr (w.heap.size + 1) s7.ownBlock VL LL) ∧ Hid (RowA wr s7.ownBlock A6 VL) ∧ Hid (Below w.heap.size w wr))
  case atStart => exact ⟨0, [], by omega, rfl, by omega, HO0, HTL, HRA, HB2⟩
  case round =>
    clear HO0 HTL HRA HB2
    obtain ⟨k, VO, hk, rfl, hg, HO, HT, HR, HB⟩ := hrel
    cases gk with
    | zero => omega
    | succ gl =>
    have hl46 := HLN.out
    have kw2 : IntKind.i64.wrap ((k : Int) + 1) = (k : Int) + 1 := IntWalk.i64_in _ (by omega)
    by_cases hlt : k < LL.length
    · have k1 : (k : Int) < (LL.length : Int) := by omega
      obtain ⟨u, hu⟩ : ∃ u, VL[k]? = some u := ⟨_, List.getElem?_eq_getElem (by omega)⟩
      obtain ⟨L, hL⟩ : ∃ L, L = LL[k] := ⟨_, rfl⟩
      obtain ⟨b2, o2, c2, rfl, hi2, _, hb2, _⟩ := HT.out.2 k u _ hu (List.getElem?_eq_getElem hlt)
      obtain ⟨b, off, rfl, hb, hc⟩ := HR.out.1 (show VL ≠ [] from fun e => by rw [e] at hu; simp at hu)
      have hcell := hc k _ hu
      have hstep := take_filter_succ P LL k hlt
      rw [← hL] at hi2 hcell hstep
      have HRT2 := Lib.hid (HRT.out wr (some ⟨b2, o2, none⟩) c2 L (by rw [hL]; exact List.getElem_mem hlt) HB.out hi2)
      have HST := Lib.hid hstep
      have hfl : ((LL.take k).filter P).length ≤ 46656 := Nat.le_trans (List.length_filter_le _ _) (by rw [List.length_take]; omega)
      have HFL := Lib.hid hfl
      clear hi2 hc hu hL hstep hfl
      go_wp2_with fail
      refine HRT2.out.mono ?_
      rintro e w3 ⟨rfl, hb3⟩
      have hcell3 : w3.cell? ⟨b, off + k, none⟩ = some (.slice (some ⟨b2, o2, none⟩) L.length c2) := (hb3.cell (p := ⟨b, off + k, none⟩) hb).trans hcell
      have HB3 := Lib.hid hb3
      have hzr : w.heap.size ≤ wr.heap.size := HB.out.size
      clear hb3
      cases hp : P L with
      | false =>
        rw [hp] at HST
        clear hp
        go_wp2_with fail
        go_roundg gl
        case measure => omega
        case rel => exact ⟨k + 1, VO, by omega, by go_num, by omega, by rw [HST.out]; exact own_belowX HO.out HB3.out, HT.out.below HB3.out, HR.out.below HB3.out, HB.out.trans (HB3.out.mono hzr)⟩
      | true =>
        rw [hp] at HST
        clear hp
        go_wp2_with (at_builtin; go_loud (refine wpList_appW (W := w3.alloc (.cells #[.slice (some ⟨b2, o2, none⟩) L.length c2] 23)) rfl _ _ rfl w.heap.size _ _ VO _ 1 _ [.slice (some ⟨b2, o2, none⟩) L.length c2] (by rfl) (by rfl) (own_belowX HO.out (HB3.out.alloc HB3.out.size _)) rfl (fun e => by cases e) (RowV.lit w3 [.slice (some ⟨b2, o2, none⟩) L.length c2] _).news (fun u hu => by rw [List.mem_singleton] at hu; subst hu; rfl) (Nat.le_trans hzr (HB3.out.alloc HB3.out.size _).size) (Nat.le_trans (Nat.add_le_add_right HFL.out 1) (by omega)) ?_))
        intro vC wC hC hgC hbC hmC hrC
        have hBA : Below wr.heap.size wr (w3.alloc (.cells #[.slice (some ⟨b2, o2, none⟩) L.length c2] 23)) := HB3.out.alloc HB3.out.size _
        have HC1 : Hid (OwnW wC w.heap.size vC ((LL.take (k + 1)).filter P).length (VO ++ [.slice (some ⟨b2, o2, none⟩) L.length c2])) := by show OwnW _ _ _ _ _; rw [HST.out]; exact hC
        have HC2 : Hid (Tol wC (w.heap.size + 1) vC.ownBlock VL LL) := (HT.out.below hBA).appended hgC hmC
        have HC3 : Hid (RowA wC vC.ownBlock (some ⟨b, off, none⟩) VL) := (HR.out.below hBA).appended hgC hmC
        have HC4 : Hid (Below w.heap.size w wC) := HB.out.trans ((hBA.mono hzr).trans hbC)
        clear hC hgC hbC hmC hrC hBA
        go_wp2_with fail
        go_roundg gl
        case measure => omega
        case rel => exact ⟨k + 1, _, by omega, by go_num, by omega, HC1, HC2, HC3, HC4⟩
    · obtain rfl : k = LL.length := by omega
      have HOE := HO.out
      rw [List.take_length, HC.out] at HOE
      obtain ⟨A7, c7, rfl, _, _, _⟩ := own_formX HOE
      clear HOE
      go_wp2_with fail
      go_ret
      exact ⟨A7, c7, rfl, HB.out⟩
set_option maxHeartbeats 1000000 in
set_option maxRecDepth 100000 in
theorem spec_RingMany (A : Option Addr) (cap : Nat) (xs : List Int) (s : ByteArray) (w : World) (h : Ints w A xs) (hr : rvB xs s.data.toList = true) :
    Calls Try.prog 17 #[.slice A xs.length cap, .string s] w fun e w' => e = .returned (.int .i64 (rmany xs s : Nat)) ∧ Below w.heap.size w w' := by
  have hrr := hr
  unfold rvB at hrr
  simp only [Bool.and_eq_true, decide_eq_true_eq] at hrr
  obtain ⟨⟨⟨h1, h2⟩, h3⟩, h5⟩ := hrr
  obtain ⟨l1, l6, hx⟩ := lvB_parts h1
  have hss : s.size = xs.length := fvB_size h3
  have HV := Lib.hid (spec_RingValid A cap xs s w h (by unfold maxLen; omega) (by unfold maxLen; omega))
  have HR := Lib.hid (spec_l2Rights_ring A cap xs s w h (by omega) (fun x hm => ⟨by have := (hx x hm).1; omega, (hx x hm).2⟩) hss)
  rw [hr] at HV
  obtain ⟨z, hz⟩ : ∃ z, z = rmany xs s := ⟨_, rfl⟩
  rw [← hz] at HR ⊢
  clear h1 h2 h3 h5 hx hr h hz
  go_enter Try.func17, Try.ntmps17
  go_wp2_with fail
  refine HV.out.mono ?_
  rintro e w' ⟨rfl, rfl⟩
  go_wp2_with fail
  refine HR.out.mono ?_
  rintro e w2 ⟨A', c, rfl, hb⟩
  have HB := Lib.hid hb
  clear hb
  go_wp2_with fail
  go_ret
  exact ⟨ret_int (by rfl), HB.out⟩
set_option maxHeartbeats 400000 in
theorem spec_RingMany_no (A : Option Addr) (cap : Nat) (xs : List Int) (s : ByteArray) (w : World) (h : Ints w A xs) (hl : xs.length ≤ maxLen) (hs : s.size ≤ maxLen) (hr : rvB xs s.data.toList = false) :
    Calls Try.prog 17 #[.slice A xs.length cap, .string s] w fun e w' => e = .returned (.int .i64 (-1)) ∧ w = w' := by
  have HV := Lib.hid (spec_RingValid A cap xs s w h hl hs)
  rw [hr] at HV
  clear hr
  go_enter Try.func17, Try.ntmps17
  go_wp2_with fail
  refine HV.out.mono ?_
  rintro e w' ⟨rfl, rfl⟩
  go_wp2_with fail
  go_ret
  exact ⟨rfl, rfl⟩
set_option maxHeartbeats 400000 in
theorem impl_RingMany_no (A : Option Addr) (cap : Nat) (xs : List Int) (s : ByteArray) (w : World) (h : Ints w A xs) (hl : xs.length ≤ maxLen) (hs : s.size ≤ maxLen) (hr : rvB xs s.data.toList = false) :
    Calls Try.prog 16 #[.slice A xs.length cap, .string s] w fun e w' => e = .returned (.int .i64 (-1)) ∧ w = w' := by
  have HV := Lib.hid (impl_RingValid A cap xs s w h hl hs)
  rw [hr] at HV
  clear hr
  go_enter Try.func16, Try.ntmps16
  go_wp2_with fail
  refine HV.out.mono ?_
  rintro e w' ⟨rfl, rfl⟩
  go_wp2_with fail
  go_ret
  exact ⟨rfl, rfl⟩
end Go.Proofs.Ytngpeehjjcgmmaa
namespace Go.Proofs.Ytngpeehjjcgmmaa
open Go.RowKit

theorem below_fromR {w w1 w2 : World} (h1 : Below w.heap.size w w1) (h2 : Below w1.heap.size w1 w2) : Below w.heap.size w w2 := h1.trans (h2.mono h1.size)
set_option maxHeartbeats 4000000 in
set_option maxRecDepth 100000 in
theorem law_FnRingTwoWays (A : Option Addr) (cap : Nat) (bs : List UInt8) (w : World) (h : Codes w w.heap.size A bs) (hcap : bs.length ≤ cap) (hcm : cap ≤ maxLen) :
    Calls Try.prog 4 #[.slice A bs.length cap] w fun e w' => e = .returned (.bool true) ∧ Below w.heap.size w w' := by
  have hlm : bs.length ≤ maxLen := Nat.le_trans hcap hcm
  have hlm2 := hlm
  unfold maxLen at hlm2
  by_cases g1 : 1048576 < bs.length
  · have d1 : decide ((1048576 : Int) < (bs.length : Int)) = true := by simp; omega
    go_enter Try.func4, Try.ntmps4
    go_wp2_with fail
    go_ret
    exact ⟨rfl, Below.refl _ _⟩
  · have d1 : decide ((1048576 : Int) < (bs.length : Int)) = false := by simp; omega
    go_enter Try.func4, Try.ntmps4
    go_wp2_with fail
    refine (spec_DrawRingMany w A cap bs h (by omega) hcap hcm).mono ?_
    rintro e w1 ⟨B, xs, c, s, rfl, hI, hc, hcmx, hx8, hs, hb1⟩
    have HB1 := Lib.hid hb1
    have HI1 := Lib.hid hI
    clear hb1 hI h
    cases hv : rvB xs s.data.toList with
    | false =>
      have H1 := Lib.hid (impl_RingMany_no B c xs s w1 HI1.out (by unfold maxLen; omega) (by unfold maxLen; omega) hv)
      have H2 := Lib.hid (spec_RingMany_no B c xs s w1 HI1.out (by unfold maxLen; omega) (by unfold maxLen; omega) hv)
      clear hv
      go_wp2_with fail
      refine H1.out.mono ?_
      rintro e _ ⟨rfl, rfl⟩
      go_wp2_with fail
      refine H2.out.mono ?_
      rintro e _ ⟨rfl, rfl⟩
      go_wp2_with fail
      go_ret
      exact ⟨rfl, HB1.out⟩
    | true =>
      have H1 := Lib.hid (impl_RingMany B c xs s w1 HI1.out hv)
      have H2 := Lib.hid (fun (W : World) (hb : Below w1.heap.size w1 W) => spec_RingMany B c xs s W (HI1.out.below hb) hv)
      have HF1 := Lib.hid (fun (W : World) (hb : Below w1.heap.size w1 W) => impl_RingFirst B c xs s W (HI1.out.below hb) hv)
      have HRF := Lib.hid (fun (W : World) (hb : Below w1.heap.size w1 W) => impl_RingFolds B c xs s W (HI1.out.below hb) (by unfold maxLen; omega) (by unfold maxLen; omega))
      have hlay := ring_layers hv
      have hfs := rfirst_some xs s
      cases hf : rfB xs s with
      | false =>
        have hz : rmany xs s = 0 := by
          rw [hf] at hlay
          have : ¬ (0 < rmany xs s) := fun q => by have := hlay.1 q; cases this
          omega
        have hnone : rfirst xs s = none := by
          cases hq : rfirst xs s with
          | none => rfl
          | some L =>
            rw [hq] at hfs
            have := hfs.1 rfl
            omega
        rw [hz] at H1 H2
        rw [hf] at HRF
        rw [hnone] at HF1
        clear hlay hfs hf hv hz hnone
        go_wp2_with fail
        refine H1.out.mono ?_
        rintro e w2 ⟨rfl, hb2⟩
        have HB2 := Lib.hid hb2
        clear hb2 H1
        go_wp2_with fail
        refine (H2.out w2 HB2.out).mono ?_
        rintro e w3 ⟨rfl, hb3⟩
        have HB3 := Lib.hid (HB2.out.trans (hb3.mono HB2.out.size))
        clear hb3 HB2 H2
        go_wp2_with fail
        refine (HF1.out w3 HB3.out).mono ?_
        rintro e w4 ⟨v4, rfl, ho4, hb4⟩
        have HB4 := Lib.hid (HB3.out.trans (hb4.mono HB3.out.size))
        clear hb4 HB3 HF1 ho4
        go_wp2_with fail
        refine (HRF.out w4 HB4.out).mono ?_
        rintro e w5 ⟨rfl, hb5⟩
        have HB5 := Lib.hid (HB4.out.trans (hb5.mono HB4.out.size))
        clear hb5 HB4 HRF
        go_wp2_with fail
        go_ret
        exact ⟨rfl, below_fromR HB1.out HB5.out⟩
      | true =>
        have hz : 0 < rmany xs s := hlay.2 hf
        obtain ⟨L, hL⟩ := Option.isSome_iff_exists.1 (hfs.2 hz)
        have hrl := rfirst_right hL
        have hll := right_len hrl
        have HRL := Lib.hid (fun (W : World) (A' : Option Addr) (c' : Nat) (hb : Below w1.heap.size w1 W) (hIL : Ints W A' L) => impl_RingLayers B A' c c' xs L s W (HI1.out.below hb) hIL (by omega) hv)
        rw [hrl] at HRL
        rw [hf] at HRF
        rw [hL] at HF1
        obtain ⟨z, hzz⟩ : ∃ z, z = rmany xs s := ⟨_, rfl⟩
        rw [← hzz] at H1 H2 hz
        have y0 : decide ((z : Int) < 0) = false := by simp
        have y1 : decide ((0 : Int) < (z : Int)) = true := by simp; omega
        have y2 : ((z : Int) != (z : Int)) = false := by simp
        clear hlay hfs hf hv hL hrl hzz hll
        go_wp2_with fail
        refine H1.out.mono ?_
        rintro e w2 ⟨rfl, hb2⟩
        have HB2 := Lib.hid hb2
        clear hb2 H1
        go_wp2_with fail
        refine (H2.out w2 HB2.out).mono ?_
        rintro e w3 ⟨rfl, hb3⟩
        have HB3 := Lib.hid (HB2.out.trans (hb3.mono HB2.out.size))
        clear hb3 HB2 H2
        go_wp2_with fail
        refine (HF1.out w3 HB3.out).mono ?_
        rintro e w4 ⟨v4, rfl, ho4, hb4⟩
        obtain ⟨A4, c4, rfl, hi4, _, _⟩ := Own.form ho4
        have HB4 := Lib.hid (HB3.out.trans (hb4.mono HB3.out.size))
        have HI4 := Lib.hid hi4
        clear hb4 HB3 HF1 ho4 hi4
        go_wp2_with fail
        refine (HRF.out w4 HB4.out).mono ?_
        rintro e w5 ⟨rfl, hb5⟩
        have HB5 := Lib.hid (HB4.out.trans (hb5.mono HB4.out.size))
        have HI5 := Lib.hid (HI4.out.below hb5)
        clear hb5 HB4 HRF HI4
        go_wp2_with fail
        refine (HRL.out w5 A4 c4 HB5.out HI5.out).mono ?_
        rintro e w6 ⟨rfl, hb6⟩
        have HB6 := Lib.hid (HB5.out.trans (hb6.mono HB5.out.size))
        clear hb6 HB5 HRL HI5
        go_wp2_with fail
        go_ret
        exact ⟨rfl, below_fromR HB1.out HB6.out⟩
end Go.Proofs.Ytngpeehjjcgmmaa
