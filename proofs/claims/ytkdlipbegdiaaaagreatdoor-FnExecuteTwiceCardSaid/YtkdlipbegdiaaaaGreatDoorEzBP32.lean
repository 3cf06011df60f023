/- Right layers of a strip, counted the reference's way. No condition but sizes. Every order of seven numbers is one of places. No program, no condition. -/
import Derived.Test.YtkdlipbegdiaaaaGreatDoorEzBP30
import Derived.Test.YtkdlipbegdiaaaaGreatDoorEzBP31
import Derived.Test.YtkdlipbegdiaaaaGreatDoorEzBP28
namespace Go.Proofs.YtkdlipbegdiaaaaGreatDoor
open Go.RowKit
set_option maxHeartbeats 4000000 in
set_option maxRecDepth 100000 in
theorem spec_l2Rights_strip (A : Option Addr) (cap : Nat) (xs : List Int) (s : ByteArray) (w : World) (h : Ints w A xs) (h1 : 1 ≤ xs.length) (h6 : xs.length ≤ 6) (hx : ∀ x ∈ xs, 0 ≤ x ∧ x ≤ 1000) (hs : s.size + 1 = xs.length) :
    Calls Tryz.prog 24 #[.slice A xs.length cap, .string s, .bool false] w fun e w' => ∃ A' c, e = .returned (.slice A' (smany xs s) c) ∧ Below w.heap.size w w' := by
  obtain ⟨n, hnn⟩ : ∃ n, n = xs.length := ⟨_, rfl⟩
  obtain ⟨LL, hLL⟩ : ∃ LL, LL = genO n n [] := ⟨_, rfl⟩
  have hOrd : ∀ L, L ∈ LL → OrdF n L := by rw [hLL]; exact ord_six (by omega) (by omega)
  obtain ⟨P, hP⟩ : ∃ P : List Int → Bool, P = fun L => rightQ (lvTo L xs.length L.length) (plcL xs) xs.length (fqTo xs s.data.toList s.size) := ⟨_, rfl⟩
  have hcnt : (LL.filter P).length = smany xs s := by rw [hLL, hP, hnn]; exact count_strip h1 h6 hs
  have hlen : LL.length ≤ 117649 := by
    have h1 := genO_len n (by omega) n []
    have h2 : 7 ^ n ≤ 7 ^ 6 := Nat.pow_le_pow_right (by omega) (by omega)
    rw [hLL]; omega
  have HALL := Lib.hid (fun (W : World) (A0 : Option Addr) (c0 : Nat) (H : Nat) (hH : H ≤ W.heap.size) (h0 : ∀ b off, A0 = some ⟨b, off, none⟩ → H ≤ b) => spec_l2All n (by omega) (by omega) n A0 c0 [] W H (by simp) (Ints.nil _ _) hH h0)
  rw [← hLL] at HALL
  have HRT : Hid (∀ (W : World) (A' : Option Addr) (c' : Nat) (L : List Int), L ∈ LL → Below w.heap.size w W → Ints W A' L → Calls Tryz.prog 47 #[.slice A n cap, .string s, .bool false, .slice A' L.length c'] W fun e w' => e = .returned (.bool (P L)) ∧ Below W.heap.size W w') := by
    show ∀ (W : World) (A' : Option Addr) (c' : Nat) (L : List Int), _
    intro W A' c' L hL hb hI
    have ho := hOrd L hL
    have hll : L.length = xs.length := by rw [ho.len, hnn]
    have hlv : ∀ j, j < xs.length → 0 ≤ lvAt L L.length (j : Int) := fun j hj => by rw [ho.len]; exact ho.lv j (by omega)
    have := spec_l2Right_g A A' cap c' xs L s W (h.below hb) hI (by omega) hx (by omega) hll hlv (fqTo xs s.data.toList s.size) false s.size (fqTo_len _ _ _) (by omega) (fun V hbV => spec_l2AllFolds_strip A cap xs s V ((h.below hb).below hbV) (by omega) hx (by omega) hs) _ rfl (by
      intro f hf
      obtain ⟨k, hk, rfl⟩ := List.mem_map.1 hf
      rw [List.mem_range] at hk
      exact ⟨by show k < _; omega, by show k + 1 < _; omega, lvTo_ne (i := k) (j := k + 1) (by omega) (by omega) hlv (by omega)⟩)
    rw [hP, hnn]
    exact this
  rw [← hnn]
  have HC := Lib.hid hcnt
  have HLN := Lib.hid hlen
  clear hcnt hlen hOrd hLL hP h h1 h6 hx hs hnn
  go_enter Tryz.func24, Tryz.ntmps24
  go_wp2_with fail
  refine (HALL.out _ _ _ (w.heap.size + 1) (by simp) (by intro b off e; injection e with e; injection e with e1 e2; subst e1; simp)).mono ?_
  rintro e w2 ⟨v2, VL, rfl, hO2, hT2, hb2⟩
  have hq : ∀ g, v2.ownBlock = some g → w.heap.size < g ∧ g < w2.heap.size := fun g e => by
    have := hO2.lt g e
    simp at this
    omega
  obtain ⟨A6, c6, rfl, hr6, _, _⟩ := own_formX hO2
  have hVL : VL.length = LL.length := hT2.1
  have HRA : Hid (RowA w2 (some w.heap.size) A6 VL) := ⟨hr6, fun b off e => by
    have := hq b (by rw [e]; rfl)
    exact ⟨this.2, fun e2 => by injection e2; omega⟩⟩
  have HTL : Hid (Tol w2 (w.heap.size + 1) (some w.heap.size) VL LL) := hT2.low (Nat.le_refl _) (fun g e => by injection e; omega)
  have HB2 : Hid (Below w.heap.size w w2) := (Below.refl w.heap.size w).alloc (Nat.le_refl _) _ |>.alloc (by simp) _ |>.trans (hb2.mono (by simp; omega))
  have HO0 : Hid (OwnW w2 w.heap.size (.slice (some ⟨w.heap.size, 0, none⟩) 0 0) 0 []) := own_belowX (own_belowX (World.ownsRow_lit w #[] 0 (Nat.le_refl _) (by unfold maxLen; omega) rfl) ((Below.refl _ _).alloc (Nat.le_refl _) _)) hb2
  clear hO2 hT2 hb2 hq hr6
  go_wp2_with fail
  go_loopg [7, 9] (LL.length + 1) (fun g s7 s9 wr => ∃ (k : Nat) (VO : List Value), k ≤ LL.length ∧ s9 = .int .i64 k ∧ LL.length - k < g ∧ Hid (OwnW wr w.heap.size s7 ((LL.take k).filter P).length VO) ∧ Hid (Tol wr (w.heap.size + 1) s7.ownBlock VL LL) ∧ Hid (RowA wr s7.ownBlock A6 VL) ∧ Hid (Below w.heap.size w wr))
  case atStart => exact ⟨0, [], by omega, rfl, by omega, HO0, HTL, HRA, HB2⟩
  case round =>
    clear HO0 HTL HRA HB2
    obtain ⟨k, VO, hk, rfl, hg, HO, HT, HR, HB⟩ := hrel
    cases gk with
    | zero => omega
    | succ gl =>
    have hl46 := HLN.out
    have kw2 : IntKind.i64.wrap ((k : Int) + 1) = (k : Int) + 1 := IntWalk.i64_in _ (by omega)
    by_cases hlt : k < LL.length
    · have k1 : (k : Int) < (LL.length : Int) := by omega
      obtain ⟨u, hu⟩ : ∃ u, VL[k]? = some u := ⟨_, List.getElem?_eq_getElem (by omega)⟩
      obtain ⟨L, hL⟩ : ∃ L, L = LL[k] := ⟨_, rfl⟩
      obtain ⟨b2, o2, c2, rfl, hi2, _, hb2, _⟩ := HT.out.2 k u _ hu (List.getElem?_eq_getElem hlt)
      obtain ⟨b, off, rfl, hb, hc⟩ := HR.out.1 (show VL ≠ [] from fun e => by rw [e] at hu; simp at hu)
      have hcell := hc k _ hu
      have hstep := take_filter_succ P LL k hlt
      rw [← hL] at hi2 hcell hstep
      have HRT2 := Lib.hid (HRT.out wr (some ⟨b2, o2, none⟩) c2 L (by rw [hL]; exact List.getElem_mem hlt) HB.out hi2)
      have HST := Lib.hid hstep
      have hfl : ((LL.take k).filter P).length ≤ 117649 := Nat.le_trans (List.length_filter_le _ _) (by rw [List.length_take]; omega)
      have HFL := Lib.hid hfl
      clear hi2 hc hu hL hstep hfl
      go_wp2_with fail
      refine HRT2.out.mono ?_
      rintro e w3 ⟨rfl, hb3⟩
      have hcell3 : w3.cell? ⟨b, off + k, none⟩ = some (.slice (some ⟨b2, o2, none⟩) L.length c2) := (hb3.cell (p := ⟨b, off + k, none⟩) hb).trans hcell
      have HB3 := Lib.hid hb3
      have hzr : w.heap.size ≤ wr.heap.size := HB.out.size
      clear hb3
      cases hp : P L with
      | false =>
        rw [hp] at HST
        clear hp
        go_wp2_with fail
        go_roundg gl
        case measure => omega
        case rel => exact ⟨k + 1, VO, by omega, by go_num, by omega, by rw [HST.out]; exact own_belowX HO.out HB3.out, HT.out.below HB3.out, HR.out.below HB3.out, HB.out.trans (HB3.out.mono hzr)⟩
      | true =>
        rw [hp] at HST
        clear hp
        go_wp2_with (at_builtin; go_loud (refine wpList_appW (W := w3.alloc (.cells #[.slice (some ⟨b2, o2, none⟩) L.length c2] 23)) rfl _ _ rfl w.heap.size _ _ VO _ 1 _ [.slice (some ⟨b2, o2, none⟩) L.length c2] (by rfl) (by rfl) (own_belowX HO.out (HB3.out.alloc HB3.out.size _)) rfl (fun e => by cases e) (RowV.lit w3 [.slice (some ⟨b2, o2, none⟩) L.length c2] _).news (fun u hu => by rw [List.mem_singleton] at hu; subst hu; rfl) (Nat.le_trans hzr (HB3.out.alloc HB3.out.size _).size) (Nat.le_trans (Nat.add_le_add_right HFL.out 1) (by omega)) ?_))
        intro vC wC hC hgC hbC hmC hrC
        have hBA : Below wr.heap.size wr (w3.alloc (.cells #[.slice (some ⟨b2, o2, none⟩) L.length c2] 23)) := HB3.out.alloc HB3.out.size _
        have HC1 : Hid (OwnW wC w.heap.size vC ((LL.take (k + 1)).filter P).length (VO ++ [.slice (some ⟨b2, o2, none⟩) L.length c2])) := by show OwnW _ _ _ _ _; rw [HST.out]; exact hC
        have HC2 : Hid (Tol wC (w.heap.size + 1) vC.ownBlock VL LL) := (HT.out.below hBA).appended hgC hmC
        have HC3 : Hid (RowA wC vC.ownBlock (some ⟨b, off, none⟩) VL) := (HR.out.below hBA).appended hgC hmC
        have HC4 : Hid (Below w.heap.size w wC) := HB.out.trans ((hBA.mono hzr).trans hbC)
        clear hC hgC hbC hmC hrC hBA
        go_wp2_with fail
        go_roundg gl
        case measure => omega
        case rel => exact ⟨k + 1, _, by omega, by go_num, by omega, HC1, HC2, HC3, HC4⟩
    · obtain rfl : k = LL.length := by omega
      have HOE := HO.out
      rw [List.take_length, HC.out] at HOE
      obtain ⟨A7, c7, rfl, _, _, _⟩ := own_formX HOE
      clear HOE
      go_wp2_with fail
      go_ret
      exact ⟨A7, c7, rfl, HB.out⟩
set_option maxHeartbeats 1000000 in
set_option maxRecDepth 100000 in
theorem spec_StripMany (A : Option Addr) (cap : Nat) (xs : List Int) (s : ByteArray) (w : World) (h : Ints w A xs) (hr : svB xs s.data.toList = true) :
    Calls Tryz.prog 10 #[.slice A xs.length cap, .string s] w fun e w' => e = .returned (.int .i64 (smany xs s : Nat)) ∧ Below w.heap.size w w' := by
  have hrr := hr
  unfold svB at hrr
  simp only [Bool.and_eq_true] at hrr
  obtain ⟨h1, h3⟩ := hrr
  obtain ⟨l1, l6, hx⟩ := lvB_parts h1
  have hss : s.size + 1 = xs.length := by
    have := (fvB_iff _ _).1 h3
    rw [show s.data.toList.length = s.size from Array.length_toList] at this
    omega
  have HV := Lib.hid (spec_StripValidS A cap xs s w h (by unfold maxLen; omega) (by unfold maxLen; omega))
  have HR := Lib.hid (spec_l2Rights_strip A cap xs s w h l1 l6 (fun x hm => ⟨by have := (hx x hm).1; omega, (hx x hm).2⟩) hss)
  rw [hr] at HV
  obtain ⟨z, hz⟩ : ∃ z, z = smany xs s := ⟨_, rfl⟩
  rw [← hz] at HR ⊢
  clear h1 h3 hx hr h hz
  go_enter Tryz.func10, Tryz.ntmps10
  go_wp2_with fail
  refine HV.out.mono ?_
  rintro e w' ⟨rfl, rfl⟩
  go_wp2_with fail
  refine HR.out.mono ?_
  rintro e w2 ⟨A', c, rfl, hb⟩
  have HB := Lib.hid hb
  clear hb
  go_wp2_with fail
  go_ret
  exact ⟨ret_int (by rfl), HB.out⟩
set_option maxHeartbeats 400000 in
theorem spec_StripMany_no (A : Option Addr) (cap : Nat) (xs : List Int) (s : ByteArray) (w : World) (h : Ints w A xs) (hl : xs.length ≤ maxLen) (hs : s.size ≤ maxLen) (hr : svB xs s.data.toList = false) :
    Calls Tryz.prog 10 #[.slice A xs.length cap, .string s] w fun e w' => e = .returned (.int .i64 (-1)) ∧ w = w' := by
  have HV := Lib.hid (spec_StripValidS A cap xs s w h hl hs)
  rw [hr] at HV
  clear hr
  go_enter Tryz.func10, Tryz.ntmps10
  go_wp2_with fail
  refine HV.out.mono ?_
  rintro e w' ⟨rfl, rfl⟩
  go_wp2_with fail
  go_ret
  exact ⟨rfl, rfl⟩
end Go.Proofs.YtkdlipbegdiaaaaGreatDoor
namespace Go.Proofs.YtkdlipbegdiaaaaGreatDoor
theorem ordChk7 : ordChk 7 = true := by decide +kernel
theorem ord_seven {n : Nat} (h1 : 1 ≤ n) (h7 : n ≤ 7) : ∀ L, L ∈ genO n n [] → OrdF n L := by
  by_cases h : n ≤ 6
  · exact ord_six h1 h
  · obtain rfl : n = 7 := by omega
    exact ordF_of ordChk7
end Go.Proofs.YtkdlipbegdiaaaaGreatDoor
