/- PatternFirst, the program's and the reference's; the law's walk. No condition but sizes. -/
import Derived.Test.YtmadagkdgpohiaaPatO
import Derived.Test.YtmadagkdgpohiaaLawPat
namespace Go.Proofs.Ytmadagkdgpohiaa
open Go.RowKit

/-- PatternFirst: the rank of the first text -/
def pfo (vs : List Vx) : Option Nat := if patB vs then fstP (rankB vs (ncr vs).toNat) 0 (2 ^ (ncr vs).toNat) else none
def pfT (vs : List Vx) : ByteArray := match pfo vs with | some k => txt (ncr vs).toNat k | none => ByteArray.empty

set_option maxHeartbeats 1000000 in
theorem impl_PatternFirst (A : Option Addr) (cap : Nat) (vs : List Vx) (w : World) (h : Verts w A vs) (hl : vs.length ≤ maxLen) (hcap : vs.length ≤ cap) (hcm : cap ≤ maxLen) :
    Calls Try.prog 35 #[.slice A vs.length cap] w fun e w' => e = .returned (.tuple #[.string (pfT vs), .bool (pfo vs).isSome]) ∧ Below w.heap.size w w' := by
  cases hp : patB vs with
  | false =>
    have hc : pcI vs = -1 := by unfold pcI; rw [hp]; rfl
    have hfin : pfo vs = none := by unfold pfo; rw [hp]; rfl
    have HC := Lib.hid hc
    have HF := Lib.hid hfin
    clear hp hc hfin
    go_enter Try.func35, Try.ntmps35
    go_wp2_with fail
    refine (impl_PatternCreases A cap vs w h hl).mono ?_
    rintro e w1 ⟨rfl, hb1⟩
    rw [HC.out]
    go_wp2_with fail
    go_ret2
    exact ⟨by unfold pfT; rw [HF.out]; rfl, hb1⟩
  | true =>
    obtain ⟨n, hn, hn10, hc⟩ := pat_n hp
    obtain ⟨P, hPe⟩ : ∃ P, P = 2 ^ n := ⟨_, rfl⟩
    have hP : P ≤ 1024 := hPe ▸ pow_le_1024 hn10
    have hwr : wrap64 (2 ^ n) = (P : Int) := wrap_pow hPe hP
    have hfin : pfo vs = fstP (rankB vs n) 0 (P - 0) := by unfold pfo; rw [hp, if_pos rfl, hn, hPe]; rfl
    have hpt : pfT vs = match pfo vs with | some k => txt n k | none => ByteArray.empty := by unfold pfT; rw [hn]; rfl
    have HPT := Lib.hid hpt
    clear hpt
    have hfold : ∀ (k : Nat) (W : World), Below w.heap.size w W → Calls Try.prog 33 #[.slice A vs.length cap, .string (txt n k)] W fun e w' => e = .returned (.bool (rankB vs n k)) ∧ Below W.heap.size W w' := fun k W hW => by
      rw [← pfB_txt hp hn k]; exact impl_PatternFolds A cap vs (txt n k) W (h.below hW) hl (by rw [txt_size]; unfold maxLen; omega) hcap hcm
    have HC := Lib.hid hc
    have HF := Lib.hid hfin
    have HFold := Lib.hid hfold
    clear hp hc hfin hfold hn hPe
    go_enter Try.func35, Try.ntmps35
    go_wp2_with fail
    refine (impl_PatternCreases A cap vs w h hl).mono ?_
    rintro e w1 ⟨rfl, hb1⟩
    rw [HC.out]
    go_wp2_with fail
    go_loopg [5, 6] (P + 1) (fun g s5 s6 wr => ∃ (k : Nat), s6 = s6 ∧ k ≤ P ∧ s5 = .int .i64 k ∧ Hid (pfo vs = fstP (rankB vs n) k (P - k)) ∧ P - k < g ∧ Below w.heap.size w wr)
    case atStart => exact ⟨0, rfl, Nat.zero_le _, rfl, HF, by omega, hb1⟩
    case round =>
      obtain ⟨k, _, hk, rfl, HCn, hg, hbel⟩ := hrel
      have hsz := hbel.size
      cases gk with
      | zero => omega
      | succ g =>
      by_cases hlt : k < P
      · go_wp2_with fail
        refine (impl_foldsOfNumber n k wr (by omega) (by omega)).mono ?_
        rintro e w1 ⟨rfl, hb1⟩
        have hbel1 := hbel.trans (hb1.mono hsz)
        have hsz1 := hbel1.size
        clear hb1
        go_wp2_with fail
        refine (HFold.out k w1 hbel1).mono ?_
        rintro e w2 ⟨rfl, hb2⟩
        have hbel2 := hbel1.trans (hb2.mono hsz1)
        cases hvf : rankB vs n k with
        | true =>
          have hc1 : pfo vs = some k := by rw [HCn.out, fstP_step _ k P hlt, hvf, if_pos rfl]
          have HC1 := Lib.hid hc1
          clear hvf hc1 hb2 hbel hbel1
          go_wp2_with fail
          go_ret2
          exact ⟨by rw [HPT.out, HC1.out]; rfl, hbel2⟩
        | false =>
          have hc1 : pfo vs = fstP (rankB vs n) (k + 1) (P - (k + 1)) := by rw [HCn.out, fstP_step _ k P hlt, hvf, if_neg (by decide)]
          have HC1 := Lib.hid hc1
          clear hvf hc1 hb2 hbel hbel1
          go_wp2_with fail
          go_roundg g
          case measure => omega
          case rel => exact ⟨k + 1, by trivial, by omega, by go_num, HC1, by omega, hbel2⟩
      · obtain rfl : k = P := by omega
        have hc1 : pfo vs = none := by rw [HCn.out, Nat.sub_self]; rfl
        have HC1 := Lib.hid hc1
        clear hc1
        go_wp2_with fail
        go_ret2
        exact ⟨by unfold pfT; rw [HC1.out]; rfl, hbel⟩
set_option maxHeartbeats 1000000 in
theorem spec_PatternFirst (A : Option Addr) (cap : Nat) (vs : List Vx) (w : World) (h : Verts w A vs) (hl : vs.length ≤ maxLen) :
    Calls Try.prog 34 #[.slice A vs.length cap] w fun e w' => e = .returned (.tuple #[.string (pfT vs), .bool (pfo vs).isSome]) ∧ Below w.heap.size w w' := by
  cases hp : patB vs with
  | false =>
    have hfin : pfo vs = none := by unfold pfo; rw [hp]; rfl
    have HF := Lib.hid hfin
    have HP := Lib.hid hp
    clear hp hfin
    go_enter Try.func34, Try.ntmps34
    go_wp2_with fail
    refine (spec_PatternValid A cap vs w h hl).mono ?_
    rintro e w1 ⟨rfl, hb1⟩
    rw [HP.out]
    go_wp2_with fail
    go_ret2
    exact ⟨by unfold pfT; rw [HF.out]; rfl, hb1⟩
  | true =>
    obtain ⟨n, hn, hn10, hc⟩ := pat_n hp
    obtain ⟨h1, h3, hall, _, _, _⟩ := patB_parts hp
    have hvx : ∀ v ∈ vs, v.2.length ≤ 1000000 ∧ ∀ x ∈ v.2, 0 ≤ x ∧ x ≤ 9 := fun v hv => by
      rw [List.all_eq_true] at hall
      have := vtxB_bd (hall v hv)
      exact ⟨by omega, this.2.2.2.2⟩
    have hcr : ∀ W : World, Below w.heap.size w W → Calls Try.prog 41 #[.slice A vs.length cap] W fun e w' => e = .returned (.int .i64 (n : Int)) ∧ W = w' := fun W hW => by
      rw [← hn]; exact spec_l6pCreases A cap vs W (h.below hW) (by omega) hvx
    obtain ⟨P, hPe⟩ : ∃ P, P = 2 ^ n := ⟨_, rfl⟩
    have hP : P ≤ 1024 := hPe ▸ pow_le_1024 hn10
    have hfin : pfo vs = fstP (rankB vs n) 0 (P - 0) := by unfold pfo; rw [hp, if_pos rfl, hn, hPe]; rfl
    have hpt : pfT vs = match pfo vs with | some k => txt n k | none => ByteArray.empty := by unfold pfT; rw [hn]; rfl
    have HPT := Lib.hid hpt
    clear hpt
    have hfold : ∀ (k : Nat) (W : World), Below w.heap.size w W → Calls Try.prog 56 #[.slice A vs.length cap, .string (txt n k)] W fun e w' => e = .returned (.bool (rankB vs n k)) ∧ Below W.heap.size W w' := fun k W hW =>
      spec_l6pFolds A cap vs (txt n k) W (h.below hW) (by omega) (pat_vok hp hn k) (by rw [txt_size]; omega)
    have HP := Lib.hid hp
    have HPe := Lib.hid hPe
    have HCR := Lib.hid hcr
    have HF := Lib.hid hfin
    have HFold := Lib.hid hfold
    clear hp hc hfin hfold hn hPe hcr hvx hall h1 h3
    go_enter Try.func34, Try.ntmps34
    go_wp2_with fail
    refine (spec_PatternValid A cap vs w h hl).mono ?_
    rintro e w1 ⟨rfl, hb1⟩
    rw [HP.out]
    go_wp2_with fail
    refine (HCR.out w1 hb1).mono ?_
    rintro e w' ⟨rfl, rfl⟩
    go_wp2_with fail
    go_loopg [5] (P + 1) (fun g s5 wr => ∃ (k : Nat), k ≤ P ∧ s5 = .int .i64 k ∧ Hid (pfo vs = fstP (rankB vs n) k (P - k)) ∧ P - k < g ∧ Below w.heap.size w wr)
    case atStart => exact ⟨0, Nat.zero_le _, rfl, HF, by omega, hb1⟩
    case round =>
      obtain ⟨k, hk, rfl, HCn, hg, hbel⟩ := hrel
      have hsz := hbel.size
      cases gk with
      | zero => omega
      | succ g =>
      go_wp2_with fail
      refine (spec_l1Power n wr (by omega)).mono ?_
      rintro e w1 ⟨rfl, rfl⟩
      rw [← HPe.out]
      by_cases hlt : k < P
      · go_wp2_with fail
        refine (spec_l1Text n k wr (by omega) (by omega)).mono ?_
        rintro e w1 ⟨rfl, rfl⟩
        go_wp2_with fail
        refine (HFold.out k wr hbel).mono ?_
        rintro e w2 ⟨rfl, hb2⟩
        have hbel2 := hbel.trans (hb2.mono hsz)
        cases hvf : rankB vs n k with
        | true =>
          have hc1 : pfo vs = some k := by rw [HCn.out, fstP_step _ k P hlt, hvf, if_pos rfl]
          have HC1 := Lib.hid hc1
          clear hvf hc1 hb2 hbel
          go_wp2_with fail
          refine (spec_l1Text n k w2 (by omega) (by omega)).mono ?_
          rintro e w1 ⟨rfl, rfl⟩
          go_wp2_with fail
          go_ret2
          exact ⟨by rw [HPT.out, HC1.out]; rfl, hbel2⟩
        | false =>
          have hc1 : pfo vs = fstP (rankB vs n) (k + 1) (P - (k + 1)) := by rw [HCn.out, fstP_step _ k P hlt, hvf, if_neg (by decide)]
          have HC1 := Lib.hid hc1
          clear hvf hc1 hb2 hbel
          go_wp2_with fail
          go_roundg g
          case measure => omega
          case rel => exact ⟨k + 1, by omega, by go_num, HC1, by omega, hbel2⟩
      · obtain rfl : k = P := by omega
        have hc1 : pfo vs = none := by rw [HCn.out, Nat.sub_self]; rfl
        have HC1 := Lib.hid hc1
        clear hc1
        go_wp2_with fail
        go_ret2
        exact ⟨by unfold pfT; rw [HC1.out]; rfl, hbel⟩
end Go.Proofs.Ytmadagkdgpohiaa
