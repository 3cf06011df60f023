/- PatternMany, the program's and the reference's. No condition but sizes. -/
import Derived.Test.YtnccpifdajcejaaPatN
import Derived.Test.YtnccpifdajcejaaVMany
namespace Go.Proofs.Ytnccpifdajcejaa
open Go.RowKit

theorem txtL_mv (n k : Nat) : (txtL n k).all mvB = true := by
  induction n with
  | zero => rfl
  | succ n ih =>
    rw [txtL, List.all_cons, ih, Bool.and_true]
    unfold bitL
    split <;> rfl
theorem fvB_txt (n k : Nat) : fvB (txt n k).data.toList (n : Int) = true := by
  show fvB (txtL n k).toArray.toList (n : Int) = true
  unfold fvB
  rw [List.toList_toArray, txtL_mv, txtL_len]
  simp
/-- the text with a rank folds each vertex -/
def rankB (vs : List Vx) (n k : Nat) : Bool := vs.all (vfT (txt n k))
theorem pfB_txt {vs : List Vx} {n : Nat} (hp : patB vs = true) (hn : ncr vs = (n : Int)) (k : Nat) : pfB vs (txt n k) = rankB vs n k := by
  unfold pfB rankB
  rw [hp, hn, fvB_txt]; rfl
def cntP (p : Nat → Bool) : Nat → Nat
  | 0 => 0
  | m + 1 => cntP p m + (if p m then 1 else 0)
def fstP (p : Nat → Bool) : Nat → Nat → Option Nat
  | _, 0 => none
  | k, g + 1 => if p k then some k else fstP p (k + 1) g
theorem fstP_step (p : Nat → Bool) (k P : Nat) (h : k < P) : fstP p k (P - k) = if p k then some k else fstP p (k + 1) (P - (k + 1)) := by
  rw [show P - k = (P - (k + 1)) + 1 from by omega]; rfl
/-- PatternMany -/
def pmI (vs : List Vx) : Int := if patB vs then (cntP (rankB vs (ncr vs).toNat) (2 ^ (ncr vs).toNat) : Int) else -1
theorem pat_n {vs : List Vx} (hp : patB vs = true) : ∃ n : Nat, ncr vs = (n : Int) ∧ n ≤ 10 ∧ pcI vs = (n : Int) := by
  obtain ⟨_, _, _, _, n0, n10⟩ := patB_parts hp
  refine ⟨(ncr vs).toNat, by omega, by omega, ?_⟩
  unfold pcI; rw [hp, if_pos rfl]; omega
theorem pat_vok {vs : List Vx} {n : Nat} (hp : patB vs = true) (hn : ncr vs = (n : Int)) (k : Nat) : ∀ v ∈ vs, VOk (txt n k) v :=
  (pat_ok (s := txt n k) hp (by rw [hn]; exact fvB_txt n k)).2

set_option maxHeartbeats 1000000 in
theorem impl_PatternMany (A : Option Addr) (cap : Nat) (vs : List Vx) (w : World) (h : Verts w A vs) (hl : vs.length ≤ maxLen) (hcap : vs.length ≤ cap) (hcm : cap ≤ maxLen) :
    Calls Try.prog 28 #[.slice A vs.length cap] w fun e w' => e = .returned (.int .i64 (pmI vs)) ∧ Below w.heap.size w w' := by
  cases hp : patB vs with
  | false =>
    have hc : pcI vs = -1 := by unfold pcI; rw [hp]; rfl
    have hfin : pmI vs = -1 := by unfold pmI; rw [hp]; rfl
    have HC := Lib.hid hc
    have HF := Lib.hid hfin
    clear hp hc hfin
    go_enter Try.func28, Try.ntmps28
    go_wp2_with fail
    refine (impl_PatternCreases A cap vs w h hl).mono ?_
    rintro e w1 ⟨rfl, hb1⟩
    rw [HC.out]
    go_wp2_with fail
    go_ret
    exact ⟨ret_int HF.out.symm, hb1⟩
  | true =>
    obtain ⟨n, hn, hn10, hc⟩ := pat_n hp
    obtain ⟨P, hPe⟩ : ∃ P, P = 2 ^ n := ⟨_, rfl⟩
    have hP : P ≤ 1024 := hPe ▸ pow_le_1024 hn10
    have hwr : wrap64 (2 ^ n) = (P : Int) := wrap_pow hPe hP
    have hfin : pmI vs = (cntP (rankB vs n) P : Int) := by unfold pmI; rw [hp, if_pos rfl, hn, hPe]; rfl
    have hfold : ∀ (k : Nat) (W : World), Below w.heap.size w W → Calls Try.prog 34 #[.slice A vs.length cap, .string (txt n k)] W fun e w' => e = .returned (.bool (rankB vs n k)) ∧ Below W.heap.size W w' := fun k W hW => by
      rw [← pfB_txt hp hn k]; exact impl_PatternFolds A cap vs (txt n k) W (h.below hW) hl (by rw [txt_size]; unfold maxLen; omega) hcap hcm
    have HC := Lib.hid hc
    have HF := Lib.hid hfin
    have HFold := Lib.hid hfold
    clear hp hc hfin hfold hn hPe
    go_enter Try.func28, Try.ntmps28
    go_wp2_with fail
    refine (impl_PatternCreases A cap vs w h hl).mono ?_
    rintro e w1 ⟨rfl, hb1⟩
    rw [HC.out]
    go_wp2_with fail
    go_loopg [4, 5] (P + 1) (fun g s4 s5 wr => ∃ (k c : Nat), k ≤ P ∧ s5 = .int .i64 k ∧ s4 = .int .i64 c ∧ c ≤ k ∧ Hid (c = cntP (rankB vs n) k) ∧ P - k < g ∧ Below w.heap.size w wr)
    case atStart => exact ⟨0, 0, Nat.zero_le _, rfl, rfl, Nat.le_refl _, rfl, by omega, hb1⟩
    case round =>
      obtain ⟨k, c, hk, rfl, rfl, hck, HCn, hg, hbel⟩ := hrel
      have hsz := hbel.size
      cases gk with
      | zero => omega
      | succ g =>
      by_cases hlt : k < P
      · go_wp2_with fail
        refine (impl_foldsOfNumber n k wr (by omega) (by omega)).mono ?_
        rintro e w1 ⟨rfl, hb1⟩
        have hbel1 := hbel.trans (hb1.mono hsz)
        have hsz1 := hbel1.size
        clear hb1
        go_wp2_with fail
        refine (HFold.out k w1 hbel1).mono ?_
        rintro e w2 ⟨rfl, hb2⟩
        have hbel2 := hbel1.trans (hb2.mono hsz1)
        cases hvf : rankB vs n k with
        | true =>
          have hc1 : c + 1 = cntP (rankB vs n) (k + 1) := by show _ = cntP (rankB vs n) k + _; rw [hvf, ← HCn.out]; rfl
          have HC1 := Lib.hid hc1
          clear hvf hc1 hb2 hbel hbel1
          go_wp2_with fail
          go_roundg g
          case measure => omega
          case rel => exact ⟨k + 1, c + 1, by omega, by go_num, by go_num, by omega, HC1, by omega, hbel2⟩
        | false =>
          have hc1 : c = cntP (rankB vs n) (k + 1) := by show _ = cntP (rankB vs n) k + _; rw [hvf, ← HCn.out]; rfl
          have HC1 := Lib.hid hc1
          clear hvf hc1 hb2 hbel hbel1
          go_wp2_with fail
          go_roundg g
          case measure => omega
          case rel => exact ⟨k + 1, c, by omega, by go_num, rfl, by omega, HC1, by omega, hbel2⟩
      · obtain rfl : k = P := by omega
        go_wp2_with fail
        go_ret
        exact ⟨ret_int (by rw [HF.out, ← HCn.out]), hbel⟩
set_option maxHeartbeats 1000000 in
theorem spec_PatternMany (A : Option Addr) (cap : Nat) (vs : List Vx) (w : World) (h : Verts w A vs) (hl : vs.length ≤ maxLen) :
    Calls Try.prog 30 #[.slice A vs.length cap] w fun e w' => e = .returned (.int .i64 (pmI vs)) ∧ Below w.heap.size w w' := by
  cases hp : patB vs with
  | false =>
    have hfin : pmI vs = -1 := by unfold pmI; rw [hp]; rfl
    have HF := Lib.hid hfin
    have HP := Lib.hid hp
    clear hp hfin
    go_enter Try.func30, Try.ntmps30
    go_wp2_with fail
    refine (spec_PatternValid A cap vs w h hl).mono ?_
    rintro e w1 ⟨rfl, hb1⟩
    rw [HP.out]
    go_wp2_with fail
    go_ret
    exact ⟨ret_int HF.out.symm, hb1⟩
  | true =>
    obtain ⟨n, hn, hn10, hc⟩ := pat_n hp
    obtain ⟨h1, h3, hall, _, _, _⟩ := patB_parts hp
    have hvx : ∀ v ∈ vs, v.2.length ≤ 1000000 ∧ ∀ x ∈ v.2, 0 ≤ x ∧ x ≤ 9 := fun v hv => by
      rw [List.all_eq_true] at hall
      have := vtxB_bd (hall v hv)
      exact ⟨by omega, this.2.2.2.2⟩
    have hcr : ∀ W : World, Below w.heap.size w W → Calls Try.prog 51 #[.slice A vs.length cap] W fun e w' => e = .returned (.int .i64 (n : Int)) ∧ W = w' := fun W hW => by
      rw [← hn]; exact spec_l6pCreases A cap vs W (h.below hW) (by omega) hvx
    obtain ⟨P, hPe⟩ : ∃ P, P = 2 ^ n := ⟨_, rfl⟩
    have hP : P ≤ 1024 := hPe ▸ pow_le_1024 hn10
    have hfin : pmI vs = (cntP (rankB vs n) P : Int) := by unfold pmI; rw [hp, if_pos rfl, hn, hPe]; rfl
    have hfold : ∀ (k : Nat) (W : World), Below w.heap.size w W → Calls Try.prog 59 #[.slice A vs.length cap, .string (txt n k)] W fun e w' => e = .returned (.bool (rankB vs n k)) ∧ Below W.heap.size W w' := fun k W hW =>
      spec_l6pFolds A cap vs (txt n k) W (h.below hW) (by omega) (pat_vok hp hn k) (by rw [txt_size]; omega)
    have HP := Lib.hid hp
    have HPe := Lib.hid hPe
    have HCR := Lib.hid hcr
    have HF := Lib.hid hfin
    have HFold := Lib.hid hfold
    clear hp hc hfin hfold hn hPe hcr hvx hall h1 h3
    go_enter Try.func30, Try.ntmps30
    go_wp2_with fail
    refine (spec_PatternValid A cap vs w h hl).mono ?_
    rintro e w1 ⟨rfl, hb1⟩
    rw [HP.out]
    go_wp2_with fail
    refine (HCR.out w1 hb1).mono ?_
    rintro e w' ⟨rfl, rfl⟩
    go_wp2_with fail
    go_loopg [3, 5] (P + 1) (fun g s4 s5 wr => ∃ (k c : Nat), k ≤ P ∧ s5 = .int .i64 k ∧ s4 = .int .i64 c ∧ c ≤ k ∧ Hid (c = cntP (rankB vs n) k) ∧ P - k < g ∧ Below w.heap.size w wr)
    case atStart => exact ⟨0, 0, Nat.zero_le _, rfl, rfl, Nat.le_refl _, rfl, by omega, hb1⟩
    case round =>
      obtain ⟨k, c, hk, rfl, rfl, hck, HCn, hg, hbel⟩ := hrel
      have hsz := hbel.size
      cases gk with
      | zero => omega
      | succ g =>
      go_wp2_with fail
      refine (spec_l1Power n wr (by omega)).mono ?_
      rintro e w1 ⟨rfl, rfl⟩
      rw [← HPe.out]
      by_cases hlt : k < P
      · go_wp2_with fail
        refine (spec_l1Text n k wr (by omega) (by omega)).mono ?_
        rintro e w1 ⟨rfl, rfl⟩
        go_wp2_with fail
        refine (HFold.out k wr hbel).mono ?_
        rintro e w2 ⟨rfl, hb2⟩
        have hbel2 := hbel.trans (hb2.mono hsz)
        cases hvf : rankB vs n k with
        | true =>
          have hc1 : c + 1 = cntP (rankB vs n) (k + 1) := by show _ = cntP (rankB vs n) k + _; rw [hvf, ← HCn.out]; rfl
          have HC1 := Lib.hid hc1
          clear hvf hc1 hb2 hbel
          go_wp2_with fail
          go_roundg g
          case measure => omega
          case rel => exact ⟨k + 1, c + 1, by omega, by go_num, by go_num, by omega, HC1, by omega, hbel2⟩
        | false =>
          have hc1 : c = cntP (rankB vs n) (k + 1) := by show _ = cntP (rankB vs n) k + _; rw [hvf, ← HCn.out]; rfl
          have HC1 := Lib.hid hc1
          clear hvf hc1 hb2 hbel
          go_wp2_with fail
          go_roundg g
          case measure => omega
          case rel => exact ⟨k + 1, c, by omega, by go_num, rfl, by omega, HC1, by omega, hbel2⟩
      · obtain rfl : k = P := by omega
        go_wp2_with fail
        go_ret
        exact ⟨ret_int (by rw [HF.out, ← HCn.out]), hbel⟩
end Go.Proofs.Ytnccpifdajcejaa
