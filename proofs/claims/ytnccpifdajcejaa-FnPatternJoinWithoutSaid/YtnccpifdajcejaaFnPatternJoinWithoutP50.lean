/- PatternMany, the program's and the reference's. No condition but sizes. The laws that the program's PatternValid and PatternCreases are the reference's: the walks of the laws themselves. No condition but sizes. PatternFirst, the program's and the reference's; the law's walk. No condition but sizes. A pattern's folds counted by its vertices. No program, no condition. -/
import Derived.Test.YtnccpifdajcejaaFnPatternJoinWithoutP47
import Derived.Test.YtnccpifdajcejaaFnPatternJoinWithoutP48
import Derived.Test.YtnccpifdajcejaaPatK
import Derived.Test.YtnccpifdajcejaaFnPatternJoinWithoutP41
import Derived.Test.YtnccpifdajcejaaFnPatternJoinWithoutP49
namespace Go.Proofs.Ytnccpifdajcejaa
open Go.RowKit

theorem txtL_mv (n k : Nat) : (txtL n k).all mvB = true := by
  induction n with
  | zero => rfl
  | succ n ih =>
    rw [txtL, List.all_cons, ih, Bool.and_true]
    unfold bitL
    split <;> rfl
theorem fvB_txt (n k : Nat) : fvB (txt n k).data.toList (n : Int) = true := by
  show fvB (txtL n k).toArray.toList (n : Int) = true
  unfold fvB
  rw [List.toList_toArray, txtL_mv, txtL_len]
  simp
/-- the text with a rank folds each vertex -/
def rankB (vs : List Vx) (n k : Nat) : Bool := vs.all (vfT (txt n k))
theorem pfB_txt {vs : List Vx} {n : Nat} (hp : patB vs = true) (hn : ncr vs = (n : Int)) (k : Nat) : pfB vs (txt n k) = rankB vs n k := by
  unfold pfB rankB
  rw [hp, hn, fvB_txt]; rfl
def cntP (p : Nat → Bool) : Nat → Nat
  | 0 => 0
  | m + 1 => cntP p m + (if p m then 1 else 0)
def fstP (p : Nat → Bool) : Nat → Nat → Option Nat
  | _, 0 => none
  | k, g + 1 => if p k then some k else fstP p (k + 1) g
theorem fstP_step (p : Nat → Bool) (k P : Nat) (h : k < P) : fstP p k (P - k) = if p k then some k else fstP p (k + 1) (P - (k + 1)) := by
  rw [show P - k = (P - (k + 1)) + 1 from by omega]; rfl
/-- PatternMany -/
def pmI (vs : List Vx) : Int := if patB vs then (cntP (rankB vs (ncr vs).toNat) (2 ^ (ncr vs).toNat) : Int) else -1
theorem pat_n {vs : List Vx} (hp : patB vs = true) : ∃ n : Nat, ncr vs = (n : Int) ∧ n ≤ 10 ∧ pcI vs = (n : Int) := by
  obtain ⟨_, _, _, _, n0, n10⟩ := patB_parts hp
  refine ⟨(ncr vs).toNat, by omega, by omega, ?_⟩
  unfold pcI; rw [hp, if_pos rfl]; omega
theorem pat_vok {vs : List Vx} {n : Nat} (hp : patB vs = true) (hn : ncr vs = (n : Int)) (k : Nat) : ∀ v ∈ vs, VOk (txt n k) v :=
  (pat_ok (s := txt n k) hp (by rw [hn]; exact fvB_txt n k)).2

set_option maxHeartbeats 1000000 in
theorem impl_PatternMany (A : Option Addr) (cap : Nat) (vs : List Vx) (w : World) (h : Verts w A vs) (hl : vs.length ≤ maxLen) (hcap : vs.length ≤ cap) (hcm : cap ≤ maxLen) :
    Calls Try.prog 28 #[.slice A vs.length cap] w fun e w' => e = .returned (.int .i64 (pmI vs)) ∧ Below w.heap.size w w' := by
  cases hp : patB vs with
  | false =>
    have hc : pcI vs = -1 := by unfold pcI; rw [hp]; rfl
    have hfin : pmI vs = -1 := by unfold pmI; rw [hp]; rfl
    have HC := Lib.hid hc
    have HF := Lib.hid hfin
    clear hp hc hfin
    go_enter Try.func28, Try.ntmps28
    go_wp2_with fail
    refine (impl_PatternCreases A cap vs w h hl).mono ?_
    rintro e w1 ⟨rfl, hb1⟩
    rw [HC.out]
    go_wp2_with fail
    go_ret
    exact ⟨ret_int HF.out.symm, hb1⟩
  | true =>
    obtain ⟨n, hn, hn10, hc⟩ := pat_n hp
    obtain ⟨P, hPe⟩ : ∃ P, P = 2 ^ n := ⟨_, rfl⟩
    have hP : P ≤ 1024 := hPe ▸ pow_le_1024 hn10
    have hwr : wrap64 (2 ^ n) = (P : Int) := wrap_pow hPe hP
    have hfin : pmI vs = (cntP (rankB vs n) P : Int) := by unfold pmI; rw [hp, if_pos rfl, hn, hPe]; rfl
    have hfold : ∀ (k : Nat) (W : World), Below w.heap.size w W → Calls Try.prog 34 #[.slice A vs.length cap, .string (txt n k)] W fun e w' => e = .returned (.bool (rankB vs n k)) ∧ Below W.heap.size W w' := fun k W hW => by
      rw [← pfB_txt hp hn k]; exact impl_PatternFolds A cap vs (txt n k) W (h.below hW) hl (by rw [txt_size]; unfold maxLen; omega) hcap hcm
    have HC := Lib.hid hc
    have HF := Lib.hid hfin
    have HFold := Lib.hid hfold
    clear hp hc hfin hfold hn hPe
    go_enter Try.func28, Try.ntmps28
    go_wp2_with fail
    refine (impl_PatternCreases A cap vs w h hl).mono ?_
    rintro e w1 ⟨rfl, hb1⟩
    rw [HC.out]
    go_wp2_with fail
    go_loopg [4, 5] (P + 1) (fun g s4 s5 wr => ∃ (k c : Nat), k ≤ P ∧ s5 = .int .i64 k ∧ s4 = .int .i64 c ∧ c ≤ k ∧ Hid (c = cntP (rankB vs n) k) ∧ P - k < g ∧ Below w.heap.size w wr)
    case atStart => exact ⟨0, 0, Nat.zero_le _, rfl, rfl, Nat.le_refl _, rfl, by omega, hb1⟩
    case round =>
      obtain ⟨k, c, hk, rfl, rfl, hck, HCn, hg, hbel⟩ := hrel
      have hsz := hbel.size
      cases gk with
      | zero => omega
      | succ g =>
      by_cases hlt : k < P
      · go_wp2_with fail
        refine (impl_foldsOfNumber n k wr (by omega) (by omega)).mono ?_
        rintro e w1 ⟨rfl, hb1⟩
        have hbel1 := hbel.trans (hb1.mono hsz)
        have hsz1 := hbel1.size
        clear hb1
        go_wp2_with fail
        refine (HFold.out k w1 hbel1).mono ?_
        rintro e w2 ⟨rfl, hb2⟩
        have hbel2 := hbel1.trans (hb2.mono hsz1)
        cases hvf : rankB vs n k with
        | true =>
          have hc1 : c + 1 = cntP (rankB vs n) (k + 1) := by show _ = cntP (rankB vs n) k + _; rw [hvf, ← HCn.out]; rfl
          have HC1 := Lib.hid hc1
          clear hvf hc1 hb2 hbel hbel1
          go_wp2_with fail
          go_roundg g
          case measure => omega
          case rel => exact ⟨k + 1, c + 1, by omega, by go_num, by go_num, by omega, HC1, by omega, hbel2⟩
        | false =>
          have hc1 : c = cntP (rankB vs n) (k + 1) := by show _ = cntP (rankB vs n) k + _; rw [hvf, ← HCn.out]; rfl
          have HC1 := Lib.hid hc1
          clear hvf hc1 hb2 hbel hbel1
          go_wp2_with fail
          go_roundg g
          case measure => omega
          case rel => exact ⟨k + 1, c, by omega, by go_num, rfl, by omega, HC1, by omega, hbel2⟩
      · obtain rfl : k = P := by omega
        go_wp2_with fail
        go_ret
        exact ⟨ret_int (by rw [HF.out, ← HCn.out]), hbel⟩
set_option maxHeartbeats 1000000 in
theorem spec_PatternMany (A : Option Addr) (cap : Nat) (vs : List Vx) (w : World) (h : Verts w A vs) (hl : vs.length ≤ maxLen) :
    Calls Try.prog 30 #[.slice A vs.length cap] w fun e w' => e = .returned (.int .i64 (pmI vs)) ∧ Below w.heap.size w w' := by
  cases hp : patB vs with
  | false =>
    have hfin : pmI vs = -1 := by unfold pmI; rw [hp]; rfl
    have HF := Lib.hid hfin
    have HP := Lib.hid hp
    clear hp hfin
    go_enter Try.func30, Try.ntmps30
    go_wp2_with fail
    refine (spec_PatternValid A cap vs w h hl).mono ?_
    rintro e w1 ⟨rfl, hb1⟩
    rw [HP.out]
    go_wp2_with fail
    go_ret
    exact ⟨ret_int HF.out.symm, hb1⟩
  | true =>
    obtain ⟨n, hn, hn10, hc⟩ := pat_n hp
    obtain ⟨h1, h3, hall, _, _, _⟩ := patB_parts hp
    have hvx : ∀ v ∈ vs, v.2.length ≤ 1000000 ∧ ∀ x ∈ v.2, 0 ≤ x ∧ x ≤ 9 := fun v hv => by
      rw [List.all_eq_true] at hall
      have := vtxB_bd (hall v hv)
      exact ⟨by omega, this.2.2.2.2⟩
    have hcr : ∀ W : World, Below w.heap.size w W → Calls Try.prog 51 #[.slice A vs.length cap] W fun e w' => e = .returned (.int .i64 (n : Int)) ∧ W = w' := fun W hW => by
      rw [← hn]; exact spec_l6pCreases A cap vs W (h.below hW) (by omega) hvx
    obtain ⟨P, hPe⟩ : ∃ P, P = 2 ^ n := ⟨_, rfl⟩
    have hP : P ≤ 1024 := hPe ▸ pow_le_1024 hn10
    have hfin : pmI vs = (cntP (rankB vs n) P : Int) := by unfold pmI; rw [hp, if_pos rfl, hn, hPe]; rfl
    have hfold : ∀ (k : Nat) (W : World), Below w.heap.size w W → Calls Try.prog 59 #[.slice A vs.length cap, .string (txt n k)] W fun e w' => e = .returned (.bool (rankB vs n k)) ∧ Below W.heap.size W w' := fun k W hW =>
      spec_l6pFolds A cap vs (txt n k) W (h.below hW) (by omega) (pat_vok hp hn k) (by rw [txt_size]; omega)
    have HP := Lib.hid hp
    have HPe := Lib.hid hPe
    have HCR := Lib.hid hcr
    have HF := Lib.hid hfin
    have HFold := Lib.hid hfold
    clear hp hc hfin hfold hn hPe hcr hvx hall h1 h3
    go_enter Try.func30, Try.ntmps30
    go_wp2_with fail
    refine (spec_PatternValid A cap vs w h hl).mono ?_
    rintro e w1 ⟨rfl, hb1⟩
    rw [HP.out]
    go_wp2_with fail
    refine (HCR.out w1 hb1).mono ?_
    rintro e w' ⟨rfl, rfl⟩
    go_wp2_with fail
    go_loopg [3, 5] (P + 1) (fun g s4 s5 wr => ∃ (k c : Nat), k ≤ P ∧ s5 = .int .i64 k ∧ s4 = .int .i64 c ∧ c ≤ k ∧ Hid (c = cntP (rankB vs n) k) ∧ P - k < g ∧ Below w.heap.size w wr)
    case atStart => exact ⟨0, 0, Nat.zero_le _, rfl, rfl, Nat.le_refl _, rfl, by omega, hb1⟩
    case round =>
      obtain ⟨k, c, hk, rfl, rfl, hck, HCn, hg, hbel⟩ := hrel
      have hsz := hbel.size
      cases gk with
      | zero => omega
      | succ g =>
      go_wp2_with fail
      refine (spec_l1Power n wr (by omega)).mono ?_
      rintro e w1 ⟨rfl, rfl⟩
      rw [← HPe.out]
      by_cases hlt : k < P
      · go_wp2_with fail
        refine (spec_l1Text n k wr (by omega) (by omega)).mono ?_
        rintro e w1 ⟨rfl, rfl⟩
        go_wp2_with fail
        refine (HFold.out k wr hbel).mono ?_
        rintro e w2 ⟨rfl, hb2⟩
        have hbel2 := hbel.trans (hb2.mono hsz)
        cases hvf : rankB vs n k with
        | true =>
          have hc1 : c + 1 = cntP (rankB vs n) (k + 1) := by show _ = cntP (rankB vs n) k + _; rw [hvf, ← HCn.out]; rfl
          have HC1 := Lib.hid hc1
          clear hvf hc1 hb2 hbel
          go_wp2_with fail
          go_roundg g
          case measure => omega
          case rel => exact ⟨k + 1, c + 1, by omega, by go_num, by go_num, by omega, HC1, by omega, hbel2⟩
        | false =>
          have hc1 : c = cntP (rankB vs n) (k + 1) := by show _ = cntP (rankB vs n) k + _; rw [hvf, ← HCn.out]; rfl
          have HC1 := Lib.hid hc1
          clear hvf hc1 hb2 hbel
          go_wp2_with fail
          go_roundg g
          case measure => omega
          case rel => exact ⟨k + 1, c, by omega, by go_num, rfl, by omega, HC1, by omega, hbel2⟩
      · obtain rfl : k = P := by omega
        go_wp2_with fail
        go_ret
        exact ⟨ret_int (by rw [HF.out, ← HCn.out]), hbel⟩
end Go.Proofs.Ytnccpifdajcejaa
namespace Go.Proofs.Ytnccpifdajcejaa
open Go.RowKit

theorem szB_ok {xs : List Int} {left : Int} (h : 0 ≤ szB xs left) : (xs.length : Int) ≤ left ∧ szB xs left = left - xs.length := by
  unfold szB at h ⊢
  by_cases e : left - xs.length < 0
  · rw [if_pos e] at h; omega
  · rw [if_neg e]; omega
theorem szV_ok {v : Vx} {left : Int} (h : 0 ≤ szV v left) : (v.1.length : Int) ≤ left ∧ (v.2.length : Int) ≤ left ∧ szV v left ≤ left := by
  unfold szV at h ⊢
  by_cases e : szB v.1 left < 0
  · rw [if_pos e] at h; omega
  · rw [if_neg e] at h ⊢
    have h1 := szB_ok (by omega : 0 ≤ szB v.1 left)
    have h2 := szB_ok h
    omega
theorem szGo_ok {vs : List Vx} {left : Int} (h : 0 ≤ szGo vs left) : ∀ v ∈ vs, (v.1.length : Int) ≤ left ∧ (v.2.length : Int) ≤ left := by
  induction vs generalizing left with
  | nil => intro v hv; cases hv
  | cons v r ih =>
    rw [szGo] at h
    by_cases e : szV v left < 0
    · rw [if_pos e] at h; omega
    · rw [if_neg e] at h
      have h1 := szV_ok (by omega : 0 ≤ szV v left)
      intro u hu
      rcases List.mem_cons.1 hu with rfl | hu
      · exact ⟨h1.1, h1.2.1⟩
      · have := ih h u hu
        omega
theorem szL_ok {vs : List Vx} (h : 0 ≤ szL vs 1048576) : vs.length ≤ 1048576 ∧ ∀ v ∈ vs, v.1.length ≤ 1048576 ∧ v.2.length ≤ 1048576 := by
  unfold szL at h
  by_cases e : (1048576 : Int) - vs.length < 0
  · rw [if_pos e] at h; omega
  · rw [if_neg e] at h
    refine ⟨by omega, fun v hv => ?_⟩
    have := szGo_ok h v hv
    omega



end Go.Proofs.Ytnccpifdajcejaa
namespace Go.Proofs.Ytnccpifdajcejaa
open Go.RowKit

/-- PatternFirst: the rank of the first text -/
def pfo (vs : List Vx) : Option Nat := if patB vs then fstP (rankB vs (ncr vs).toNat) 0 (2 ^ (ncr vs).toNat) else none
def pfT (vs : List Vx) : ByteArray := match pfo vs with | some k => txt (ncr vs).toNat k | none => ByteArray.empty

set_option maxHeartbeats 1000000 in
theorem impl_PatternFirst (A : Option Addr) (cap : Nat) (vs : List Vx) (w : World) (h : Verts w A vs) (hl : vs.length ≤ maxLen) (hcap : vs.length ≤ cap) (hcm : cap ≤ maxLen) :
    Calls Try.prog 33 #[.slice A vs.length cap] w fun e w' => e = .returned (.tuple #[.string (pfT vs), .bool (pfo vs).isSome]) ∧ Below w.heap.size w w' := by
  cases hp : patB vs with
  | false =>
    have hc : pcI vs = -1 := by unfold pcI; rw [hp]; rfl
    have hfin : pfo vs = none := by unfold pfo; rw [hp]; rfl
    have HC := Lib.hid hc
    have HF := Lib.hid hfin
    clear hp hc hfin
    go_enter Try.func33, Try.ntmps33
    go_wp2_with fail
    refine (impl_PatternCreases A cap vs w h hl).mono ?_
    rintro e w1 ⟨rfl, hb1⟩
    rw [HC.out]
    go_wp2_with fail
    go_ret2
    exact ⟨by unfold pfT; rw [HF.out]; rfl, hb1⟩
  | true =>
    obtain ⟨n, hn, hn10, hc⟩ := pat_n hp
    obtain ⟨P, hPe⟩ : ∃ P, P = 2 ^ n := ⟨_, rfl⟩
    have hP : P ≤ 1024 := hPe ▸ pow_le_1024 hn10
    have hwr : wrap64 (2 ^ n) = (P : Int) := wrap_pow hPe hP
    have hfin : pfo vs = fstP (rankB vs n) 0 (P - 0) := by unfold pfo; rw [hp, if_pos rfl, hn, hPe]; rfl
    have hpt : pfT vs = match pfo vs with | some k => txt n k | none => ByteArray.empty := by unfold pfT; rw [hn]; rfl
    have HPT := Lib.hid hpt
    clear hpt
    have hfold : ∀ (k : Nat) (W : World), Below w.heap.size w W → Calls Try.prog 34 #[.slice A vs.length cap, .string (txt n k)] W fun e w' => e = .returned (.bool (rankB vs n k)) ∧ Below W.heap.size W w' := fun k W hW => by
      rw [← pfB_txt hp hn k]; exact impl_PatternFolds A cap vs (txt n k) W (h.below hW) hl (by rw [txt_size]; unfold maxLen; omega) hcap hcm
    have HC := Lib.hid hc
    have HF := Lib.hid hfin
    have HFold := Lib.hid hfold
    clear hp hc hfin hfold hn hPe
    go_enter Try.func33, Try.ntmps33
    go_wp2_with fail
    refine (impl_PatternCreases A cap vs w h hl).mono ?_
    rintro e w1 ⟨rfl, hb1⟩
    rw [HC.out]
    go_wp2_with fail
    go_loopg [5, 6] (P + 1) (fun g s5 s6 wr => ∃ (k : Nat), s6 = s6 ∧ k ≤ P ∧ s5 = .int .i64 k ∧ Hid (pfo vs = fstP (rankB vs n) k (P - k)) ∧ P - k < g ∧ Below w.heap.size w wr)
    case atStart => exact ⟨0, rfl, Nat.zero_le _, rfl, HF, by omega, hb1⟩
    case round =>
      obtain ⟨k, _, hk, rfl, HCn, hg, hbel⟩ := hrel
      have hsz := hbel.size
      cases gk with
      | zero => omega
      | succ g =>
      by_cases hlt : k < P
      · go_wp2_with fail
        refine (impl_foldsOfNumber n k wr (by omega) (by omega)).mono ?_
        rintro e w1 ⟨rfl, hb1⟩
        have hbel1 := hbel.trans (hb1.mono hsz)
        have hsz1 := hbel1.size
        clear hb1
        go_wp2_with fail
        refine (HFold.out k w1 hbel1).mono ?_
        rintro e w2 ⟨rfl, hb2⟩
        have hbel2 := hbel1.trans (hb2.mono hsz1)
        cases hvf : rankB vs n k with
        | true =>
          have hc1 : pfo vs = some k := by rw [HCn.out, fstP_step _ k P hlt, hvf, if_pos rfl]
          have HC1 := Lib.hid hc1
          clear hvf hc1 hb2 hbel hbel1
          go_wp2_with fail
          go_ret2
          exact ⟨by rw [HPT.out, HC1.out]; rfl, hbel2⟩
        | false =>
          have hc1 : pfo vs = fstP (rankB vs n) (k + 1) (P - (k + 1)) := by rw [HCn.out, fstP_step _ k P hlt, hvf, if_neg (by decide)]
          have HC1 := Lib.hid hc1
          clear hvf hc1 hb2 hbel hbel1
          go_wp2_with fail
          go_roundg g
          case measure => omega
          case rel => exact ⟨k + 1, by trivial, by omega, by go_num, HC1, by omega, hbel2⟩
      · obtain rfl : k = P := by omega
        have hc1 : pfo vs = none := by rw [HCn.out, Nat.sub_self]; rfl
        have HC1 := Lib.hid hc1
        clear hc1
        go_wp2_with fail
        go_ret2
        exact ⟨by unfold pfT; rw [HC1.out]; rfl, hbel⟩
set_option maxHeartbeats 1000000 in
theorem spec_PatternFirst (A : Option Addr) (cap : Nat) (vs : List Vx) (w : World) (h : Verts w A vs) (hl : vs.length ≤ maxLen) :
    Calls Try.prog 36 #[.slice A vs.length cap] w fun e w' => e = .returned (.tuple #[.string (pfT vs), .bool (pfo vs).isSome]) ∧ Below w.heap.size w w' := by
  cases hp : patB vs with
  | false =>
    have hfin : pfo vs = none := by unfold pfo; rw [hp]; rfl
    have HF := Lib.hid hfin
    have HP := Lib.hid hp
    clear hp hfin
    go_enter Try.func36, Try.ntmps36
    go_wp2_with fail
    refine (spec_PatternValid A cap vs w h hl).mono ?_
    rintro e w1 ⟨rfl, hb1⟩
    rw [HP.out]
    go_wp2_with fail
    go_ret2
    exact ⟨by unfold pfT; rw [HF.out]; rfl, hb1⟩
  | true =>
    obtain ⟨n, hn, hn10, hc⟩ := pat_n hp
    obtain ⟨h1, h3, hall, _, _, _⟩ := patB_parts hp
    have hvx : ∀ v ∈ vs, v.2.length ≤ 1000000 ∧ ∀ x ∈ v.2, 0 ≤ x ∧ x ≤ 9 := fun v hv => by
      rw [List.all_eq_true] at hall
      have := vtxB_bd (hall v hv)
      exact ⟨by omega, this.2.2.2.2⟩
    have hcr : ∀ W : World, Below w.heap.size w W → Calls Try.prog 51 #[.slice A vs.length cap] W fun e w' => e = .returned (.int .i64 (n : Int)) ∧ W = w' := fun W hW => by
      rw [← hn]; exact spec_l6pCreases A cap vs W (h.below hW) (by omega) hvx
    obtain ⟨P, hPe⟩ : ∃ P, P = 2 ^ n := ⟨_, rfl⟩
    have hP : P ≤ 1024 := hPe ▸ pow_le_1024 hn10
    have hfin : pfo vs = fstP (rankB vs n) 0 (P - 0) := by unfold pfo; rw [hp, if_pos rfl, hn, hPe]; rfl
    have hpt : pfT vs = match pfo vs with | some k => txt n k | none => ByteArray.empty := by unfold pfT; rw [hn]; rfl
    have HPT := Lib.hid hpt
    clear hpt
    have hfold : ∀ (k : Nat) (W : World), Below w.heap.size w W → Calls Try.prog 59 #[.slice A vs.length cap, .string (txt n k)] W fun e w' => e = .returned (.bool (rankB vs n k)) ∧ Below W.heap.size W w' := fun k W hW =>
      spec_l6pFolds A cap vs (txt n k) W (h.below hW) (by omega) (pat_vok hp hn k) (by rw [txt_size]; omega)
    have HP := Lib.hid hp
    have HPe := Lib.hid hPe
    have HCR := Lib.hid hcr
    have HF := Lib.hid hfin
    have HFold := Lib.hid hfold
    clear hp hc hfin hfold hn hPe hcr hvx hall h1 h3
    go_enter Try.func36, Try.ntmps36
    go_wp2_with fail
    refine (spec_PatternValid A cap vs w h hl).mono ?_
    rintro e w1 ⟨rfl, hb1⟩
    rw [HP.out]
    go_wp2_with fail
    refine (HCR.out w1 hb1).mono ?_
    rintro e w' ⟨rfl, rfl⟩
    go_wp2_with fail
    go_loopg [5] (P + 1) (fun g s5 wr => ∃ (k : Nat), k ≤ P ∧ s5 = .int .i64 k ∧ Hid (pfo vs = fstP (rankB vs n) k (P - k)) ∧ P - k < g ∧ Below w.heap.size w wr)
    case atStart => exact ⟨0, Nat.zero_le _, rfl, HF, by omega, hb1⟩
    case round =>
      obtain ⟨k, hk, rfl, HCn, hg, hbel⟩ := hrel
      have hsz := hbel.size
      cases gk with
      | zero => omega
      | succ g =>
      go_wp2_with fail
      refine (spec_l1Power n wr (by omega)).mono ?_
      rintro e w1 ⟨rfl, rfl⟩
      rw [← HPe.out]
      by_cases hlt : k < P
      · go_wp2_with fail
        refine (spec_l1Text n k wr (by omega) (by omega)).mono ?_
        rintro e w1 ⟨rfl, rfl⟩
        go_wp2_with fail
        refine (HFold.out k wr hbel).mono ?_
        rintro e w2 ⟨rfl, hb2⟩
        have hbel2 := hbel.trans (hb2.mono hsz)
        cases hvf : rankB vs n k with
        | true =>
          have hc1 : pfo vs = some k := by rw [HCn.out, fstP_step _ k P hlt, hvf, if_pos rfl]
          have HC1 := Lib.hid hc1
          clear hvf hc1 hb2 hbel
          go_wp2_with fail
          refine (spec_l1Text n k w2 (by omega) (by omega)).mono ?_
          rintro e w1 ⟨rfl, rfl⟩
          go_wp2_with fail
          go_ret2
          exact ⟨by rw [HPT.out, HC1.out]; rfl, hbel2⟩
        | false =>
          have hc1 : pfo vs = fstP (rankB vs n) (k + 1) (P - (k + 1)) := by rw [HCn.out, fstP_step _ k P hlt, hvf, if_neg (by decide)]
          have HC1 := Lib.hid hc1
          clear hvf hc1 hb2 hbel
          go_wp2_with fail
          go_roundg g
          case measure => omega
          case rel => exact ⟨k + 1, by omega, by go_num, HC1, by omega, hbel2⟩
      · obtain rfl : k = P := by omega
        have hc1 : pfo vs = none := by rw [HCn.out, Nat.sub_self]; rfl
        have HC1 := Lib.hid hc1
        clear hc1
        go_wp2_with fail
        go_ret2
        exact ⟨by unfold pfT; rw [HC1.out]; rfl, hbel⟩
end Go.Proofs.Ytnccpifdajcejaa
namespace Go.Proofs.Ytnccpifdajcejaa

def vA (v : Vx) (s : Nat → UInt8) : Bool := vfB v.1 (bts (v.2.map fun c => s c.toNat))
def aA (vs : List Vx) (s : Nat → UInt8) : Bool := vs.all fun v => vA v s
def inV (v : Vx) (k : Nat) : Prop := ∃ c ∈ v.2, c.toNat = k
def inA (vs : List Vx) (k : Nat) : Prop := ∃ v ∈ vs, inV v k
theorem all_congr {α : Type} {vs : List α} {f g : α → Bool} (h : ∀ v ∈ vs, f v = g v) : vs.all f = vs.all g := by
  induction vs with
  | nil => rfl
  | cons v r ih => rw [List.all_cons, List.all_cons, h v (by simp), ih fun u hu => h u (by simp [hu])]
theorem vA_dep (v : Vx) : Dep (inV v) (vA v) := by
  intro s t h
  have e : (v.2.map fun c => s c.toNat) = v.2.map fun c => t c.toNat := List.map_congr_left fun c hc => h c.toNat ⟨c, hc, rfl⟩
  unfold vA
  rw [e]
theorem aA_dep (vs : List Vx) : Dep (inA vs) (aA vs) := by
  intro s t h
  exact all_congr fun v hv => vA_dep v s t fun k hk => h k ⟨v, hv, hk⟩
theorem vA_swap (v : Vx) (s : Nat → UInt8) : vA v (fun k => swB (s k)) = vA v s := by
  have e : (v.2.map fun c => swB (s c.toNat)) = (v.2.map fun c => s c.toNat).map swB := by rw [List.map_map]; rfl
  unfold vA
  rw [e, vf_swap]
theorem aA_swap (vs : List Vx) (s : Nat → UInt8) : aA vs (fun k => swB (s k)) = aA vs s := all_congr fun v _ => vA_swap v s
theorem pm_cnt {vs : List Vx} {n : Nat} (hp : patB vs = true) (hn : ncr vs = (n : Int)) : pmI vs = (cntF n (aA vs) : Int) := by
  obtain ⟨P, hP⟩ : ∃ P : List UInt8 → Bool, P = fun l => vs.all fun v => vfB v.1 (bts (v.2.map fun c => l.getD c.toNat 0)) := ⟨_, rfl⟩
  have e : ∀ m, cntP (rankB vs n) m = cntK n P m := by
    intro m
    induction m with
    | zero => rfl
    | succ m ih => rw [cntP, cntK, ih, hP]; rfl
  unfold pmI
  rw [hp, if_pos rfl, hn, Int.toNat_natCast, e, cntK_T, ← cntF_T]
  congr 1
  refine cntF_congr fun s => ?_
  rw [hP]
  refine all_congr fun v hv => ?_
  unfold vA
  congr 2
  refine List.map_congr_left fun c hc => ?_
  have := (pat_bd3 hp v hv).2.2 c hc
  have hc2 : c.toNat < n := by omega
  rw [List.getD_eq_getElem?_getD, List.getElem?_map, List.getElem?_range hc2]; rfl
/-- a vertex's folds -/
def vmN (v : Vx) : Nat := cntT v.2.length fun l => vfB v.1 (bts l)
theorem vmN_vm {v : Vx} (h : vtxB v = true) : vmI v.1 = (vmN v : Int) := by
  have hb := vtxB_bd h
  unfold vmI vmN
  rw [((acB_iff _).1 hb.1).1, if_pos rfl, cntV_T, hb.2.1]
/-- a vertex whose creases are different and below n -/
def VOk2 (n : Nat) (v : Vx) : Prop := v.2.length = v.1.length ∧ v.2.Nodup ∧ ∀ c ∈ v.2, 0 ≤ c ∧ c < (n : Int)
theorem toNat_nodup {cs : List Int} (hn : cs.Nodup) (h0 : ∀ c ∈ cs, 0 ≤ c) : (cs.map Int.toNat).Nodup := by
  rw [List.nodup_iff_pairwise_ne, List.pairwise_map]
  refine List.Pairwise.imp_of_mem (fun {a b} ha hb h => ?_) (List.nodup_iff_pairwise_ne.1 hn)
  have := h0 a ha
  have := h0 b hb
  omega
theorem vA_cnt {n : Nat} {v : Vx} (h : VOk2 n v) : cntF n (vA v) * 2 ^ v.2.length = 2 ^ n * vmN v := by
  have := cntF_pick (n := n) (toNat_nodup h.2.1 fun c hc => (h.2.2 c hc).1) (fun c hc => by obtain ⟨d, hd, rfl⟩ := List.mem_map.1 hc; have := h.2.2 d hd; omega) (fun l => vfB v.1 (bts l))
  rw [List.length_map] at this
  unfold vmN
  rw [← this]
  congr 1
  refine cntF_congr fun s => ?_
  unfold vA
  rw [List.map_map]; rfl
def prodN : List Vx → Nat
  | [] => 1
  | v :: r => vmN v * prodN r
theorem cnt_prod {n : Nat} {vs : List Vx} (hv : ∀ v ∈ vs, VOk2 n v) (hu : ∀ k : Int, useN vs k ≤ 1) : cntF n (aA vs) * 2 ^ sumA vs = 2 ^ n * prodN vs := by
  induction vs with
  | nil =>
    have := cntF_pick (n := n) (cs := []) List.nodup_nil (fun c hc => by cases hc) (fun _ => true)
    have e : cntT 0 (fun _ => true) = 1 := rfl
    rw [List.length_nil, e] at this
    exact this
  | cons v r ih =>
    have hI := cntF_indep (n := n) (vA_dep v) (aA_dep r) (by
      rintro k ⟨c, hc, rfl⟩ ⟨u, hu1, d, hd, e⟩
      have h1 := (hv v (by simp)).2.2 c hc
      have h2 := (hv u (by simp [hu1])).2.2 d hd
      have hcd : d = c := by omega
      subst hcd
      have h3 := hu d
      rw [useN, if_pos hc] at h3
      have h4 := useN_pos.2 ⟨u, hu1, hd⟩
      omega)
    have hV := vA_cnt (hv v (by simp))
    have hR := ih (fun u hu' => hv u (by simp [hu'])) (fun k => by have := hu k; rw [useN] at this; omega)
    rw [(hv v (by simp)).1] at hV
    have e : aA (v :: r) = fun s => vA v s && aA r s := rfl
    rw [e, sumA, prodN, Nat.pow_add]
    apply Nat.eq_of_mul_eq_mul_left (Nat.two_pow_pos n)
    rw [← Nat.mul_assoc, hI]
    calc cntF n (vA v) * cntF n (aA r) * (2 ^ v.1.length * 2 ^ sumA r) = (cntF n (vA v) * 2 ^ v.1.length) * (cntF n (aA r) * 2 ^ sumA r) := by simp only [Nat.mul_assoc, Nat.mul_comm, Nat.mul_left_comm]
      _ = _ := by rw [hV, hR]; simp only [Nat.mul_assoc, Nat.mul_comm, Nat.mul_left_comm]
def prodZ : List Vx → Int
  | [] => 1
  | v :: r => vmI v.1 * prodZ r
theorem prodZ_snoc (vs : List Vx) (v : Vx) : prodZ (vs ++ [v]) = prodZ vs * vmI v.1 := by
  induction vs with
  | nil => rw [List.nil_append, prodZ, prodZ, prodZ, Int.mul_one, Int.one_mul]
  | cons u r ih => rw [List.cons_append, prodZ, prodZ, ih, Int.mul_assoc]
theorem prodZ_N {vs : List Vx} (h : vs.all vtxB = true) : prodZ vs = (prodN vs : Int) := by
  induction vs with
  | nil => rfl
  | cons v r ih =>
    rw [List.all_cons, Bool.and_eq_true] at h
    rw [prodZ, prodN, ih h.2, vmN_vm h.1]; omega
theorem cntT_le (n : Nat) (P : List UInt8 → Bool) : cntT n P ≤ 2 ^ n := by
  induction n generalizing P with
  | zero => rw [cntT]; split <;> omega
  | succ n ih =>
    rw [cntT, Nat.pow_succ]
    have := ih (fun l => P (77 :: l))
    have := ih (fun l => P (86 :: l))
    omega
theorem vm_bd {v : Vx} (h : vtxB v = true) : 0 ≤ vmI v.1 ∧ vmI v.1 ≤ 1024 := by
  rw [vmN_vm h]
  have h1 := cntT_le v.2.length fun l => vfB v.1 (bts l)
  have h2 : 2 ^ v.2.length ≤ 1024 := pow_le_1024 (vtxB_bd h).2.2.1
  unfold vmN
  omega
theorem useN_le_in {vs : List Vx} {n : Nat} (hb : ∀ v ∈ vs, ∀ c ∈ v.2, 0 ≤ c ∧ c < (n : Int)) (h : ∀ k, k < n → useN vs (k : Int) ≤ 1) (k : Int) : useN vs k ≤ 1 := by
  rcases Nat.eq_zero_or_pos (useN vs k) with h0 | h0
  · omega
  · obtain ⟨v, hv, hk⟩ := useN_pos.1 h0
    have := hb v hv k hk
    obtain ⟨m, rfl⟩ : ∃ m : Nat, k = (m : Int) := ⟨k.toNat, by omega⟩
    exact h m (by omega)
theorem innerTo_nil {vs : List Vx} {n : Nat} (h : innerTo vs n = []) : ∀ k, k < n → useN vs (k : Int) ≠ 2 := by
  intro k hk h2
  have := innerTo_get hk h2
  rw [h] at this
  simp at this
/-- no inner crease: a pattern's folds are its vertices' folds together -/
theorem pm_prod {vs : List Vx} (hp : patB vs = true) (hi : innerL vs = []) : pmI vs = prodZ vs := by
  obtain ⟨n, hn, hn10, _⟩ := pat_num hp
  obtain ⟨_, _, hall, huse, _, _⟩ := patB_parts hp
  have hi2 : innerTo vs n = [] := by unfold innerL at hi; rw [hp, if_pos rfl, hn] at hi; exact hi
  have hs := pat_sum hp hn
  rw [hi2, List.length_nil, Nat.add_zero] at hs
  rw [hn, Int.toNat_natCast] at huse
  have hu := usesOk_iff.1 huse
  have hb := pat_bd3 hp
  rw [hn] at hb
  have h := cnt_prod (n := n) (vs := vs) hb (useN_le_in (fun v hv => (hb v hv).2.2) fun k hk => by have := hu k hk; have := innerTo_nil hi2 k hk; omega)
  rw [hs, Nat.mul_comm] at h
  rw [pm_cnt hp hn, prodZ_N hall, Nat.eq_of_mul_eq_mul_left (Nat.two_pow_pos n) h]
theorem cntF_even {m : Nat} {f : (Nat → UInt8) → Bool} (h : Dep (fun k => k < m + 1) f) (hs : ∀ s, f (fun k => swB (s k)) = f s) : cntF (m + 1) f % 2 = 0 := by
  have h2 : cntF m (fun s => f (upd s m 86)) = cntF m (fun s => f (upd s m 77)) := by
    rw [← cntF_swap (f := fun s => f (upd s m 77)) ((h.upd m 77).mono fun k hk => by have := hk.1; have := hk.2; omega)]
    refine cntF_congr fun s => ?_
    rw [← hs]
    congr 1
    rw [upd_swap]; rfl
  rw [cntF, h2]; omega
theorem pat_two {vs : List Vx} {n : Nat} (hp : patB vs = true) (hn : ncr vs = (n : Int)) : 2 ≤ n := by
  obtain ⟨p1, _, hall, _, _, _⟩ := patB_parts hp
  have hm := List.getElem_mem (l := vs) (n := 0) (by omega)
  have hb := vtxB_bd (List.all_eq_true.1 hall _ hm)
  have hd := pat_bd3 hp _ hm
  have ha := hd.2.2 _ (List.getElem_mem (n := 0) (by omega : 0 < vs[0].2.length))
  have hc := hd.2.2 _ (List.getElem_mem (n := 1) (by omega : 1 < vs[0].2.length))
  have hne := List.pairwise_iff_getElem.1 (List.nodup_iff_pairwise_ne.1 hd.2.1) 0 1 (by omega) (by omega) (by omega)
  omega
theorem aA_dep_n {vs : List Vx} {n : Nat} (hb : ∀ v ∈ vs, ∀ c ∈ v.2, 0 ≤ c ∧ c < (n : Int)) : ∀ k, inA vs k → k < n := by
  rintro k ⟨v, hv, c, hc, rfl⟩
  have := hb v hv c hc
  omega
theorem pm_even {vs : List Vx} (hp : patB vs = true) : pmI vs % 2 = 0 := by
  obtain ⟨n, hn, _, _⟩ := pat_num hp
  have h2 := pat_two hp hn
  obtain ⟨m, rfl⟩ : ∃ m, n = m + 1 := ⟨n - 1, by omega⟩
  have hb := pat_bd3 hp
  rw [hn] at hb
  have := cntF_even ((aA_dep vs).mono (aA_dep_n fun v hv => (hb v hv).2.2)) (aA_swap vs)
  rw [pm_cnt hp hn]; omega
theorem fstP_isSome (p : Nat → Bool) (k g : Nat) : (fstP p k g).isSome = true ↔ ∃ j, k ≤ j ∧ j < k + g ∧ p j = true := by
  induction g generalizing k with
  | zero =>
    rw [fstP]
    constructor
    · intro h; cases h
    · rintro ⟨j, h1, h2, _⟩; omega
  | succ g ih =>
    rw [fstP]
    by_cases hp : p k = true
    · rw [if_pos hp]
      exact ⟨fun _ => ⟨k, Nat.le_refl _, by omega, hp⟩, fun _ => rfl⟩
    · rw [if_neg hp, ih]
      constructor
      · rintro ⟨j, h1, h2, h3⟩; exact ⟨j, by omega, by omega, h3⟩
      · rintro ⟨j, h1, h2, h3⟩
        refine ⟨j, ?_, by omega, h3⟩
        rcases Nat.lt_or_ge k j with h | h
        · omega
        · exact absurd ((by omega : j = k) ▸ h3) hp
theorem cntP_pos (p : Nat → Bool) (m : Nat) : 0 < cntP p m ↔ ∃ j, j < m ∧ p j = true := by
  induction m with
  | zero => simp [cntP]
  | succ m ih =>
    rw [cntP]
    by_cases hp : p m = true
    · rw [if_pos hp]
      exact ⟨fun _ => ⟨m, by omega, hp⟩, fun _ => by omega⟩
    · rw [if_neg hp, Nat.add_zero, ih]
      constructor
      · rintro ⟨j, h1, h3⟩; exact ⟨j, by omega, h3⟩
      · rintro ⟨j, h1, h3⟩
        refine ⟨j, ?_, h3⟩
        rcases Nat.lt_or_ge j m with h | h
        · exact h
        · exact absurd ((by omega : j = m) ▸ h3) hp
theorem pfo_pos {vs : List Vx} (hp : patB vs = true) : (pfo vs).isSome = decide (0 < pmI vs) := by
  have : (pfo vs).isSome = true ↔ 0 < pmI vs := by
    unfold pfo pmI
    rw [hp, if_pos rfl, if_pos rfl, fstP_isSome]
    have := cntP_pos (rankB vs (ncr vs).toNat) (2 ^ (ncr vs).toNat)
    constructor
    · rintro ⟨j, _, h2, h3⟩
      have := this.2 ⟨j, by omega, h3⟩
      omega
    · intro h
      obtain ⟨j, h1, h2⟩ := this.1 (by omega)
      exact ⟨j, by omega, by omega, h2⟩
  rw [Bool.eq_iff_iff, this, decide_eq_true_iff]
end Go.Proofs.Ytnccpifdajcejaa
