/- PatternMany, the program's and the reference's. No condition but sizes. The laws' own helpers on vertices: a comparison; a copy reads as the vertices that it is of. No condition but sizes. The laws that the program's PatternValid and PatternCreases are the reference's: the walks of the laws themselves. No condition but sizes. PatternFirst, the program's and the reference's; the law's walk. No condition but sizes. -/
import Derived.Test.YtnccpifdajcejaaPatN
import Derived.Test.YtnccpifdajcejaaVMany
import Derived.Test.YtnccpifdajcejaaVertB
import Derived.Test.YtnccpifdajcejaaPatK
namespace Go.Proofs.Ytnccpifdajcejaa
open Go.RowKit

theorem txtL_mv (n k : Nat) : (txtL n k).all mvB = true := by
  induction n with
  | zero => rfl
  | succ n ih =>
    rw [txtL, List.all_cons, ih, Bool.and_true]
    unfold bitL
    split <;> rfl
theorem fvB_txt (n k : Nat) : fvB (txt n k).data.toList (n : Int) = true := by
  show fvB (txtL n k).toArray.toList (n : Int) = true
  unfold fvB
  rw [List.toList_toArray, txtL_mv, txtL_len]
  simp
/-- the text with a rank folds each vertex -/
def rankB (vs : List Vx) (n k : Nat) : Bool := vs.all (vfT (txt n k))
theorem pfB_txt {vs : List Vx} {n : Nat} (hp : patB vs = true) (hn : ncr vs = (n : Int)) (k : Nat) : pfB vs (txt n k) = rankB vs n k := by
  unfold pfB rankB
  rw [hp, hn, fvB_txt]; rfl
def cntP (p : Nat → Bool) : Nat → Nat
  | 0 => 0
  | m + 1 => cntP p m + (if p m then 1 else 0)
def fstP (p : Nat → Bool) : Nat → Nat → Option Nat
  | _, 0 => none
  | k, g + 1 => if p k then some k else fstP p (k + 1) g
theorem fstP_step (p : Nat → Bool) (k P : Nat) (h : k < P) : fstP p k (P - k) = if p k then some k else fstP p (k + 1) (P - (k + 1)) := by
  rw [show P - k = (P - (k + 1)) + 1 from by omega]; rfl
/-- PatternMany -/
def pmI (vs : List Vx) : Int := if patB vs then (cntP (rankB vs (ncr vs).toNat) (2 ^ (ncr vs).toNat) : Int) else -1
theorem pat_n {vs : List Vx} (hp : patB vs = true) : ∃ n : Nat, ncr vs = (n : Int) ∧ n ≤ 10 ∧ pcI vs = (n : Int) := by
  obtain ⟨_, _, _, _, n0, n10⟩ := patB_parts hp
  refine ⟨(ncr vs).toNat, by omega, by omega, ?_⟩
  unfold pcI; rw [hp, if_pos rfl]; omega
theorem pat_vok {vs : List Vx} {n : Nat} (hp : patB vs = true) (hn : ncr vs = (n : Int)) (k : Nat) : ∀ v ∈ vs, VOk (txt n k) v :=
  (pat_ok (s := txt n k) hp (by rw [hn]; exact fvB_txt n k)).2

set_option maxHeartbeats 1000000 in
theorem impl_PatternMany (A : Option Addr) (cap : Nat) (vs : List Vx) (w : World) (h : Verts w A vs) (hl : vs.length ≤ maxLen) (hcap : vs.length ≤ cap) (hcm : cap ≤ maxLen) :
    Calls Try.prog 28 #[.slice A vs.length cap] w fun e w' => e = .returned (.int .i64 (pmI vs)) ∧ Below w.heap.size w w' := by
  cases hp : patB vs with
  | false =>
    have hc : pcI vs = -1 := by unfold pcI; rw [hp]; rfl
    have hfin : pmI vs = -1 := by unfold pmI; rw [hp]; rfl
    have HC := Lib.hid hc
    have HF := Lib.hid hfin
    clear hp hc hfin
    go_enter Try.func28, Try.ntmps28
    go_wp2_with fail
    refine (impl_PatternCreases A cap vs w h hl).mono ?_
    rintro e w1 ⟨rfl, hb1⟩
    rw [HC.out]
    go_wp2_with fail
    go_ret
    exact ⟨ret_int HF.out.symm, hb1⟩
  | true =>
    obtain ⟨n, hn, hn10, hc⟩ := pat_n hp
    obtain ⟨P, hPe⟩ : ∃ P, P = 2 ^ n := ⟨_, rfl⟩
    have hP : P ≤ 1024 := hPe ▸ pow_le_1024 hn10
    have hwr : wrap64 (2 ^ n) = (P : Int) := wrap_pow hPe hP
    have hfin : pmI vs = (cntP (rankB vs n) P : Int) := by unfold pmI; rw [hp, if_pos rfl, hn, hPe]; rfl
    have hfold : ∀ (k : Nat) (W : World), Below w.heap.size w W → Calls Try.prog 34 #[.slice A vs.length cap, .string (txt n k)] W fun e w' => e = .returned (.bool (rankB vs n k)) ∧ Below W.heap.size W w' := fun k W hW => by
      rw [← pfB_txt hp hn k]; exact impl_PatternFolds A cap vs (txt n k) W (h.below hW) hl (by rw [txt_size]; unfold maxLen; omega) hcap hcm
    have HC := Lib.hid hc
    have HF := Lib.hid hfin
    have HFold := Lib.hid hfold
    clear hp hc hfin hfold hn hPe
    go_enter Try.func28, Try.ntmps28
    go_wp2_with fail
    refine (impl_PatternCreases A cap vs w h hl).mono ?_
    rintro e w1 ⟨rfl, hb1⟩
    rw [HC.out]
    go_wp2_with fail
    go_loopg [4, 5] (P + 1) (fun g s4 s5 wr => ∃ (k c : Nat), k ≤ P ∧ s5 = .int .i64 k ∧ s4 = .int .i64 c ∧ c ≤ k ∧ Hid (c = cntP (rankB vs n) k) ∧ P - k < g ∧ Below w.heap.size w wr)
    case atStart => exact ⟨0, 0, Nat.zero_le _, rfl, rfl, Nat.le_refl _, rfl, by omega, hb1⟩
    case round =>
      obtain ⟨k, c, hk, rfl, rfl, hck, HCn, hg, hbel⟩ := hrel
      have hsz := hbel.size
      cases gk with
      | zero => omega
      | succ g =>
      by_cases hlt : k < P
      · go_wp2_with fail
        refine (impl_foldsOfNumber n k wr (by omega) (by omega)).mono ?_
        rintro e w1 ⟨rfl, hb1⟩
        have hbel1 := hbel.trans (hb1.mono hsz)
        have hsz1 := hbel1.size
        clear hb1
        go_wp2_with fail
        refine (HFold.out k w1 hbel1).mono ?_
        rintro e w2 ⟨rfl, hb2⟩
        have hbel2 := hbel1.trans (hb2.mono hsz1)
        cases hvf : rankB vs n k with
        | true =>
          have hc1 : c + 1 = cntP (rankB vs n) (k + 1) := by show _ = cntP (rankB vs n) k + _; rw [hvf, ← HCn.out]; rfl
          have HC1 := Lib.hid hc1
          clear hvf hc1 hb2 hbel hbel1
          go_wp2_with fail
          go_roundg g
          case measure => omega
          case rel => exact ⟨k + 1, c + 1, by omega, by go_num, by go_num, by omega, HC1, by omega, hbel2⟩
        | false =>
          have hc1 : c = cntP (rankB vs n) (k + 1) := by show _ = cntP (rankB vs n) k + _; rw [hvf, ← HCn.out]; rfl
          have HC1 := Lib.hid hc1
          clear hvf hc1 hb2 hbel hbel1
          go_wp2_with fail
          go_roundg g
          case measure => omega
          case rel => exact ⟨k + 1, c, by omega, by go_num, rfl, by omega, HC1, by omega, hbel2⟩
      · obtain rfl : k = P := by omega
        go_wp2_with fail
        go_ret
        exact ⟨ret_int (by rw [HF.out, ← HCn.out]), hbel⟩
set_option maxHeartbeats 1000000 in
theorem spec_PatternMany (A : Option Addr) (cap : Nat) (vs : List Vx) (w : World) (h : Verts w A vs) (hl : vs.length ≤ maxLen) :
    Calls Try.prog 30 #[.slice A vs.length cap] w fun e w' => e = .returned (.int .i64 (pmI vs)) ∧ Below w.heap.size w w' := by
  cases hp : patB vs with
  | false =>
    have hfin : pmI vs = -1 := by unfold pmI; rw [hp]; rfl
    have HF := Lib.hid hfin
    have HP := Lib.hid hp
    clear hp hfin
    go_enter Try.func30, Try.ntmps30
    go_wp2_with fail
    refine (spec_PatternValid A cap vs w h hl).mono ?_
    rintro e w1 ⟨rfl, hb1⟩
    rw [HP.out]
    go_wp2_with fail
    go_ret
    exact ⟨ret_int HF.out.symm, hb1⟩
  | true =>
    obtain ⟨n, hn, hn10, hc⟩ := pat_n hp
    obtain ⟨h1, h3, hall, _, _, _⟩ := patB_parts hp
    have hvx : ∀ v ∈ vs, v.2.length ≤ 1000000 ∧ ∀ x ∈ v.2, 0 ≤ x ∧ x ≤ 9 := fun v hv => by
      rw [List.all_eq_true] at hall
      have := vtxB_bd (hall v hv)
      exact ⟨by omega, this.2.2.2.2⟩
    have hcr : ∀ W : World, Below w.heap.size w W → Calls Try.prog 51 #[.slice A vs.length cap] W fun e w' => e = .returned (.int .i64 (n : Int)) ∧ W = w' := fun W hW => by
      rw [← hn]; exact spec_l6pCreases A cap vs W (h.below hW) (by omega) hvx
    obtain ⟨P, hPe⟩ : ∃ P, P = 2 ^ n := ⟨_, rfl⟩
    have hP : P ≤ 1024 := hPe ▸ pow_le_1024 hn10
    have hfin : pmI vs = (cntP (rankB vs n) P : Int) := by unfold pmI; rw [hp, if_pos rfl, hn, hPe]; rfl
    have hfold : ∀ (k : Nat) (W : World), Below w.heap.size w W → Calls Try.prog 59 #[.slice A vs.length cap, .string (txt n k)] W fun e w' => e = .returned (.bool (rankB vs n k)) ∧ Below W.heap.size W w' := fun k W hW =>
      spec_l6pFolds A cap vs (txt n k) W (h.below hW) (by omega) (pat_vok hp hn k) (by rw [txt_size]; omega)
    have HP := Lib.hid hp
    have HPe := Lib.hid hPe
    have HCR := Lib.hid hcr
    have HF := Lib.hid hfin
    have HFold := Lib.hid hfold
    clear hp hc hfin hfold hn hPe hcr hvx hall h1 h3
    go_enter Try.func30, Try.ntmps30
    go_wp2_with fail
    refine (spec_PatternValid A cap vs w h hl).mono ?_
    rintro e w1 ⟨rfl, hb1⟩
    rw [HP.out]
    go_wp2_with fail
    refine (HCR.out w1 hb1).mono ?_
    rintro e w' ⟨rfl, rfl⟩
    go_wp2_with fail
    go_loopg [3, 5] (P + 1) (fun g s4 s5 wr => ∃ (k c : Nat), k ≤ P ∧ s5 = .int .i64 k ∧ s4 = .int .i64 c ∧ c ≤ k ∧ Hid (c = cntP (rankB vs n) k) ∧ P - k < g ∧ Below w.heap.size w wr)
    case atStart => exact ⟨0, 0, Nat.zero_le _, rfl, rfl, Nat.le_refl _, rfl, by omega, hb1⟩
    case round =>
      obtain ⟨k, c, hk, rfl, rfl, hck, HCn, hg, hbel⟩ := hrel
      have hsz := hbel.size
      cases gk with
      | zero => omega
      | succ g =>
      go_wp2_with fail
      refine (spec_l1Power n wr (by omega)).mono ?_
      rintro e w1 ⟨rfl, rfl⟩
      rw [← HPe.out]
      by_cases hlt : k < P
      · go_wp2_with fail
        refine (spec_l1Text n k wr (by omega) (by omega)).mono ?_
        rintro e w1 ⟨rfl, rfl⟩
        go_wp2_with fail
        refine (HFold.out k wr hbel).mono ?_
        rintro e w2 ⟨rfl, hb2⟩
        have hbel2 := hbel.trans (hb2.mono hsz)
        cases hvf : rankB vs n k with
        | true =>
          have hc1 : c + 1 = cntP (rankB vs n) (k + 1) := by show _ = cntP (rankB vs n) k + _; rw [hvf, ← HCn.out]; rfl
          have HC1 := Lib.hid hc1
          clear hvf hc1 hb2 hbel
          go_wp2_with fail
          go_roundg g
          case measure => omega
          case rel => exact ⟨k + 1, c + 1, by omega, by go_num, by go_num, by omega, HC1, by omega, hbel2⟩
        | false =>
          have hc1 : c = cntP (rankB vs n) (k + 1) := by show _ = cntP (rankB vs n) k + _; rw [hvf, ← HCn.out]; rfl
          have HC1 := Lib.hid hc1
          clear hvf hc1 hb2 hbel
          go_wp2_with fail
          go_roundg g
          case measure => omega
          case rel => exact ⟨k + 1, c, by omega, by go_num, rfl, by omega, HC1, by omega, hbel2⟩
      · obtain rfl : k = P := by omega
        go_wp2_with fail
        go_ret
        exact ⟨ret_int (by rw [HF.out, ← HCn.out]), hbel⟩
end Go.Proofs.Ytnccpifdajcejaa
namespace Go.Proofs.Ytnccpifdajcejaa
open Go.RowKit

theorem RowV.verts {w : World} {B g : Nat} {vs : List Vx} {L : List Value} (h : RowV w B g vs.length L) (ht : RowTo w g vs L vs.length) : Verts w (some ⟨g, 0, none⟩) vs := by
  intro hn
  refine ⟨g, 0, rfl, (h.lt _ rfl).2, fun k v hk => ?_⟩
  have hkl : k < vs.length := (List.getElem?_eq_some_iff.1 hk).1
  obtain ⟨U, V, e1, e2, e3, e4⟩ := ht k v hkl hk
  refine ⟨U, V, ?_, ?_, e3.intsV, e4.intsV⟩
  · rw [Nat.zero_add, h.cellAt (k * 2) (by omega), e1]
  · rw [Nat.zero_add, h.cellAt (k * 2 + 1) (by omega), e2]


end Go.Proofs.Ytnccpifdajcejaa
namespace Go.Proofs.Ytnccpifdajcejaa
open Go.RowKit

theorem szB_ok {xs : List Int} {left : Int} (h : 0 ≤ szB xs left) : (xs.length : Int) ≤ left ∧ szB xs left = left - xs.length := by
  unfold szB at h ⊢
  by_cases e : left - xs.length < 0
  · rw [if_pos e] at h; omega
  · rw [if_neg e]; omega
theorem szV_ok {v : Vx} {left : Int} (h : 0 ≤ szV v left) : (v.1.length : Int) ≤ left ∧ (v.2.length : Int) ≤ left ∧ szV v left ≤ left := by
  unfold szV at h ⊢
  by_cases e : szB v.1 left < 0
  · rw [if_pos e] at h; omega
  · rw [if_neg e] at h ⊢
    have h1 := szB_ok (by omega : 0 ≤ szB v.1 left)
    have h2 := szB_ok h
    omega
theorem szGo_ok {vs : List Vx} {left : Int} (h : 0 ≤ szGo vs left) : ∀ v ∈ vs, (v.1.length : Int) ≤ left ∧ (v.2.length : Int) ≤ left := by
  induction vs generalizing left with
  | nil => intro v hv; cases hv
  | cons v r ih =>
    rw [szGo] at h
    by_cases e : szV v left < 0
    · rw [if_pos e] at h; omega
    · rw [if_neg e] at h
      have h1 := szV_ok (by omega : 0 ≤ szV v left)
      intro u hu
      rcases List.mem_cons.1 hu with rfl | hu
      · exact ⟨h1.1, h1.2.1⟩
      · have := ih h u hu
        omega
theorem szL_ok {vs : List Vx} (h : 0 ≤ szL vs 1048576) : vs.length ≤ 1048576 ∧ ∀ v ∈ vs, v.1.length ≤ 1048576 ∧ v.2.length ≤ 1048576 := by
  unfold szL at h
  by_cases e : (1048576 : Int) - vs.length < 0
  · rw [if_pos e] at h; omega
  · rw [if_neg e] at h
    refine ⟨by omega, fun v hv => ?_⟩
    have := szGo_ok h v hv
    omega



end Go.Proofs.Ytnccpifdajcejaa
namespace Go.Proofs.Ytnccpifdajcejaa
open Go.RowKit

/-- PatternFirst: the rank of the first text -/
def pfo (vs : List Vx) : Option Nat := if patB vs then fstP (rankB vs (ncr vs).toNat) 0 (2 ^ (ncr vs).toNat) else none
def pfT (vs : List Vx) : ByteArray := match pfo vs with | some k => txt (ncr vs).toNat k | none => ByteArray.empty

set_option maxHeartbeats 1000000 in
theorem impl_PatternFirst (A : Option Addr) (cap : Nat) (vs : List Vx) (w : World) (h : Verts w A vs) (hl : vs.length ≤ maxLen) (hcap : vs.length ≤ cap) (hcm : cap ≤ maxLen) :
    Calls Try.prog 33 #[.slice A vs.length cap] w fun e w' => e = .returned (.tuple #[.string (pfT vs), .bool (pfo vs).isSome]) ∧ Below w.heap.size w w' := by
  cases hp : patB vs with
  | false =>
    have hc : pcI vs = -1 := by unfold pcI; rw [hp]; rfl
    have hfin : pfo vs = none := by unfold pfo; rw [hp]; rfl
    have HC := Lib.hid hc
    have HF := Lib.hid hfin
    clear hp hc hfin
    go_enter Try.func33, Try.ntmps33
    go_wp2_with fail
    refine (impl_PatternCreases A cap vs w h hl).mono ?_
    rintro e w1 ⟨rfl, hb1⟩
    rw [HC.out]
    go_wp2_with fail
    go_ret2
    exact ⟨by unfold pfT; rw [HF.out]; rfl, hb1⟩
  | true =>
    obtain ⟨n, hn, hn10, hc⟩ := pat_n hp
    obtain ⟨P, hPe⟩ : ∃ P, P = 2 ^ n := ⟨_, rfl⟩
    have hP : P ≤ 1024 := hPe ▸ pow_le_1024 hn10
    have hwr : wrap64 (2 ^ n) = (P : Int) := wrap_pow hPe hP
    have hfin : pfo vs = fstP (rankB vs n) 0 (P - 0) := by unfold pfo; rw [hp, if_pos rfl, hn, hPe]; rfl
    have hpt : pfT vs = match pfo vs with | some k => txt n k | none => ByteArray.empty := by unfold pfT; rw [hn]; rfl
    have HPT := Lib.hid hpt
    clear hpt
    have hfold : ∀ (k : Nat) (W : World), Below w.heap.size w W → Calls Try.prog 34 #[.slice A vs.length cap, .string (txt n k)] W fun e w' => e = .returned (.bool (rankB vs n k)) ∧ Below W.heap.size W w' := fun k W hW => by
      rw [← pfB_txt hp hn k]; exact impl_PatternFolds A cap vs (txt n k) W (h.below hW) hl (by rw [txt_size]; unfold maxLen; omega) hcap hcm
    have HC := Lib.hid hc
    have HF := Lib.hid hfin
    have HFold := Lib.hid hfold
    clear hp hc hfin hfold hn hPe
    go_enter Try.func33, Try.ntmps33
    go_wp2_with fail
    refine (impl_PatternCreases A cap vs w h hl).mono ?_
    rintro e w1 ⟨rfl, hb1⟩
    rw [HC.out]
    go_wp2_with fail
    go_loopg [5, 6] (P + 1) (fun g s5 s6 wr => ∃ (k : Nat), s6 = s6 ∧ k ≤ P ∧ s5 = .int .i64 k ∧ Hid (pfo vs = fstP (rankB vs n) k (P - k)) ∧ P - k < g ∧ Below w.heap.size w wr)
    case atStart => exact ⟨0, rfl, Nat.zero_le _, rfl, HF, by omega, hb1⟩
    case round =>
      obtain ⟨k, _, hk, rfl, HCn, hg, hbel⟩ := hrel
      have hsz := hbel.size
      cases gk with
      | zero => omega
      | succ g =>
      by_cases hlt : k < P
      · go_wp2_with fail
        refine (impl_foldsOfNumber n k wr (by omega) (by omega)).mono ?_
        rintro e w1 ⟨rfl, hb1⟩
        have hbel1 := hbel.trans (hb1.mono hsz)
        have hsz1 := hbel1.size
        clear hb1
        go_wp2_with fail
        refine (HFold.out k w1 hbel1).mono ?_
        rintro e w2 ⟨rfl, hb2⟩
        have hbel2 := hbel1.trans (hb2.mono hsz1)
        cases hvf : rankB vs n k with
        | true =>
          have hc1 : pfo vs = some k := by rw [HCn.out, fstP_step _ k P hlt, hvf, if_pos rfl]
          have HC1 := Lib.hid hc1
          clear hvf hc1 hb2 hbel hbel1
          go_wp2_with fail
          go_ret2
          exact ⟨by rw [HPT.out, HC1.out]; rfl, hbel2⟩
        | false =>
          have hc1 : pfo vs = fstP (rankB vs n) (k + 1) (P - (k + 1)) := by rw [HCn.out, fstP_step _ k P hlt, hvf, if_neg (by decide)]
          have HC1 := Lib.hid hc1
          clear hvf hc1 hb2 hbel hbel1
          go_wp2_with fail
          go_roundg g
          case measure => omega
          case rel => exact ⟨k + 1, by trivial, by omega, by go_num, HC1, by omega, hbel2⟩
      · obtain rfl : k = P := by omega
        have hc1 : pfo vs = none := by rw [HCn.out, Nat.sub_self]; rfl
        have HC1 := Lib.hid hc1
        clear hc1
        go_wp2_with fail
        go_ret2
        exact ⟨by unfold pfT; rw [HC1.out]; rfl, hbel⟩
set_option maxHeartbeats 1000000 in
theorem spec_PatternFirst (A : Option Addr) (cap : Nat) (vs : List Vx) (w : World) (h : Verts w A vs) (hl : vs.length ≤ maxLen) :
    Calls Try.prog 36 #[.slice A vs.length cap] w fun e w' => e = .returned (.tuple #[.string (pfT vs), .bool (pfo vs).isSome]) ∧ Below w.heap.size w w' := by
  cases hp : patB vs with
  | false =>
    have hfin : pfo vs = none := by unfold pfo; rw [hp]; rfl
    have HF := Lib.hid hfin
    have HP := Lib.hid hp
    clear hp hfin
    go_enter Try.func36, Try.ntmps36
    go_wp2_with fail
    refine (spec_PatternValid A cap vs w h hl).mono ?_
    rintro e w1 ⟨rfl, hb1⟩
    rw [HP.out]
    go_wp2_with fail
    go_ret2
    exact ⟨by unfold pfT; rw [HF.out]; rfl, hb1⟩
  | true =>
    obtain ⟨n, hn, hn10, hc⟩ := pat_n hp
    obtain ⟨h1, h3, hall, _, _, _⟩ := patB_parts hp
    have hvx : ∀ v ∈ vs, v.2.length ≤ 1000000 ∧ ∀ x ∈ v.2, 0 ≤ x ∧ x ≤ 9 := fun v hv => by
      rw [List.all_eq_true] at hall
      have := vtxB_bd (hall v hv)
      exact ⟨by omega, this.2.2.2.2⟩
    have hcr : ∀ W : World, Below w.heap.size w W → Calls Try.prog 51 #[.slice A vs.length cap] W fun e w' => e = .returned (.int .i64 (n : Int)) ∧ W = w' := fun W hW => by
      rw [← hn]; exact spec_l6pCreases A cap vs W (h.below hW) (by omega) hvx
    obtain ⟨P, hPe⟩ : ∃ P, P = 2 ^ n := ⟨_, rfl⟩
    have hP : P ≤ 1024 := hPe ▸ pow_le_1024 hn10
    have hfin : pfo vs = fstP (rankB vs n) 0 (P - 0) := by unfold pfo; rw [hp, if_pos rfl, hn, hPe]; rfl
    have hpt : pfT vs = match pfo vs with | some k => txt n k | none => ByteArray.empty := by unfold pfT; rw [hn]; rfl
    have HPT := Lib.hid hpt
    clear hpt
    have hfold : ∀ (k : Nat) (W : World), Below w.heap.size w W → Calls Try.prog 59 #[.slice A vs.length cap, .string (txt n k)] W fun e w' => e = .returned (.bool (rankB vs n k)) ∧ Below W.heap.size W w' := fun k W hW =>
      spec_l6pFolds A cap vs (txt n k) W (h.below hW) (by omega) (pat_vok hp hn k) (by rw [txt_size]; omega)
    have HP := Lib.hid hp
    have HPe := Lib.hid hPe
    have HCR := Lib.hid hcr
    have HF := Lib.hid hfin
    have HFold := Lib.hid hfold
    clear hp hc hfin hfold hn hPe hcr hvx hall h1 h3
    go_enter Try.func36, Try.ntmps36
    go_wp2_with fail
    refine (spec_PatternValid A cap vs w h hl).mono ?_
    rintro e w1 ⟨rfl, hb1⟩
    rw [HP.out]
    go_wp2_with fail
    refine (HCR.out w1 hb1).mono ?_
    rintro e w' ⟨rfl, rfl⟩
    go_wp2_with fail
    go_loopg [5] (P + 1) (fun g s5 wr => ∃ (k : Nat), k ≤ P ∧ s5 = .int .i64 k ∧ Hid (pfo vs = fstP (rankB vs n) k (P - k)) ∧ P - k < g ∧ Below w.heap.size w wr)
    case atStart => exact ⟨0, Nat.zero_le _, rfl, HF, by omega, hb1⟩
    case round =>
      obtain ⟨k, hk, rfl, HCn, hg, hbel⟩ := hrel
      have hsz := hbel.size
      cases gk with
      | zero => omega
      | succ g =>
      go_wp2_with fail
      refine (spec_l1Power n wr (by omega)).mono ?_
      rintro e w1 ⟨rfl, rfl⟩
      rw [← HPe.out]
      by_cases hlt : k < P
      · go_wp2_with fail
        refine (spec_l1Text n k wr (by omega) (by omega)).mono ?_
        rintro e w1 ⟨rfl, rfl⟩
        go_wp2_with fail
        refine (HFold.out k wr hbel).mono ?_
        rintro e w2 ⟨rfl, hb2⟩
        have hbel2 := hbel.trans (hb2.mono hsz)
        cases hvf : rankB vs n k with
        | true =>
          have hc1 : pfo vs = some k := by rw [HCn.out, fstP_step _ k P hlt, hvf, if_pos rfl]
          have HC1 := Lib.hid hc1
          clear hvf hc1 hb2 hbel
          go_wp2_with fail
          refine (spec_l1Text n k w2 (by omega) (by omega)).mono ?_
          rintro e w1 ⟨rfl, rfl⟩
          go_wp2_with fail
          go_ret2
          exact ⟨by rw [HPT.out, HC1.out]; rfl, hbel2⟩
        | false =>
          have hc1 : pfo vs = fstP (rankB vs n) (k + 1) (P - (k + 1)) := by rw [HCn.out, fstP_step _ k P hlt, hvf, if_neg (by decide)]
          have HC1 := Lib.hid hc1
          clear hvf hc1 hb2 hbel
          go_wp2_with fail
          go_roundg g
          case measure => omega
          case rel => exact ⟨k + 1, by omega, by go_num, HC1, by omega, hbel2⟩
      · obtain rfl : k = P := by omega
        have hc1 : pfo vs = none := by rw [HCn.out, Nat.sub_self]; rfl
        have HC1 := Lib.hid hc1
        clear hc1
        go_wp2_with fail
        go_ret2
        exact ⟨by unfold pfT; rw [HC1.out]; rfl, hbel⟩
end Go.Proofs.Ytnccpifdajcejaa
