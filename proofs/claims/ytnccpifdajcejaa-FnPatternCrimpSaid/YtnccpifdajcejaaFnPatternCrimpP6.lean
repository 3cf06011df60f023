/- The program's tests of folds, lengths and rings, and whether a vertex or a ring folds. No condition but sizes. The reference's tests of angles, folds and lengths. No condition but sizes. The reference's sums and tests of angles, lengths and rings. No condition but sizes. The reference's tests of angles that close, of lengths and rings, and its least number. No condition but sizes. The reference's tests of patterns: l2Has, l6pUses, l6pCreases, l6pVertex, PatternValid, PatternCreases. No condition but sizes. -/
import Derived.Test.YtnccpifdajcejaaFnPatternCrimpP4
import Derived.Test.YtnccpifdajcejaaFnPatternCrimpP5
import Derived.Test.YtnccpifdajcejaaFnPatternCrimpP3
namespace Go.Proofs.Ytnccpifdajcejaa
open Go.RowKit

/-- the byte k of a text, and what is left behind it -/
theorem byte_drop {s : ByteArray} {k : Nat} (h : k < s.size) : s.data.toList.drop k = s[k] :: s.data.toList.drop (k + 1) := by
  have hl : k < s.data.toList.length := by simpa using h
  rw [List.drop_eq_getElem_cons hl]; rfl

def allMV : List UInt8 → Bool
  | [] => true
  | c :: r => if mvB c then allMV r else false
theorem allMV_eq (l : List UInt8) : l.all mvB = allMV l := by
  induction l with
  | nil => rfl
  | cons c r ih => simp only [List.all_cons, allMV, ih]; cases mvB c <;> rfl

set_option maxHeartbeats 400000 in
theorem impl_FoldsValid (s : ByteArray) (n : Int) (w : World) (hs : s.size ≤ maxLen) :
    Calls Try.prog 61 #[.string s, .int .i64 n] w fun e w' => e = .returned (.bool (fvB s.data.toList n)) ∧ w = w' := by
  unfold maxLen at hs
  by_cases g1 : n < 0
  · have d1 : decide (n < 0) = true := by simp; omega
    go_enter Try.func61, Try.ntmps61
    go_wp2
    go_ret
    exact ⟨ret_bool (by unfold fvB; simp; intro h; omega), rfl⟩
  · have d1 : decide (n < 0) = false := by simp; omega
    by_cases g2 : (s.size : Int) = n
    · subst g2
      clear d1 g1
      have d0 : decide ((s.size : Int) < 0) = false := by simp
      go_enter Try.func61, Try.ntmps61
      go_wp2
      go_loop [5] (fun i => ∃ k : Nat, k ≤ s.size ∧ i = .int .i64 k ∧ Hid (allMV s.data.toList = allMV (s.data.toList.drop k))) (fun i => s.size - (intOf i).toNat)
      case atStart => exact ⟨0, Nat.zero_le _, rfl, rfl⟩
      case round =>
        obtain ⟨k, hk, rfl, H⟩ := hrel
        by_cases hlt : k < s.size
        · have HX := Lib.hid (byte_drop hlt)
          by_cases m1 : s[k].toNat = 77
          · have e1 : ((s[k].toNat : Int) != 77) = false := by rw [bne_eq_false_iff_eq]; omega
            have M := Lib.hid m1; clear m1
            go_wp2
            go_round
            case rel => exact ⟨k + 1, by omega, by go_num, H.out.trans (by rw [HX.out, allMV, if_pos (by unfold mvB; simp [M.out])])⟩
            case measure => simp [intOf]; omega
          · have e1 : ((s[k].toNat : Int) != 77) = true := by rw [bne_iff_ne]; omega
            have M := Lib.hid m1; clear m1
            by_cases m2 : s[k].toNat = 86
            · have e2 : ((s[k].toNat : Int) != 86) = false := by rw [bne_eq_false_iff_eq]; omega
              have M2 := Lib.hid m2; clear m2
              go_wp2
              go_round
              case rel => exact ⟨k + 1, by omega, by go_num, H.out.trans (by rw [HX.out, allMV, if_pos (by unfold mvB; simp [M2.out])])⟩
              case measure => simp [intOf]; omega
            · have e2 : ((s[k].toNat : Int) != 86) = true := by rw [bne_iff_ne]; omega
              have M2 := Lib.hid m2; clear m2
              go_wp2
              go_ret
              exact ⟨ret_bool (by unfold fvB; rw [allMV_eq, H.out, HX.out, allMV, if_neg (by have := M.out; have := M2.out; unfold mvB; simp; omega)]; simp), rfl⟩
        · go_wp2
          go_ret
          have e : s.data.toList.drop k = [] := List.drop_of_length_le (by simp; omega)
          exact ⟨ret_bool (by unfold fvB; rw [allMV_eq, H.out, e, allMV]; simp), rfl⟩
    · have d2 : ((s.size : Int) != n) = true := by rw [bne_iff_ne]; omega
      have G := Lib.hid g2; clear g2
      go_enter Try.func61, Try.ntmps61
      go_wp2
      go_ret
      exact ⟨ret_bool (by have := G.out; unfold fvB; simp; intro h; omega), rfl⟩


/-- whether angles with folds fold -/
def ffB (xs : List Int) (s : ByteArray) : Bool := foldsN 10 xs.length (angleAt xs) (byteAt s)
def vfB (xs : List Int) (s : ByteArray) : Bool := acB xs && fvB s.data.toList xs.length && ffB xs s
def rfB (xs : List Int) (s : ByteArray) : Bool := rvB xs s.data.toList && ffB xs s

theorem angleAt_mem {xs : List Int} {k : Nat} (h : k < xs.length) : angleAt xs k ∈ xs := by
  unfold angleAt
  rw [List.getD_eq_getElem?_getD, List.getElem?_eq_getElem h]
  exact List.getElem_mem h
theorem fvB_size {s : ByteArray} {n : Nat} (h : fvB s.data.toList n = true) : s.size = n := by
  unfold fvB at h
  simp at h
  omega

set_option maxHeartbeats 800000 in
theorem impl_VertexFolds (A : Option Addr) (cap : Nat) (xs : List Int) (s : ByteArray) (w : World) (h : Ints w A xs) (hl : xs.length ≤ maxLen) (hs : s.size ≤ maxLen) :
    Calls Try.prog 43 #[.slice A xs.length cap, .string s] w fun e w' => e = .returned (.bool (vfB xs s)) ∧ Below w.heap.size w w' := by
  cases hv : acB xs with
  | false =>
    have HV := Lib.hid hv; clear hv
    go_enter Try.func43, Try.ntmps43
    go_wp2_with fail
    refine (impl_AnglesCloses A cap xs w h hl).mono ?_
    rintro e w' ⟨rfl, rfl⟩
    rw [HV.out]
    go_wp2
    go_ret
    exact ⟨ret_bool (by unfold vfB; rw [HV.out]; rfl), Below.refl _ _⟩
  | true =>
    have hv2 := hv
    unfold acB at hv2
    rw [Bool.and_eq_true] at hv2
    obtain ⟨_, h2, h10, hx, _⟩ := avB_parts hv2.1
    have HV := Lib.hid hv; clear hv
    have HX := Lib.hid hx; clear hx hv2
    cases hf : fvB s.data.toList xs.length with
    | false =>
      have HF := Lib.hid hf; clear hf
      go_enter Try.func43, Try.ntmps43
      go_wp2_with fail
      refine (impl_AnglesCloses A cap xs w h hl).mono ?_
      rintro e w' ⟨rfl, rfl⟩
      rw [HV.out]
      go_wp2_with fail
      refine (impl_FoldsValid s xs.length w hs).mono ?_
      rintro e w' ⟨rfl, rfl⟩
      rw [HF.out]
      go_wp2
      go_ret
      exact ⟨ret_bool (by unfold vfB; rw [HV.out, HF.out]; rfl), Below.refl _ _⟩
    | true =>
      have hsz := fvB_size hf
      have HF := Lib.hid hf; clear hf
      have HS := Lib.hid hsz; clear hsz
      go_enter Try.func43, Try.ntmps43
      go_wp2_with fail
      refine (impl_AnglesCloses A cap xs w h hl).mono ?_
      rintro e w' ⟨rfl, rfl⟩
      rw [HV.out]
      go_wp2_with fail
      refine (impl_FoldsValid s xs.length w hs).mono ?_
      rintro e w' ⟨rfl, rfl⟩
      rw [HF.out]
      go_wp2_with fail
      refine (newRing_any w A cap xs s h (by omega) (by omega) (by have := HS.out; omega) (by have := HS.out; omega)).mono ?_
      rintro e w1 ⟨rfl, R, hb1⟩
      go_wp2_with fail
      refine (foldsDown_any w1 w.heap.size w.heap.size xs.length _ (angleAt xs) (byteAt s) R h2 h10 (byteAt_lt s) (fun k hk => by have := HX.out _ (angleAt_mem hk); omega) (Nat.le_refl _) (fun k _ => by show w.heap.size ≤ w.heap.size + 1 + k; omega) hb1.size).mono ?_
      rintro e w2 ⟨rfl, hb2⟩
      go_wp2
      go_ret
      exact ⟨ret_bool (by unfold vfB; rw [HV.out, HF.out]; rfl), hb1.trans hb2⟩



end Go.Proofs.Ytnccpifdajcejaa
namespace Go.Proofs.Ytnccpifdajcejaa
open Go.RowKit

def inB (n lo hi : Int) : Bool := decide (lo ≤ n) && decide (n ≤ hi)
theorem inB_yes {n lo hi : Int} (h1 : lo ≤ n) (h2 : n ≤ hi) : inB n lo hi = true := by unfold inB; simp [h1, h2]
theorem inB_low {n lo hi : Int} (h1 : n < lo) : inB n lo hi = false := by unfold inB; simp; intro h; omega
theorem inB_high {n lo hi : Int} (h1 : hi < n) : inB n lo hi = false := by unfold inB; simp; intro _; omega

set_option maxHeartbeats 400000 in
theorem spec_l6In (n lo hi : Int) (w : World) :
    Calls Try.prog 49 #[.int .i64 n, .int .i64 lo, .int .i64 hi] w fun e w' => e = .returned (.bool (inB n lo hi)) ∧ w = w' := by
  by_cases h1 : lo ≤ n
  · have d1 : decide (lo ≤ n) = true := by simp; omega
    by_cases h2 : n ≤ hi
    · have d2 : decide (n ≤ hi) = true := by simp; omega
      go_enter Try.func49, Try.ntmps49
      go_wp2
      go_ret
      exact ⟨ret_bool (inB_yes h1 h2).symm, rfl⟩
    · have d2 : decide (n ≤ hi) = false := by simp; omega
      go_enter Try.func49, Try.ntmps49
      go_wp2
      go_ret
      exact ⟨ret_bool (inB_high (by omega)).symm, rfl⟩
  · have d1 : decide (lo ≤ n) = false := by simp; omega
    go_enter Try.func49, Try.ntmps49
    go_wp2
    go_ret
    exact ⟨ret_bool (inB_low (by omega)).symm, rfl⟩

set_option maxHeartbeats 400000 in
theorem spec_FoldsValid (s : ByteArray) (n : Int) (w : World) (hs : s.size ≤ maxLen) :
    Calls Try.prog 66 #[.string s, .int .i64 n] w fun e w' => e = .returned (.bool (fvB s.data.toList n)) ∧ w = w' := by
  unfold maxLen at hs
  go_enter Try.func66, Try.ntmps66
  go_wp2
  go_loop [5] (fun i => ∃ k : Nat, k ≤ s.size ∧ i = .int .i64 k ∧ Hid (allMV s.data.toList = allMV (s.data.toList.drop k))) (fun i => s.size - (intOf i).toNat)
  case atStart => exact ⟨0, Nat.zero_le _, rfl, rfl⟩
  case round =>
    obtain ⟨k, hk, rfl, H⟩ := hrel
    by_cases hlt : k < s.size
    · have HX := Lib.hid (byte_drop hlt)
      by_cases m1 : s[k].toNat = 77
      · have e1 : ((s[k].toNat : Int) != 77) = false := by rw [bne_eq_false_iff_eq]; omega
        have M := Lib.hid m1; clear m1
        go_wp2
        go_round
        case rel => exact ⟨k + 1, by omega, by go_num, H.out.trans (by rw [HX.out, allMV, if_pos (by unfold mvB; simp [M.out])])⟩
        case measure => simp [intOf]; omega
      · have e1 : ((s[k].toNat : Int) != 77) = true := by rw [bne_iff_ne]; omega
        have M := Lib.hid m1; clear m1
        by_cases m2 : s[k].toNat = 86
        · have e2 : ((s[k].toNat : Int) != 86) = false := by rw [bne_eq_false_iff_eq]; omega
          have M2 := Lib.hid m2; clear m2
          go_wp2
          go_round
          case rel => exact ⟨k + 1, by omega, by go_num, H.out.trans (by rw [HX.out, allMV, if_pos (by unfold mvB; simp [M2.out])])⟩
          case measure => simp [intOf]; omega
        · have e2 : ((s[k].toNat : Int) != 86) = true := by rw [bne_iff_ne]; omega
          have M2 := Lib.hid m2; clear m2
          go_wp2
          go_ret
          exact ⟨ret_bool (by unfold fvB; rw [allMV_eq, H.out, HX.out, allMV, if_neg (by have := M.out; have := M2.out; unfold mvB; simp; omega)]; simp), rfl⟩
    · go_wp2
      go_ret
      have e : s.data.toList.drop k = [] := List.drop_of_length_le (by simp; omega)
      exact ⟨ret_bool (by unfold fvB; rw [allMV_eq, H.out, e, allMV, Bool.eq_iff_iff]; simp), rfl⟩

end Go.Proofs.Ytnccpifdajcejaa
namespace Go.Proofs.Ytnccpifdajcejaa
open Go.RowKit

set_option maxHeartbeats 400000 in
theorem spec_l1Sum (A : Option Addr) (cap : Nat) (xs : List Int) (w : World) (h : Ints w A xs) (hl : xs.length ≤ 1000) (hx : ∀ x ∈ xs, -1000000 ≤ x ∧ x ≤ 1000000) :
    Calls Try.prog 94 #[.slice A xs.length cap] w fun e w' => e = .returned (.int .i64 xs.sum) ∧ w = w' := by
  go_enter Try.func94, Try.ntmps94
  go_wp2
  go_loop [3, 4] (fun s i => ∃ (k : Nat) (v : Int), k ≤ xs.length ∧ i = .int .i64 k ∧ s = .int .i64 v ∧ -1000000 * (k : Int) ≤ v ∧ v ≤ 1000000 * (k : Int) ∧ Hid (sumGo 0 xs = sumGo v (xs.drop k))) (fun _ i => xs.length - (intOf i).toNat)
  case atStart => exact ⟨0, 0, Nat.zero_le _, rfl, rfl, by simp, by simp, rfl⟩
  case round =>
    obtain ⟨k, v, hk, rfl, rfl, b1, b2, H⟩ := hrel
    by_cases hlt : k < xs.length
    · obtain ⟨b, off, x, rfl, hb, HX, hc, hm⟩ := h.at_ hlt
      obtain ⟨x1, x2⟩ := hx x hm
      clear hx hm
      go_wp2
      go_round
      case rel => exact ⟨k + 1, v + x, by omega, by go_num, rfl, by omega, by omega, H.out.trans (by rw [HX.out, sumGo])⟩
      case measure => simp [intOf]; omega
    · go_wp2
      go_ret
      have e : xs.drop k = [] := List.drop_of_length_le (by omega)
      exact ⟨ret_int (by have := H.out; rw [e, sumGo, sumGo_eq] at this; omega), rfl⟩

set_option maxHeartbeats 400000 in
theorem spec_l1Alternate (A : Option Addr) (cap : Nat) (xs : List Int) (w : World) (h : Ints w A xs) (hl : xs.length ≤ 100) (hx : ∀ x ∈ xs, 0 ≤ x ∧ x ≤ 1000) :
    Calls Try.prog 89 #[.slice A xs.length cap] w fun e w' => e = .returned (.int .i64 (balGo 0 0 xs)) ∧ w = w' := by
  go_enter Try.func89, Try.ntmps89
  go_wp2
  go_loop [3, 4] (fun s i => ∃ (k : Nat) (v : Int), k ≤ xs.length ∧ i = .int .i64 k ∧ s = .int .i64 v ∧ -1000 * (k : Int) ≤ v ∧ v ≤ 1000 * (k : Int) ∧ Hid (balGo 0 0 xs = balGo k v (xs.drop k))) (fun _ i => xs.length - (intOf i).toNat)
  case atStart => exact ⟨0, 0, Nat.zero_le _, rfl, rfl, by simp, by simp, rfl⟩
  case round =>
    obtain ⟨k, v, hk, rfl, rfl, b1, b2, H⟩ := hrel
    by_cases hlt : k < xs.length
    · obtain ⟨b, off, x, rfl, hb, HX, hc, hm⟩ := h.at_ hlt
      obtain ⟨x1, x2⟩ := hx x hm
      clear hx hm
      by_cases hp : k % 2 = 0
      · have HP := Lib.hid hp; clear hp
        have hpk : (((k : Int) % 2) == 0) = true := by have := HP.out; simp; omega
        go_wp2
        go_round
        case rel => exact ⟨k + 1, v + x, by omega, by go_num, rfl, by omega, by omega, H.out.trans (by rw [HX.out, balGo, if_pos HP.out])⟩
        case measure => simp [intOf]; omega
      · have HP := Lib.hid hp; clear hp
        have hpk : (((k : Int) % 2) == 0) = false := by have := HP.out; simp; omega
        go_wp2
        go_round
        case rel => exact ⟨k + 1, v - x, by omega, by go_num, rfl, by omega, by omega, H.out.trans (by rw [HX.out, balGo, if_neg HP.out])⟩
        case measure => simp [intOf]; omega
    · go_wp2
      go_ret
      have e : xs.drop k = [] := List.drop_of_length_le (by omega)
      exact ⟨ret_int (by rw [H.out, e, balGo]), rfl⟩

def inAll (lo hi : Int) : List Int → Bool
  | [] => true
  | x :: r => if inB x lo hi then inAll lo hi r else false
theorem inAll_eq (lo hi : Int) (l : List Int) : l.all (fun x => decide (lo ≤ x) && decide (x ≤ hi)) = inAll lo hi l := by
  induction l with
  | nil => rfl
  | cons x r ih =>
    rw [List.all_cons, ih, inAll]
    show (inB x lo hi && _) = _
    cases inB x lo hi <;> rfl

set_option maxHeartbeats 800000 in
theorem spec_AnglesValid (A : Option Addr) (cap : Nat) (xs : List Int) (w : World) (h : Ints w A xs) (hl : xs.length ≤ maxLen) :
    Calls Try.prog 88 #[.slice A xs.length cap] w fun e w' => e = .returned (.bool (avB xs)) ∧ w = w' := by
  unfold maxLen at hl
  go_enter Try.func88, Try.ntmps88
  go_wp2_with fail
  go_loop [3] (fun i => ∃ (k : Nat), k ≤ xs.length ∧ i = .int .i64 k ∧ Hid (inAll 1 360 xs = inAll 1 360 (xs.drop k))) (fun i => xs.length - (intOf i).toNat)
  case atStart => exact ⟨0, Nat.zero_le _, rfl, rfl⟩
  case round =>
    obtain ⟨k, hk, rfl, H⟩ := hrel
    by_cases hlt : k < xs.length
    · obtain ⟨b, off, x, rfl, hb, HX, hc, hm⟩ := h.at_ hlt
      clear hm
      go_wp2_with fail
      refine (spec_l6In x 1 360 w).mono ?_
      rintro e w' ⟨rfl, rfl⟩
      cases hi : inB x 1 360 with
      | false =>
        have HI := Lib.hid hi; clear hi
        go_wp2_with fail
        go_ret
        exact ⟨ret_bool (by unfold avB; rw [inAll_eq, H.out, HX.out, inAll, HI.out]; simp), rfl⟩
      | true =>
        have HI := Lib.hid hi; clear hi
        go_wp2_with fail
        go_round
        case rel => exact ⟨k + 1, by omega, by go_num, H.out.trans (by rw [HX.out, inAll, if_pos HI.out])⟩
        case measure => simp [intOf]; omega
    · have e : xs.drop k = [] := List.drop_of_length_le (by omega)
      have hall : inAll 1 360 xs = true := by rw [H.out, e]; rfl
      have hall2 := hall
      rw [← inAll_eq] at hall2
      have hb : ∀ x ∈ xs, 1 ≤ x ∧ x ≤ 360 := by simpa using hall2
      have HA := Lib.hid hall
      have HB := Lib.hid hb
      clear hall hall2 hb e
      by_cases g3 : xs.length % 2 = 0
      · have d3 : (((xs.length : Int) % 2) == 0) = true := by simp; omega
        have G := Lib.hid g3; clear g3
        go_wp2_with fail
        refine (spec_l6In xs.length 2 10 w).mono ?_
        rintro e w' ⟨rfl, rfl⟩
        cases hi : inB xs.length 2 10 with
        | false =>
          have HI := Lib.hid hi; clear hi
          go_wp2_with fail
          go_ret
          exact ⟨ret_bool (by
            have h2 := HI.out
            have e3 : (decide (2 ≤ xs.length) && decide (xs.length ≤ 10)) = false := by
              unfold inB at h2; revert h2; simp; intro a b; omega
            unfold avB
            rw [Bool.and_assoc (decide (xs.length % 2 = 0)), e3]; simp), rfl⟩
        | true =>
          have hlen : 2 ≤ xs.length ∧ xs.length ≤ 10 := by
            unfold inB at hi; simp at hi; omega
          have HI := Lib.hid hi; clear hi
          go_wp2_with fail
          refine (spec_l1Sum A cap xs w h (by omega) (fun x hx => by have := HB.out x hx; omega)).mono ?_
          rintro e w' ⟨rfl, rfl⟩
          go_wp2_with fail
          go_ret
          exact ⟨ret_bool (by unfold avB; rw [inAll_eq, HA.out, Bool.eq_iff_iff]; have := G.out; simp; omega), rfl⟩
      · have d3 : (((xs.length : Int) % 2) == 0) = false := by simp; omega
        have G := Lib.hid g3; clear g3
        go_wp2_with fail
        go_ret
        exact ⟨ret_bool (by have := G.out; unfold avB; simp; omega), rfl⟩

end Go.Proofs.Ytnccpifdajcejaa
namespace Go.Proofs.Ytnccpifdajcejaa
open Go.RowKit

set_option maxHeartbeats 400000 in
theorem spec_AnglesCloses (A : Option Addr) (cap : Nat) (xs : List Int) (w : World) (h : Ints w A xs) (hl : xs.length ≤ maxLen) :
    Calls Try.prog 74 #[.slice A xs.length cap] w fun e w' => e = .returned (.bool (acB xs)) ∧ w = w' := by
  cases hv : avB xs with
  | false =>
    have HV := Lib.hid hv; clear hv
    go_enter Try.func74, Try.ntmps74
    go_wp2_with fail
    refine (spec_AnglesValid A cap xs w h hl).mono ?_
    rintro e w' ⟨rfl, rfl⟩
    rw [HV.out]
    go_wp2_with fail
    go_ret
    exact ⟨ret_bool (by unfold acB; rw [HV.out]; rfl), rfl⟩
  | true =>
    obtain ⟨_, _, h10, hx, _⟩ := avB_parts hv
    have HV := Lib.hid hv; clear hv
    have HX := Lib.hid hx; clear hx
    go_enter Try.func74, Try.ntmps74
    go_wp2_with fail
    refine (spec_AnglesValid A cap xs w h hl).mono ?_
    rintro e w' ⟨rfl, rfl⟩
    rw [HV.out]
    go_wp2_with fail
    refine (spec_l1Alternate A cap xs w h (by omega) (fun x hx => by have := HX.out x hx; omega)).mono ?_
    rintro e w' ⟨rfl, rfl⟩
    go_wp2_with fail
    go_ret
    exact ⟨ret_bool (by unfold acB balB; rw [HV.out, Bool.eq_iff_iff]; simp), rfl⟩



def leastGo : Int → List Int → Int
  | m, [] => m
  | m, x :: r => leastGo (if x < m then x else m) r

set_option maxHeartbeats 800000 in
theorem spec_l1Least (A : Option Addr) (cap : Nat) (xs : List Int) (w : World) (h : Ints w A xs) (h0 : 0 < xs.length) (hl : xs.length ≤ maxLen) :
    Calls Try.prog 97 #[.slice A xs.length cap] w fun e w' => e = .returned (.int .i64 (leastGo (angleAt xs 0) xs)) ∧ w = w' := by
  unfold maxLen at hl
  obtain ⟨b, off, y, rfl, hb, HY, hc0, _⟩ := h.at_ (k := 0) h0
  have hy := angle_of HY.out
  rw [Nat.add_zero] at hc0
  rw [hy]
  clear HY hy
  go_enter Try.func97, Try.ntmps97
  go_wp2_with fail
  go_loop [3, 4] (fun m i => ∃ (k : Nat) (v : Int), k ≤ xs.length ∧ i = .int .i64 k ∧ m = .int .i64 v ∧ Hid (leastGo y xs = leastGo v (xs.drop k))) (fun _ i => xs.length - (intOf i).toNat)
  case atStart => exact ⟨0, y, Nat.zero_le _, rfl, rfl, rfl⟩
  case round =>
    obtain ⟨k, v, hk, rfl, rfl, H⟩ := hrel
    by_cases hlt : k < xs.length
    · obtain ⟨b2, off2, x, e2, hb2, HX, hc, hm⟩ := h.at_ hlt
      injection e2 with e2
      injection e2 with e3 e4
      subst e3 e4
      clear hm
      go_wp2_with fail
      go_round
      case rel => exact ⟨k + 1, if x < v then x else v, by omega, by go_num, rfl, H.out.trans (by rw [HX.out, leastGo])⟩
      case measure => simp [intOf]; omega
    · go_wp2_with fail
      go_ret
      have e : xs.drop k = [] := List.drop_of_length_le (by omega)
      exact ⟨ret_int (by rw [H.out, e, leastGo]), rfl⟩

end Go.Proofs.Ytnccpifdajcejaa
namespace Go.Proofs.Ytnccpifdajcejaa
open Go.RowKit

theorem mem_drop_yes {l r : List Int} {k : Nat} {y : Int} (h : l.drop k = y :: r) : y ∈ l := by
  have : y ∈ l.drop k := by rw [h]; simp
  exact List.mem_of_mem_drop this

set_option maxHeartbeats 400000 in
theorem spec_l2Has (A : Option Addr) (cap : Nat) (xs : List Int) (z : Int) (w : World) (h : Ints w A xs) (hl : xs.length ≤ maxLen) :
    Calls Try.prog 75 #[.slice A xs.length cap, .int .i64 z] w fun e w' => e = .returned (.bool (decide (z ∈ xs))) ∧ w = w' := by
  unfold maxLen at hl
  go_enter Try.func75, Try.ntmps75
  go_wp2_with fail
  go_loop [5] (fun s5 => ∃ k : Nat, k ≤ xs.length ∧ s5 = .int .i64 k ∧ Hid ((z ∈ xs) ↔ (z ∈ xs.drop k))) (fun s5 => xs.length - (intOf s5).toNat)
  case atStart => exact ⟨0, Nat.zero_le _, rfl, by show _ ↔ _; simp⟩
  case round =>
    obtain ⟨k, hk, rfl, H⟩ := hrel
    by_cases hlt : k < xs.length
    · obtain ⟨b, off, y, rfl, _, HX, hc, _⟩ := h.at_ hlt
      have k1 : (k : Int) < (xs.length : Int) := by omega
      by_cases q : y = z
      · have d : (y == z) = true := by rw [beq_iff_eq]; exact q
        have hm : z ∈ xs := q ▸ mem_drop_yes HX.out
        have HM := Lib.hid hm
        clear q hm
        go_wp2_with fail
        go_ret
        exact ⟨ret_bool (by rw [decide_eq_true HM.out]), rfl⟩
      · have d : (y == z) = false := by rw [beq_eq_false_iff_ne]; exact q
        have H2 : Hid ((z ∈ xs) ↔ (z ∈ xs.drop (k + 1))) := by
          show _ ↔ _
          rw [H.out, HX.out, List.mem_cons]
          exact ⟨fun e => e.resolve_left (fun e => q e.symm), Or.inr⟩
        clear q
        go_wp2_with fail
        go_round
        case rel => exact ⟨k + 1, by omega, by go_num, H2⟩
        case measure => simp [intOf]; omega
    · obtain rfl : k = xs.length := by omega
      have hm : ¬ z ∈ xs := by rw [H.out]; simp
      have HM := Lib.hid hm
      clear hm
      go_wp2_with fail
      go_ret
      exact ⟨ret_bool (by rw [decide_eq_false HM.out]), rfl⟩

set_option maxHeartbeats 1000000 in
theorem spec_l6pUses (A : Option Addr) (cap : Nat) (vs : List Vx) (z : Int) (w : World) (h : Verts w A vs) (hl : vs.length ≤ 1000000) :
    Calls Try.prog 52 #[.slice A vs.length cap, .int .i64 z] w fun e w' => e = .returned (.int .i64 (useN vs z : Int)) ∧ w = w' := by
  go_enter Try.func52, Try.ntmps52
  go_wp2_with fail
  go_loop [5, 6] (fun s5 s6 => ∃ (k n : Nat), k ≤ vs.length ∧ s6 = .int .i64 k ∧ s5 = .int .i64 n ∧ n ≤ k ∧ Hid (n + useN (vs.drop k) z = useN vs z)) (fun _ s6 => vs.length - (intOf s6).toNat)
  case atStart => exact ⟨0, 0, Nat.zero_le _, rfl, rfl, Nat.le_refl _, by show 0 + _ = _; simp⟩
  case round =>
    obtain ⟨k, n, hk, rfl, rfl, hn, H⟩ := hrel
    by_cases hlt : k < vs.length
    · obtain ⟨b, off, A1, c1, A2, c2, rfl, hb, r1, r2, _, _, _, i2, l2, m2⟩ := h.at_ hlt
      have hd := List.drop_eq_getElem_cons hlt
      have k1 : (k : Int) < (vs.length : Int) := by omega
      have hcall : ∀ W : World, Ints W A2 vs[k].2 → Calls Try.prog 75 #[.slice A2 vs[k].2.length c2, .int .i64 z] W fun e w' => e = .returned (.bool (decide (z ∈ vs[k].2))) ∧ W = w' := fun W hI => spec_l2Has A2 c2 vs[k].2 z W hI (Nat.le_trans l2 m2)
      have HCALL := Lib.hid hcall
      have HI2 := Lib.hid i2
      by_cases q : z ∈ vs[k].2
      · have H2 : Hid (n + 1 + useN (vs.drop (k + 1)) z = useN vs z) := by show _ = _; rw [← H.out, hd, useN, if_pos q]; omega
        have HQ := Lib.hid q
        clear hd hcall i2 q
        go_wp2_with fail
        refine (HCALL.out w HI2.out).mono ?_
        rintro e w' ⟨rfl, rfl⟩
        rw [decide_eq_true HQ.out]
        go_wp2_with fail
        go_round
        case rel => exact ⟨k + 1, n + 1, by omega, by go_num, by go_num, by omega, H2⟩
        case measure => simp [intOf]; omega
      · have H2 : Hid (n + useN (vs.drop (k + 1)) z = useN vs z) := by show _ = _; rw [← H.out, hd, useN, if_neg q]; omega
        have HQ := Lib.hid q
        clear hd hcall i2 q
        go_wp2_with fail
        refine (HCALL.out w HI2.out).mono ?_
        rintro e w' ⟨rfl, rfl⟩
        rw [decide_eq_false HQ.out]
        go_wp2_with fail
        go_round
        case rel => exact ⟨k + 1, n, by omega, by go_num, rfl, by omega, H2⟩
        case measure => simp [intOf]; omega
    · obtain rfl : k = vs.length := by omega
      go_wp2_with fail
      go_ret
      exact ⟨ret_int (by rw [← H.out, List.drop_length]; simp [useN]), rfl⟩

set_option maxHeartbeats 1000000 in
theorem spec_l6pCreases (A : Option Addr) (cap : Nat) (vs : List Vx) (w : World) (h : Verts w A vs) (hl : vs.length ≤ 1000000) (hx : ∀ v ∈ vs, v.2.length ≤ 1000000 ∧ ∀ x ∈ v.2, 0 ≤ x ∧ x ≤ 9) :
    Calls Try.prog 51 #[.slice A vs.length cap] w fun e w' => e = .returned (.int .i64 (ncr vs)) ∧ w = w' := by
  have HX := Lib.hid hx
  clear hx
  go_enter Try.func51, Try.ntmps51
  go_wp2_with fail
  go_loop [3, 4, 5] (fun s3 s4 s5 => ∃ (k : Nat) (m : Int), k ≤ vs.length ∧ s4 = .int .i64 k ∧ s3 = .int .i64 m ∧ 0 ≤ m ∧ m ≤ 10 ∧ Hid (ncGo m (vs.drop k) = ncr vs)) (fun _ s4 _ => vs.length - (intOf s4).toNat)
  case atStart => exact ⟨0, 0, Nat.zero_le _, rfl, rfl, by omega, by omega, rfl⟩
  case round =>
    obtain ⟨k, m, hk, rfl, rfl, hm0, hm1, H⟩ := hrel
    by_cases hlt : k < vs.length
    · obtain ⟨b, off, A1, c1, A2, c2, rfl, hb, r1, r2, _, _, _, i2, l2, m2⟩ := h.at_ hlt
      have hd := List.drop_eq_getElem_cons hlt
      have hvx := HX.out vs[k] (List.getElem_mem hlt)
      obtain ⟨cs, hcs⟩ : ∃ cs, cs = vs[k].2 := ⟨_, rfl⟩
      rw [← hcs] at r2 i2 l2 hvx
      have H2 : Hid (ncGo (mxGo m cs) (vs.drop (k + 1)) = ncr vs) := by show _ = _; rw [← H.out, hd, ncGo, hcs]
      have hcl := hvx.1
      have HVX := Lib.hid hvx.2
      have k1 : (k : Int) < (vs.length : Int) := by omega
      clear hd hcs hvx
      go_wp2_with fail
      go_loop [3, 5] (fun s3 s5 => ∃ (j : Nat) (q : Int), j ≤ cs.length ∧ s5 = .int .i64 j ∧ s3 = .int .i64 q ∧ 0 ≤ q ∧ q ≤ 10 ∧ Hid (mxGo q (cs.drop j) = mxGo m cs)) (fun _ s5 => cs.length - (intOf s5).toNat)
      case atStart => exact ⟨0, m, Nat.zero_le _, rfl, rfl, hm0, hm1, rfl⟩
      case round =>
        obtain ⟨j, q, hj, rfl, rfl, hq0, hq1, HQ⟩ := hrel
        by_cases hjl : j < cs.length
        · obtain ⟨b2, off2, y, rfl, _, HXY, hc2, hym⟩ := i2.at_ hjl
          obtain ⟨y0, y9⟩ := HVX.out y hym
          have j1 : (j : Int) < (cs.length : Int) := by omega
          have HQ2 : Hid (mxGo (if q < y + 1 then y + 1 else q) (cs.drop (j + 1)) = mxGo m cs) := by show _ = _; rw [← HQ.out, HXY.out, mxGo]
          clear hym
          by_cases hqy : q < y + 1
          · rw [if_pos hqy] at HQ2
            go_wp2_with fail
            go_round
            case rel => exact ⟨j + 1, y + 1, by omega, by go_num, by first | rfl | (congr 1; omega), by omega, by omega, HQ2⟩
            case measure => simp [intOf]; omega
          · rw [if_neg hqy] at HQ2
            go_wp2_with fail
            go_round
            case rel => exact ⟨j + 1, q, by omega, by go_num, by first | rfl | (congr 1; omega), by omega, by omega, HQ2⟩
            case measure => simp [intOf]; omega
        · obtain rfl : j = cs.length := by omega
          have HQ3 : Hid (q = mxGo m cs) := by
            have := HQ.out
            rw [List.drop_length] at this
            exact this
          have H3 : Hid (ncGo q (vs.drop (k + 1)) = ncr vs) := by show _ = _; rw [HQ3.out]; exact H2.out
          go_wp2_with fail
          go_round
          case rel => exact ⟨k + 1, q, by omega, by go_num, rfl, by omega, by omega, H3⟩
          case measure => simp [intOf]; omega
    · obtain rfl : k = vs.length := by omega
      go_wp2_with fail
      go_ret
      exact ⟨ret_int (by rw [← H.out, List.drop_length]; rfl), rfl⟩
end Go.Proofs.Ytnccpifdajcejaa
