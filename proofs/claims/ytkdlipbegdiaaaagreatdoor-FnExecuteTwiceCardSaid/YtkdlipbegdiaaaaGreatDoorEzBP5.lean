/- The program's tests of folds, lengths and rings, and whether a vertex or a ring folds. No condition but sizes. The reference's tests of angles, folds and lengths. No condition but sizes. The reference's sums and tests of angles, lengths and rings. No condition but sizes. The reference's tests of angles that close, of lengths and rings, and its least number. No condition but sizes. The reference's 'l1Crimps': the same indexes as the program's 'crimps'. No condition but sizes. -/
import Derived.Test.YtkdlipbegdiaaaaGreatDoorEzBP3
import Derived.Test.YtkdlipbegdiaaaaGreatDoorEzBP4
namespace Go.Proofs.YtkdlipbegdiaaaaGreatDoor
open Go.RowKit
/-- the byte k of a text, and what is left behind it -/
theorem byte_drop {s : ByteArray} {k : Nat} (h : k < s.size) : s.data.toList.drop k = s[k] :: s.data.toList.drop (k + 1) := by
  have hl : k < s.data.toList.length := by simpa using h
  rw [List.drop_eq_getElem_cons hl]; rfl
def allMV : List UInt8 → Bool
  | [] => true
  | c :: r => if mvB c then allMV r else false
theorem allMV_eq (l : List UInt8) : l.all mvB = allMV l := by
  induction l with
  | nil => rfl
  | cons c r ih => simp only [List.all_cons, allMV, ih]; cases mvB c <;> rfl
set_option maxHeartbeats 400000 in
theorem impl_FoldsValid (s : ByteArray) (n : Int) (w : World) (hs : s.size ≤ maxLen) :
    Calls Tryz.prog 39 #[.string s, .int .i64 n] w fun e w' => e = .returned (.bool (fvB s.data.toList n)) ∧ w = w' := by
  unfold maxLen at hs
  by_cases g1 : n < 0
  · have d1 : decide (n < 0) = true := by simp; omega
    go_enter Tryz.func39, Tryz.ntmps39
    go_wp2
    go_ret
    exact ⟨ret_bool (by unfold fvB; simp; intro h; omega), rfl⟩
  · have d1 : decide (n < 0) = false := by simp; omega
    by_cases g2 : (s.size : Int) = n
    · subst g2
      clear d1 g1
      have d0 : decide ((s.size : Int) < 0) = false := by simp
      go_enter Tryz.func39, Tryz.ntmps39
      go_wp2
      go_loop [5] (fun i => ∃ k : Nat, k ≤ s.size ∧ i = .int .i64 k ∧ Hid (allMV s.data.toList = allMV (s.data.toList.drop k))) (fun i => s.size - (intOf i).toNat)
      case atStart => exact ⟨0, Nat.zero_le _, rfl, rfl⟩
      case round =>
        obtain ⟨k, hk, rfl, H⟩ := hrel
        by_cases hlt : k < s.size
        · have HX := Lib.hid (byte_drop hlt)
          by_cases m1 : s[k].toNat = 77
          · have e1 : ((s[k].toNat : Int) != 77) = false := by rw [bne_eq_false_iff_eq]; omega
            have M := Lib.hid m1; clear m1
            go_wp2
            go_round
            case rel => exact ⟨k + 1, by omega, by go_num, H.out.trans (by rw [HX.out, allMV, if_pos (by unfold mvB; simp [M.out])])⟩
            case measure => simp [intOf]; omega
          · have e1 : ((s[k].toNat : Int) != 77) = true := by rw [bne_iff_ne]; omega
            have M := Lib.hid m1; clear m1
            by_cases m2 : s[k].toNat = 86
            · have e2 : ((s[k].toNat : Int) != 86) = false := by rw [bne_eq_false_iff_eq]; omega
              have M2 := Lib.hid m2; clear m2
              go_wp2
              go_round
              case rel => exact ⟨k + 1, by omega, by go_num, H.out.trans (by rw [HX.out, allMV, if_pos (by unfold mvB; simp [M2.out])])⟩
              case measure => simp [intOf]; omega
            · have e2 : ((s[k].toNat : Int) != 86) = true := by rw [bne_iff_ne]; omega
              have M2 := Lib.hid m2; clear m2
              go_wp2
              go_ret
              exact ⟨ret_bool (by unfold fvB; rw [allMV_eq, H.out, HX.out, allMV, if_neg (by have := M.out; have := M2.out; unfold mvB; simp; omega)]; simp), rfl⟩
        · go_wp2
          go_ret
          have e : s.data.toList.drop k = [] := List.drop_of_length_le (by simp; omega)
          exact ⟨ret_bool (by unfold fvB; rw [allMV_eq, H.out, e, allMV]; simp), rfl⟩
    · have d2 : ((s.size : Int) != n) = true := by rw [bne_iff_ne]; omega
      have G := Lib.hid g2; clear g2
      go_enter Tryz.func39, Tryz.ntmps39
      go_wp2
      go_ret
      exact ⟨ret_bool (by have := G.out; unfold fvB; simp; intro h; omega), rfl⟩
def lvGo : List Int → Bool
  | [] => true
  | x :: r => if x < 1 then false else if 1000 < x then false else lvGo r
theorem lvGo_eq (l : List Int) : l.all (fun x => decide (1 ≤ x) && decide (x ≤ 1000)) = lvGo l := by
  induction l with
  | nil => rfl
  | cons x r ih =>
    rw [List.all_cons, ih, lvGo]
    by_cases h1 : x < 1
    · simp [h1]; intro h; omega
    · by_cases h2 : 1000 < x
      · simp [h1, h2]; intro _ h; omega
      · have e1 : 1 ≤ x := by omega
        have e2 : x ≤ 1000 := by omega
        simp [h1, h2, e1, e2]
set_option maxHeartbeats 400000 in
theorem impl_lengthsValid (A : Option Addr) (cap : Nat) (xs : List Int) (w : World) (h : Ints w A xs) (hl : xs.length ≤ maxLen) :
    Calls Tryz.prog 38 #[.slice A xs.length cap] w fun e w' => e = .returned (.bool (lvB xs)) ∧ w = w' := by
  unfold maxLen at hl
  by_cases g1 : xs.length < 1
  · have d1 : decide ((xs.length : Int) < 1) = true := by simp; omega
    go_enter Tryz.func38, Tryz.ntmps38
    go_wp2
    go_ret
    exact ⟨ret_bool (by unfold lvB; simp; omega), rfl⟩
  · have d1 : decide ((xs.length : Int) < 1) = false := by simp; omega
    by_cases g2 : 6 < xs.length
    · have d2 : decide ((6 : Int) < (xs.length : Int)) = true := by simp; omega
      go_enter Tryz.func38, Tryz.ntmps38
      go_wp2
      go_ret
      exact ⟨ret_bool (by unfold lvB; simp; omega), rfl⟩
    · have d2 : decide ((6 : Int) < (xs.length : Int)) = false := by simp; omega
      go_enter Tryz.func38, Tryz.ntmps38
      go_wp2
      go_loop [15] (fun i => ∃ (k : Nat), k ≤ xs.length ∧ i = .int .i64 k ∧ Hid (lvGo xs = lvGo (xs.drop k))) (fun i => xs.length - (intOf i).toNat)
      case atStart => exact ⟨0, Nat.zero_le _, rfl, rfl⟩
      case round =>
        obtain ⟨k, hk, rfl, H⟩ := hrel
        by_cases hlt : k < xs.length
        · obtain ⟨b, off, x, rfl, hb, HX, hc, hm⟩ := h.at_ hlt
          clear hm
          by_cases t1 : x < 1
          · have e1 : decide (x < 1) = true := by simp; omega
            go_wp2
            go_ret
            exact ⟨ret_bool (by unfold lvB; rw [lvGo_eq, H.out, HX.out, lvGo, if_pos t1]; simp), rfl⟩
          · have e1 : decide (x < 1) = false := by simp; omega
            by_cases t2 : 1000 < x
            · have e2 : decide ((1000 : Int) < x) = true := by simp; omega
              go_wp2
              go_ret
              exact ⟨ret_bool (by unfold lvB; rw [lvGo_eq, H.out, HX.out, lvGo, if_neg (by omega), if_pos t2]; simp), rfl⟩
            · have e2 : decide ((1000 : Int) < x) = false := by simp; omega
              go_wp2
              go_round
              case rel => exact ⟨k + 1, by omega, by go_num, H.out.trans (by rw [HX.out, lvGo, if_neg (by omega), if_neg (by omega)])⟩
              case measure => simp [intOf]; omega
        · go_wp2
          go_ret
          have e : xs.drop k = [] := List.drop_of_length_le (by omega)
          exact ⟨ret_bool (by unfold lvB; rw [lvGo_eq, H.out, e, lvGo]; simp; omega), rfl⟩
/-- whether angles with folds fold -/
def ffB (xs : List Int) (s : ByteArray) : Bool := foldsN 10 xs.length (angleAt xs) (byteAt s)
def vfB (xs : List Int) (s : ByteArray) : Bool := acB xs && fvB s.data.toList xs.length && ffB xs s
theorem angleAt_mem {xs : List Int} {k : Nat} (h : k < xs.length) : angleAt xs k ∈ xs := by
  unfold angleAt
  rw [List.getD_eq_getElem?_getD, List.getElem?_eq_getElem h]
  exact List.getElem_mem h
theorem fvB_size {s : ByteArray} {n : Nat} (h : fvB s.data.toList n = true) : s.size = n := by
  unfold fvB at h
  simp at h
  omega
set_option maxHeartbeats 800000 in
theorem impl_VertexFolds (A : Option Addr) (cap : Nat) (xs : List Int) (s : ByteArray) (w : World) (h : Ints w A xs) (hl : xs.length ≤ maxLen) (hs : s.size ≤ maxLen) :
    Calls Tryz.prog 133 #[.slice A xs.length cap, .string s] w fun e w' => e = .returned (.bool (vfB xs s)) ∧ Below w.heap.size w w' := by
  cases hv : acB xs with
  | false =>
    have HV := Lib.hid hv; clear hv
    go_enter Tryz.func133, Tryz.ntmps133
    go_wp2_with fail
    refine (impl_AnglesCloses A cap xs w h hl).mono ?_
    rintro e w' ⟨rfl, rfl⟩
    rw [HV.out]
    go_wp2
    go_ret
    exact ⟨ret_bool (by unfold vfB; rw [HV.out]; rfl), Below.refl _ _⟩
  | true =>
    have hv2 := hv
    unfold acB at hv2
    rw [Bool.and_eq_true] at hv2
    obtain ⟨_, h2, h10, hx, _⟩ := avB_parts hv2.1
    have HV := Lib.hid hv; clear hv
    have HX := Lib.hid hx; clear hx hv2
    cases hf : fvB s.data.toList xs.length with
    | false =>
      have HF := Lib.hid hf; clear hf
      go_enter Tryz.func133, Tryz.ntmps133
      go_wp2_with fail
      refine (impl_AnglesCloses A cap xs w h hl).mono ?_
      rintro e w' ⟨rfl, rfl⟩
      rw [HV.out]
      go_wp2_with fail
      refine (impl_FoldsValid s xs.length w hs).mono ?_
      rintro e w' ⟨rfl, rfl⟩
      rw [HF.out]
      go_wp2
      go_ret
      exact ⟨ret_bool (by unfold vfB; rw [HV.out, HF.out]; rfl), Below.refl _ _⟩
    | true =>
      have hsz := fvB_size hf
      have HF := Lib.hid hf; clear hf
      have HS := Lib.hid hsz; clear hsz
      go_enter Tryz.func133, Tryz.ntmps133
      go_wp2_with fail
      refine (impl_AnglesCloses A cap xs w h hl).mono ?_
      rintro e w' ⟨rfl, rfl⟩
      rw [HV.out]
      go_wp2_with fail
      refine (impl_FoldsValid s xs.length w hs).mono ?_
      rintro e w' ⟨rfl, rfl⟩
      rw [HF.out]
      go_wp2_with fail
      refine (newRing_any w A cap xs s h (by omega) (by omega) (by have := HS.out; omega) (by have := HS.out; omega)).mono ?_
      rintro e w1 ⟨rfl, R, hb1⟩
      go_wp2_with fail
      refine (foldsDown_any w1 w.heap.size w.heap.size xs.length _ (angleAt xs) (byteAt s) R h2 h10 (byteAt_lt s) (fun k hk => by have := HX.out _ (angleAt_mem hk); omega) (Nat.le_refl _) (fun k _ => by show w.heap.size ≤ w.heap.size + 1 + k; omega) hb1.size).mono ?_
      rintro e w2 ⟨rfl, hb2⟩
      go_wp2
      go_ret
      exact ⟨ret_bool (by unfold vfB; rw [HV.out, HF.out]; rfl), hb1.trans hb2⟩
end Go.Proofs.YtkdlipbegdiaaaaGreatDoor
namespace Go.Proofs.YtkdlipbegdiaaaaGreatDoor
open Go.RowKit
def inB (n lo hi : Int) : Bool := decide (lo ≤ n) && decide (n ≤ hi)
theorem inB_yes {n lo hi : Int} (h1 : lo ≤ n) (h2 : n ≤ hi) : inB n lo hi = true := by unfold inB; simp [h1, h2]
theorem inB_low {n lo hi : Int} (h1 : n < lo) : inB n lo hi = false := by unfold inB; simp; intro h; omega
theorem inB_high {n lo hi : Int} (h1 : hi < n) : inB n lo hi = false := by unfold inB; simp; intro _; omega
set_option maxHeartbeats 400000 in
theorem spec_l6In (n lo hi : Int) (w : World) :
    Calls Tryz.prog 66 #[.int .i64 n, .int .i64 lo, .int .i64 hi] w fun e w' => e = .returned (.bool (inB n lo hi)) ∧ w = w' := by
  by_cases h1 : lo ≤ n
  · have d1 : decide (lo ≤ n) = true := by simp; omega
    by_cases h2 : n ≤ hi
    · have d2 : decide (n ≤ hi) = true := by simp; omega
      go_enter Tryz.func66, Tryz.ntmps66
      go_wp2
      go_ret
      exact ⟨ret_bool (inB_yes h1 h2).symm, rfl⟩
    · have d2 : decide (n ≤ hi) = false := by simp; omega
      go_enter Tryz.func66, Tryz.ntmps66
      go_wp2
      go_ret
      exact ⟨ret_bool (inB_high (by omega)).symm, rfl⟩
  · have d1 : decide (lo ≤ n) = false := by simp; omega
    go_enter Tryz.func66, Tryz.ntmps66
    go_wp2
    go_ret
    exact ⟨ret_bool (inB_low (by omega)).symm, rfl⟩
set_option maxHeartbeats 400000 in
theorem spec_FoldsValid (s : ByteArray) (n : Int) (w : World) (hs : s.size ≤ maxLen) :
    Calls Tryz.prog 45 #[.string s, .int .i64 n] w fun e w' => e = .returned (.bool (fvB s.data.toList n)) ∧ w = w' := by
  unfold maxLen at hs
  go_enter Tryz.func45, Tryz.ntmps45
  go_wp2
  go_loop [5] (fun i => ∃ k : Nat, k ≤ s.size ∧ i = .int .i64 k ∧ Hid (allMV s.data.toList = allMV (s.data.toList.drop k))) (fun i => s.size - (intOf i).toNat)
  case atStart => exact ⟨0, Nat.zero_le _, rfl, rfl⟩
  case round =>
    obtain ⟨k, hk, rfl, H⟩ := hrel
    by_cases hlt : k < s.size
    · have HX := Lib.hid (byte_drop hlt)
      by_cases m1 : s[k].toNat = 77
      · have e1 : ((s[k].toNat : Int) != 77) = false := by rw [bne_eq_false_iff_eq]; omega
        have M := Lib.hid m1; clear m1
        go_wp2
        go_round
        case rel => exact ⟨k + 1, by omega, by go_num, H.out.trans (by rw [HX.out, allMV, if_pos (by unfold mvB; simp [M.out])])⟩
        case measure => simp [intOf]; omega
      · have e1 : ((s[k].toNat : Int) != 77) = true := by rw [bne_iff_ne]; omega
        have M := Lib.hid m1; clear m1
        by_cases m2 : s[k].toNat = 86
        · have e2 : ((s[k].toNat : Int) != 86) = false := by rw [bne_eq_false_iff_eq]; omega
          have M2 := Lib.hid m2; clear m2
          go_wp2
          go_round
          case rel => exact ⟨k + 1, by omega, by go_num, H.out.trans (by rw [HX.out, allMV, if_pos (by unfold mvB; simp [M2.out])])⟩
          case measure => simp [intOf]; omega
        · have e2 : ((s[k].toNat : Int) != 86) = true := by rw [bne_iff_ne]; omega
          have M2 := Lib.hid m2; clear m2
          go_wp2
          go_ret
          exact ⟨ret_bool (by unfold fvB; rw [allMV_eq, H.out, HX.out, allMV, if_neg (by have := M.out; have := M2.out; unfold mvB; simp; omega)]; simp), rfl⟩
    · go_wp2
      go_ret
      have e : s.data.toList.drop k = [] := List.drop_of_length_le (by simp; omega)
      exact ⟨ret_bool (by unfold fvB; rw [allMV_eq, H.out, e, allMV, Bool.eq_iff_iff]; simp), rfl⟩
end Go.Proofs.YtkdlipbegdiaaaaGreatDoor
namespace Go.Proofs.YtkdlipbegdiaaaaGreatDoor
open Go.RowKit
set_option maxHeartbeats 400000 in
theorem spec_l1Sum (A : Option Addr) (cap : Nat) (xs : List Int) (w : World) (h : Ints w A xs) (hl : xs.length ≤ 1000) (hx : ∀ x ∈ xs, -1000000 ≤ x ∧ x ≤ 1000000) :
    Calls Tryz.prog 81 #[.slice A xs.length cap] w fun e w' => e = .returned (.int .i64 xs.sum) ∧ w = w' := by
  go_enter Tryz.func81, Tryz.ntmps81
  go_wp2
  go_loop [3, 4] (fun s i => ∃ (k : Nat) (v : Int), k ≤ xs.length ∧ i = .int .i64 k ∧ s = .int .i64 v ∧ -1000000 * (k : Int) ≤ v ∧ v ≤ 1000000 * (k : Int) ∧ Hid (sumGo 0 xs = sumGo v (xs.drop k))) (fun _ i => xs.length - (intOf i).toNat)
  case atStart => exact ⟨0, 0, Nat.zero_le _, rfl, rfl, by simp, by simp, rfl⟩
  case round =>
    obtain ⟨k, v, hk, rfl, rfl, b1, b2, H⟩ := hrel
    by_cases hlt : k < xs.length
    · obtain ⟨b, off, x, rfl, hb, HX, hc, hm⟩ := h.at_ hlt
      obtain ⟨x1, x2⟩ := hx x hm
      clear hx hm
      go_wp2
      go_round
      case rel => exact ⟨k + 1, v + x, by omega, by go_num, rfl, by omega, by omega, H.out.trans (by rw [HX.out, sumGo])⟩
      case measure => simp [intOf]; omega
    · go_wp2
      go_ret
      have e : xs.drop k = [] := List.drop_of_length_le (by omega)
      exact ⟨ret_int (by have := H.out; rw [e, sumGo, sumGo_eq] at this; omega), rfl⟩
set_option maxHeartbeats 400000 in
theorem spec_l1Alternate (A : Option Addr) (cap : Nat) (xs : List Int) (w : World) (h : Ints w A xs) (hl : xs.length ≤ 100) (hx : ∀ x ∈ xs, 0 ≤ x ∧ x ≤ 1000) :
    Calls Tryz.prog 121 #[.slice A xs.length cap] w fun e w' => e = .returned (.int .i64 (balGo 0 0 xs)) ∧ w = w' := by
  go_enter Tryz.func121, Tryz.ntmps121
  go_wp2
  go_loop [3, 4] (fun s i => ∃ (k : Nat) (v : Int), k ≤ xs.length ∧ i = .int .i64 k ∧ s = .int .i64 v ∧ -1000 * (k : Int) ≤ v ∧ v ≤ 1000 * (k : Int) ∧ Hid (balGo 0 0 xs = balGo k v (xs.drop k))) (fun _ i => xs.length - (intOf i).toNat)
  case atStart => exact ⟨0, 0, Nat.zero_le _, rfl, rfl, by simp, by simp, rfl⟩
  case round =>
    obtain ⟨k, v, hk, rfl, rfl, b1, b2, H⟩ := hrel
    by_cases hlt : k < xs.length
    · obtain ⟨b, off, x, rfl, hb, HX, hc, hm⟩ := h.at_ hlt
      obtain ⟨x1, x2⟩ := hx x hm
      clear hx hm
      by_cases hp : k % 2 = 0
      · have HP := Lib.hid hp; clear hp
        have hpk : (((k : Int) % 2) == 0) = true := by have := HP.out; simp; omega
        go_wp2
        go_round
        case rel => exact ⟨k + 1, v + x, by omega, by go_num, rfl, by omega, by omega, H.out.trans (by rw [HX.out, balGo, if_pos HP.out])⟩
        case measure => simp [intOf]; omega
      · have HP := Lib.hid hp; clear hp
        have hpk : (((k : Int) % 2) == 0) = false := by have := HP.out; simp; omega
        go_wp2
        go_round
        case rel => exact ⟨k + 1, v - x, by omega, by go_num, rfl, by omega, by omega, H.out.trans (by rw [HX.out, balGo, if_neg HP.out])⟩
        case measure => simp [intOf]; omega
    · go_wp2
      go_ret
      have e : xs.drop k = [] := List.drop_of_length_le (by omega)
      exact ⟨ret_int (by rw [H.out, e, balGo]), rfl⟩
def inAll (lo hi : Int) : List Int → Bool
  | [] => true
  | x :: r => if inB x lo hi then inAll lo hi r else false
theorem inAll_eq (lo hi : Int) (l : List Int) : l.all (fun x => decide (lo ≤ x) && decide (x ≤ hi)) = inAll lo hi l := by
  induction l with
  | nil => rfl
  | cons x r ih =>
    rw [List.all_cons, ih, inAll]
    show (inB x lo hi && _) = _
    cases inB x lo hi <;> rfl
set_option maxHeartbeats 800000 in
theorem spec_AnglesValid (A : Option Addr) (cap : Nat) (xs : List Int) (w : World) (h : Ints w A xs) (hl : xs.length ≤ maxLen) :
    Calls Tryz.prog 55 #[.slice A xs.length cap] w fun e w' => e = .returned (.bool (avB xs)) ∧ w = w' := by
  unfold maxLen at hl
  go_enter Tryz.func55, Tryz.ntmps55
  go_wp2_with fail
  go_loop [3] (fun i => ∃ (k : Nat), k ≤ xs.length ∧ i = .int .i64 k ∧ Hid (inAll 1 360 xs = inAll 1 360 (xs.drop k))) (fun i => xs.length - (intOf i).toNat)
  case atStart => exact ⟨0, Nat.zero_le _, rfl, rfl⟩
  case round =>
    obtain ⟨k, hk, rfl, H⟩ := hrel
    by_cases hlt : k < xs.length
    · obtain ⟨b, off, x, rfl, hb, HX, hc, hm⟩ := h.at_ hlt
      clear hm
      go_wp2_with fail
      refine (spec_l6In x 1 360 w).mono ?_
      rintro e w' ⟨rfl, rfl⟩
      cases hi : inB x 1 360 with
      | false =>
        have HI := Lib.hid hi; clear hi
        go_wp2_with fail
        go_ret
        exact ⟨ret_bool (by unfold avB; rw [inAll_eq, H.out, HX.out, inAll, HI.out]; simp), rfl⟩
      | true =>
        have HI := Lib.hid hi; clear hi
        go_wp2_with fail
        go_round
        case rel => exact ⟨k + 1, by omega, by go_num, H.out.trans (by rw [HX.out, inAll, if_pos HI.out])⟩
        case measure => simp [intOf]; omega
    · have e : xs.drop k = [] := List.drop_of_length_le (by omega)
      have hall : inAll 1 360 xs = true := by rw [H.out, e]; rfl
      have hall2 := hall
      rw [← inAll_eq] at hall2
      have hb : ∀ x ∈ xs, 1 ≤ x ∧ x ≤ 360 := by simpa using hall2
      have HA := Lib.hid hall
      have HB := Lib.hid hb
      clear hall hall2 hb e
      by_cases g3 : xs.length % 2 = 0
      · have d3 : (((xs.length : Int) % 2) == 0) = true := by simp; omega
        have G := Lib.hid g3; clear g3
        go_wp2_with fail
        refine (spec_l6In xs.length 2 10 w).mono ?_
        rintro e w' ⟨rfl, rfl⟩
        cases hi : inB xs.length 2 10 with
        | false =>
          have HI := Lib.hid hi; clear hi
          go_wp2_with fail
          go_ret
          exact ⟨ret_bool (by
            have h2 := HI.out
            have e3 : (decide (2 ≤ xs.length) && decide (xs.length ≤ 10)) = false := by
              unfold inB at h2; revert h2; simp; intro a b; omega
            unfold avB
            rw [Bool.and_assoc (decide (xs.length % 2 = 0)), e3]; simp), rfl⟩
        | true =>
          have hlen : 2 ≤ xs.length ∧ xs.length ≤ 10 := by
            unfold inB at hi; simp at hi; omega
          have HI := Lib.hid hi; clear hi
          go_wp2_with fail
          refine (spec_l1Sum A cap xs w h (by omega) (fun x hx => by have := HB.out x hx; omega)).mono ?_
          rintro e w' ⟨rfl, rfl⟩
          go_wp2_with fail
          go_ret
          exact ⟨ret_bool (by unfold avB; rw [inAll_eq, HA.out, Bool.eq_iff_iff]; have := G.out; simp; omega), rfl⟩
      · have d3 : (((xs.length : Int) % 2) == 0) = false := by simp; omega
        have G := Lib.hid g3; clear g3
        go_wp2_with fail
        go_ret
        exact ⟨ret_bool (by have := G.out; unfold avB; simp; omega), rfl⟩
end Go.Proofs.YtkdlipbegdiaaaaGreatDoor
namespace Go.Proofs.YtkdlipbegdiaaaaGreatDoor
open Go.RowKit
set_option maxHeartbeats 400000 in
theorem spec_AnglesCloses (A : Option Addr) (cap : Nat) (xs : List Int) (w : World) (h : Ints w A xs) (hl : xs.length ≤ maxLen) :
    Calls Tryz.prog 92 #[.slice A xs.length cap] w fun e w' => e = .returned (.bool (acB xs)) ∧ w = w' := by
  cases hv : avB xs with
  | false =>
    have HV := Lib.hid hv; clear hv
    go_enter Tryz.func92, Tryz.ntmps92
    go_wp2_with fail
    refine (spec_AnglesValid A cap xs w h hl).mono ?_
    rintro e w' ⟨rfl, rfl⟩
    rw [HV.out]
    go_wp2_with fail
    go_ret
    exact ⟨ret_bool (by unfold acB; rw [HV.out]; rfl), rfl⟩
  | true =>
    obtain ⟨_, _, h10, hx, _⟩ := avB_parts hv
    have HV := Lib.hid hv; clear hv
    have HX := Lib.hid hx; clear hx
    go_enter Tryz.func92, Tryz.ntmps92
    go_wp2_with fail
    refine (spec_AnglesValid A cap xs w h hl).mono ?_
    rintro e w' ⟨rfl, rfl⟩
    rw [HV.out]
    go_wp2_with fail
    refine (spec_l1Alternate A cap xs w h (by omega) (fun x hx => by have := HX.out x hx; omega)).mono ?_
    rintro e w' ⟨rfl, rfl⟩
    go_wp2_with fail
    go_ret
    exact ⟨ret_bool (by unfold acB balB; rw [HV.out, Bool.eq_iff_iff]; simp), rfl⟩
set_option maxHeartbeats 800000 in
theorem spec_l2Lengths (A : Option Addr) (cap : Nat) (xs : List Int) (w : World) (h : Ints w A xs) (hl : xs.length ≤ maxLen) :
    Calls Tryz.prog 44 #[.slice A xs.length cap] w fun e w' => e = .returned (.bool (lvB xs)) ∧ w = w' := by
  unfold maxLen at hl
  go_enter Tryz.func44, Tryz.ntmps44
  go_wp2_with fail
  go_loop [3] (fun i => ∃ (k : Nat), k ≤ xs.length ∧ i = .int .i64 k ∧ Hid (inAll 1 1000 xs = inAll 1 1000 (xs.drop k))) (fun i => xs.length - (intOf i).toNat)
  case atStart => exact ⟨0, Nat.zero_le _, rfl, rfl⟩
  case round =>
    obtain ⟨k, hk, rfl, H⟩ := hrel
    by_cases hlt : k < xs.length
    · obtain ⟨b, off, x, rfl, hb, HX, hc, hm⟩ := h.at_ hlt
      clear hm
      go_wp2_with fail
      refine (spec_l6In x 1 1000 w).mono ?_
      rintro e w' ⟨rfl, rfl⟩
      cases hi : inB x 1 1000 with
      | false =>
        have HI := Lib.hid hi; clear hi
        go_wp2_with fail
        go_ret
        exact ⟨ret_bool (by unfold lvB; rw [inAll_eq, H.out, HX.out, inAll, HI.out]; simp), rfl⟩
      | true =>
        have HI := Lib.hid hi; clear hi
        go_wp2_with fail
        go_round
        case rel => exact ⟨k + 1, by omega, by go_num, H.out.trans (by rw [HX.out, inAll, if_pos HI.out])⟩
        case measure => simp [intOf]; omega
    · have e : xs.drop k = [] := List.drop_of_length_le (by omega)
      have hall : inAll 1 1000 xs = true := by rw [H.out, e]; rfl
      have HA := Lib.hid hall
      clear hall e
      go_wp2_with fail
      refine (spec_l6In xs.length 1 6 w).mono ?_
      rintro e w' ⟨rfl, rfl⟩
      go_wp2_with fail
      go_ret
      exact ⟨ret_bool (by unfold lvB inB; rw [inAll_eq, HA.out, Bool.eq_iff_iff]; simp; omega), rfl⟩
def leastGo : Int → List Int → Int
  | m, [] => m
  | m, x :: r => leastGo (if x < m then x else m) r
set_option maxHeartbeats 800000 in
theorem spec_l1Least (A : Option Addr) (cap : Nat) (xs : List Int) (w : World) (h : Ints w A xs) (h0 : 0 < xs.length) (hl : xs.length ≤ maxLen) :
    Calls Tryz.prog 148 #[.slice A xs.length cap] w fun e w' => e = .returned (.int .i64 (leastGo (angleAt xs 0) xs)) ∧ w = w' := by
  unfold maxLen at hl
  obtain ⟨b, off, y, rfl, hb, HY, hc0, _⟩ := h.at_ (k := 0) h0
  have hy := angle_of HY.out
  rw [Nat.add_zero] at hc0
  rw [hy]
  clear HY hy
  go_enter Tryz.func148, Tryz.ntmps148
  go_wp2_with fail
  go_loop [3, 4] (fun m i => ∃ (k : Nat) (v : Int), k ≤ xs.length ∧ i = .int .i64 k ∧ m = .int .i64 v ∧ Hid (leastGo y xs = leastGo v (xs.drop k))) (fun _ i => xs.length - (intOf i).toNat)
  case atStart => exact ⟨0, y, Nat.zero_le _, rfl, rfl, rfl⟩
  case round =>
    obtain ⟨k, v, hk, rfl, rfl, H⟩ := hrel
    by_cases hlt : k < xs.length
    · obtain ⟨b2, off2, x, e2, hb2, HX, hc, hm⟩ := h.at_ hlt
      injection e2 with e2
      injection e2 with e3 e4
      subst e3 e4
      clear hm
      go_wp2_with fail
      go_round
      case rel => exact ⟨k + 1, if x < v then x else v, by omega, by go_num, rfl, H.out.trans (by rw [HX.out, leastGo])⟩
      case measure => simp [intOf]; omega
    · go_wp2_with fail
      go_ret
      have e : xs.drop k = [] := List.drop_of_length_le (by omega)
      exact ⟨ret_int (by rw [H.out, e, leastGo]), rfl⟩
end Go.Proofs.YtkdlipbegdiaaaaGreatDoor
namespace Go.Proofs.YtkdlipbegdiaaaaGreatDoor
open Go.RowKit
theorem leastGo_le (m : Int) (l : List Int) : leastGo m l ≤ m ∧ ∀ x ∈ l, leastGo m l ≤ x := by
  induction l generalizing m with
  | nil => exact ⟨Int.le_refl _, fun x h => by cases h⟩
  | cons y r ih =>
    have h := ih (if y < m then y else m)
    rw [leastGo]
    refine ⟨?_, fun x hx => ?_⟩
    · refine Int.le_trans h.1 ?_
      split <;> omega
    · cases hx with
      | head => refine Int.le_trans h.1 ?_; split <;> omega
      | tail _ hx => exact h.2 x hx
theorem leastGo_mem (m : Int) (l : List Int) : leastGo m l = m ∨ leastGo m l ∈ l := by
  induction l generalizing m with
  | nil => exact Or.inl rfl
  | cons y r ih =>
    rw [leastGo]
    rcases ih (if y < m then y else m) with h | h
    · rw [h]
      split
      · exact Or.inr (List.mem_cons_self ..)
      · exact Or.inl rfl
    · exact Or.inr (List.mem_cons_of_mem _ h)
theorem least_is {xs : List Int} {k : Nat} (h : k < xs.length) : (angleAt xs k = leastGo (angleAt xs 0) xs) ↔ ∀ j, j < xs.length → angleAt xs k ≤ angleAt xs j := by
  constructor
  · intro e j hj
    rw [e]
    exact (leastGo_le _ _).2 _ (angleAt_mem hj)
  · intro ha
    have h1 := (leastGo_le (angleAt xs 0) xs).2 _ (angleAt_mem h)
    have h2 : angleAt xs k ≤ leastGo (angleAt xs 0) xs := by
      rcases leastGo_mem (angleAt xs 0) xs with e | e
      · rw [e]; exact ha 0 (by omega)
      · obtain ⟨j, hj, e2⟩ := List.getElem_of_mem e
        have := ha j hj
        have e3 : angleAt xs j = xs[j] := by unfold angleAt; simp [List.getD_eq_getElem?_getD, hj]
        rw [← e2, ← e3]
        exact this
    omega
theorem lessGo_spec {n : Nat} {x : Nat → Int} {i : Nat} (hi : i < n) : ∀ fuel j, j < n → dist n i j < fuel → (lessGo n x i (x i) fuel j = true ↔ ∀ m, m < n → dist n i m ≤ dist n i j → x i ≤ x m) := by
  intro fuel
  induction fuel with
  | zero => intro j _ h; omega
  | succ fuel ih =>
    intro j hj hd
    rw [lessGo]
    by_cases e : j = i
    · rw [if_pos e]
      simp only [true_iff]
      intro m hm hdm
      have : m = i := by
        subst e
        unfold dist at hdm
        revert hdm; repeat' split
        all_goals omega
      rw [this]
      exact Int.le_refl _
    · rw [if_neg e]
      have hdn := dist_nxt hi hj e
      by_cases hl : x j < x i
      · rw [if_pos hl]
        simp only [Bool.false_eq_true, false_iff]
        intro h
        have := h j hj (Nat.le_refl _)
        omega
      · rw [if_neg hl, ih _ (nxt_lt hj) (by omega)]
        constructor
        · intro h m hm hdm
          by_cases e2 : dist n i m = dist n i j
          · have : m = j := by
              unfold dist at e2
              revert e2; repeat' split
              all_goals omega
            rw [this]; omega
          · exact h m hm (by omega)
        · intro h m hm hdm
          exact h m hm (by omega)
theorem allowed_iff {n : Nat} {x : Nat → Int} {f : Nat → Nat} {i : Nat} (hi : i < n) : allowedB n x f i = true ↔ 4 ≤ n ∧ f i ≠ f (nxt n i) ∧ ∀ m, m < n → x i ≤ x m := by
  unfold allowedB
  by_cases h4 : n < 4
  · rw [if_pos h4]; simp; intro h; omega
  · rw [if_neg h4]
    by_cases hf : f i = f (nxt n i)
    · rw [if_pos hf]; simp [hf]
    · rw [if_neg hf, lessGo_spec hi n _ (nxt_lt hi) (by have := dist_start hi; omega)]
      constructor
      · intro h
        refine ⟨by omega, hf, fun m hm => ?_⟩
        by_cases e : m = i
        · rw [e]; exact Int.le_refl _
        · refine h m hm ?_
          unfold dist nxt; repeat' split
          all_goals omega
      · intro h m hm _
        exact h.2.2 m hm
theorem crimpsTo_small {n k : Nat} {x : Nat → Int} {f : Nat → Nat} (h : n < 4) : crimpsTo n x f k = [] := by
  unfold crimpsTo
  rw [List.filter_eq_nil_iff.2 (fun a _ => by unfold allowedB; rw [if_pos h]; simp)]
  rfl
theorem mod_nxt {n k : Nat} (h : k < n) : (k + 1) % n = nxt n k := by
  unfold nxt
  split
  · next e => rw [e, Nat.mod_self]
  · exact Nat.mod_eq_of_lt (by omega)
set_option maxHeartbeats 1000000 in
theorem spec_l1Crimps (A : Option Addr) (cap : Nat) (xs : List Int) (s : ByteArray) (w : World) (h : Ints w A xs) (hl : xs.length ≤ 100) (hs : s.size = xs.length) :
    Calls Tryz.prog 122 #[.slice A xs.length cap, .string s] w fun e w' => ∃ v, e = .returned v ∧ Own w' w.heap.size v (crimpsTo xs.length (angleAt xs) (byteAt s) xs.length) ∧ Below w.heap.size w w' := by
  have HS := Lib.hid hs; clear hs
  by_cases h4 : xs.length < 4
  · have d1 : decide ((4 : Int) ≤ (xs.length : Int)) = false := by simp; omega
    go_enter Tryz.func122, Tryz.ntmps122
    go_wp2_with fail
    refine wp_loop_rounds 1 ?_
    rw [rounds_succ]
    go_wp2_with fail
    all_goals go_ret
    all_goals exact ⟨_, rfl, by rw [crimpsTo_small h4]; exact own_empty w (Nat.le_refl _), (Below.refl _ _).alloc (Nat.le_refl _) _⟩
  · have d1 : decide ((4 : Int) ≤ (xs.length : Int)) = true := by simp; omega
    go_enter Tryz.func122, Tryz.ntmps122
    go_wp2_with fail
    go_loopg [5, 7] (xs.length + 1) (fun g s5 s7 wr => ∃ k, k ≤ xs.length ∧ s7 = .int .i64 k ∧ xs.length - k < g ∧ Own wr w.heap.size s5 (crimpsTo xs.length (angleAt xs) (byteAt s) k) ∧ Below w.heap.size w wr)
    case atStart => exact ⟨0, Nat.zero_le _, rfl, by omega, own_empty w (Nat.le_refl _), (Below.refl _ _).alloc (Nat.le_refl _) _⟩
    case round =>
      obtain ⟨k, hk, rfl, hg, hown, hbel⟩ := hrel
      have hsz := hbel.size
      have hI := h.below hbel
      cases gk with
      | zero => omega
      | succ g =>
      by_cases hlt : k < xs.length
      · obtain ⟨b, off, x, rfl, hb, HX, hc, hm⟩ := hI.at_ hlt
        have hx : angleAt xs k = x := angle_of HX.out
        have hlen := crimpsTo_len xs.length (angleAt xs) (byteAt s) k
        clear hm
        have hal := @allowed_iff xs.length (angleAt xs) (byteAt s) k hlt
        have hle := least_is hlt
        rw [hx] at hle
        by_cases q1 : x = leastGo (angleAt xs 0) xs
        · have e1 : (x == leastGo (angleAt xs 0) xs) = true := by simp [← q1]
          obtain ⟨q, hq⟩ : ∃ q, q = nxt xs.length k := ⟨_, rfl⟩
          have hqs : q < s.size := by rw [hq, HS.out]; exact nxt_lt hlt
          have hks : k < s.size := by rw [HS.out]; exact hlt
          have b1 := byteAt_eq s k hks
          have b2 := byteAt_eq s q hqs
          have w1 : IntKind.i64.wrap ((k : Int) + 1) = (k : Int) + 1 := IntWalk.i64_in _ (by omega)
          have w2 : ((k : Int) + 1).tmod (xs.length : Int) = (q : Int) := by
            rw [Int.tmod_eq_emod_of_nonneg (by omega), hq, ← mod_nxt hlt]; rfl
          have w3 : IntKind.i64.wrap (q : Int) = (q : Int) := IntWalk.i64_in _ (by have := HS.out; omega)
          have w4 : ((xs.length : Int) == 0) = false := by rw [beq_eq_false_iff_ne]; omega
          have w5 : (0 : Int) ≤ (q : Int) := by omega
          have w6 : (q : Int) < (s.size : Int) := by omega
          rw [← hq] at hal
          have HQ := Lib.hid hq
          clear hq
          by_cases q2 : s[k].toNat = s[q].toNat
          · have e2 : ((s[k].toNat : Int) != (s[q].toNat : Int)) = false := by rw [bne_eq_false_iff_eq]; omega
            have hno : allowedB xs.length (angleAt xs) (byteAt s) k = false := by
              rw [← Bool.not_eq_true, hal]; intro hh; exact hh.2.1 (by rw [b1, b2, q2])
            have HY := Lib.hid (crimpsTo_no hno)
            have Q := Lib.hid (And.intro q1 q2)
            clear hno hal hle q1 hx b1 b2 q2
            go_wp2_with fail
            go_quiet ((go_at_call 148; exact quietl (spec_l1Least _ _ xs _ (by exact hI) (by omega) (by unfold maxLen; omega))))
            clear w1 w2 w3
            go_wp2_with fail
            go_roundg g
            case measure => omega
            case rel => exact ⟨k + 1, by omega, by go_num, by omega, by rw [HY.out]; exact hown, below_drewN hbel _⟩
          · have e2 : ((s[k].toNat : Int) != (s[q].toNat : Int)) = true := by rw [bne_iff_ne]; omega
            have hyes : allowedB xs.length (angleAt xs) (byteAt s) k = true := by
              rw [hal]; exact ⟨by omega, by rw [b1, b2]; exact q2, fun m hm => by rw [hx]; exact hle.1 q1 m hm⟩
            have HY := Lib.hid (crimpsTo_yes hyes)
            have Q := Lib.hid (And.intro q1 q2)
            clear hyes hal hle q1 hx b1 b2 q2
            go_wp2_with fail
            go_quiet ((go_at_call 148; exact quietl (spec_l1Least _ _ xs _ (by exact hI) (by omega) (by unfold maxLen; omega))))
            clear w1 w2 w3
            go_wp2_with (at_builtin; go_loud (refine wpList_push (W := wr.drewN nq) rfl _ _ rfl w.heap.size _ _ k (by rfl) (by rfl) hown hsz (by omega) ?_))
            intro v' w2 hown2 hgr hb2
            have hbel2 := (below_drewN hbel nq).trans hb2
            clear hown hgr hb2
            go_wp2_with fail
            go_roundg g
            case measure => omega
            case rel => exact ⟨k + 1, by omega, by go_num, by omega, by rw [HY.out]; exact hown2, hbel2⟩
        · have e1 : (x == leastGo (angleAt xs 0) xs) = false := by simp [q1]
          have hno : allowedB xs.length (angleAt xs) (byteAt s) k = false := by
            rw [← Bool.not_eq_true, hal]; intro hh; exact q1 (hle.2 (fun j hj => by rw [← hx]; exact hh.2.2 j hj))
          have HY := Lib.hid (crimpsTo_no hno)
          clear hno hal hle q1 hx
          go_wp2_with fail
          go_quiet ((go_at_call 148; exact quietl (spec_l1Least _ _ xs _ (by exact hI) (by omega) (by unfold maxLen; omega))))
          go_wp2_with fail
          go_roundg g
          case measure => omega
          case rel => exact ⟨k + 1, by omega, by go_num, by omega, by rw [HY.out]; exact hown, below_drewN hbel _⟩
      · obtain rfl : k = xs.length := by omega
        go_wp2_with fail
        go_ret
        exact ⟨_, rfl, hown, hbel⟩
end Go.Proofs.YtkdlipbegdiaaaaGreatDoor
