/- The program's tests of folds, lengths and rings, and whether a vertex or a ring folds. No condition but sizes. -/
import Derived.Test.YtngpeehjjcgmmaaImplA
import Derived.Test.YtngpeehjjcgmmaaRingF
namespace Go.Proofs.Ytngpeehjjcgmmaa
open Go.RowKit

/-- the byte k of a text, and what is left behind it -/
theorem byte_drop {s : ByteArray} {k : Nat} (h : k < s.size) : s.data.toList.drop k = s[k] :: s.data.toList.drop (k + 1) := by
  have hl : k < s.data.toList.length := by simpa using h
  rw [List.drop_eq_getElem_cons hl]; rfl

def allMV : List UInt8 → Bool
  | [] => true
  | c :: r => if mvB c then allMV r else false
theorem allMV_eq (l : List UInt8) : l.all mvB = allMV l := by
  induction l with
  | nil => rfl
  | cons c r ih => simp only [List.all_cons, allMV, ih]; cases mvB c <;> rfl

set_option maxHeartbeats 400000 in
theorem impl_FoldsValid (s : ByteArray) (n : Int) (w : World) (hs : s.size ≤ maxLen) :
    Calls Try.prog 20 #[.string s, .int .i64 n] w fun e w' => e = .returned (.bool (fvB s.data.toList n)) ∧ w = w' := by
  unfold maxLen at hs
  by_cases g1 : n < 0
  · have d1 : decide (n < 0) = true := by simp; omega
    go_enter Try.func20, Try.ntmps20
    go_wp2
    go_ret
    exact ⟨ret_bool (by unfold fvB; simp; intro h; omega), rfl⟩
  · have d1 : decide (n < 0) = false := by simp; omega
    by_cases g2 : (s.size : Int) = n
    · subst g2
      clear d1 g1
      have d0 : decide ((s.size : Int) < 0) = false := by simp
      go_enter Try.func20, Try.ntmps20
      go_wp2
      go_loop [5] (fun i => ∃ k : Nat, k ≤ s.size ∧ i = .int .i64 k ∧ Hid (allMV s.data.toList = allMV (s.data.toList.drop k))) (fun i => s.size - (intOf i).toNat)
      case atStart => exact ⟨0, Nat.zero_le _, rfl, rfl⟩
      case round =>
        obtain ⟨k, hk, rfl, H⟩ := hrel
        by_cases hlt : k < s.size
        · have HX := Lib.hid (byte_drop hlt)
          by_cases m1 : s[k].toNat = 77
          · have e1 : ((s[k].toNat : Int) != 77) = false := by rw [bne_eq_false_iff_eq]; omega
            have M := Lib.hid m1; clear m1
            go_wp2
            go_round
            case rel => exact ⟨k + 1, by omega, by go_num, H.out.trans (by rw [HX.out, allMV, if_pos (by unfold mvB; simp [M.out])])⟩
            case measure => simp [intOf]; omega
          · have e1 : ((s[k].toNat : Int) != 77) = true := by rw [bne_iff_ne]; omega
            have M := Lib.hid m1; clear m1
            by_cases m2 : s[k].toNat = 86
            · have e2 : ((s[k].toNat : Int) != 86) = false := by rw [bne_eq_false_iff_eq]; omega
              have M2 := Lib.hid m2; clear m2
              go_wp2
              go_round
              case rel => exact ⟨k + 1, by omega, by go_num, H.out.trans (by rw [HX.out, allMV, if_pos (by unfold mvB; simp [M2.out])])⟩
              case measure => simp [intOf]; omega
            · have e2 : ((s[k].toNat : Int) != 86) = true := by rw [bne_iff_ne]; omega
              have M2 := Lib.hid m2; clear m2
              go_wp2
              go_ret
              exact ⟨ret_bool (by unfold fvB; rw [allMV_eq, H.out, HX.out, allMV, if_neg (by have := M.out; have := M2.out; unfold mvB; simp; omega)]; simp), rfl⟩
        · go_wp2
          go_ret
          have e : s.data.toList.drop k = [] := List.drop_of_length_le (by simp; omega)
          exact ⟨ret_bool (by unfold fvB; rw [allMV_eq, H.out, e, allMV]; simp), rfl⟩
    · have d2 : ((s.size : Int) != n) = true := by rw [bne_iff_ne]; omega
      have G := Lib.hid g2; clear g2
      go_enter Try.func20, Try.ntmps20
      go_wp2
      go_ret
      exact ⟨ret_bool (by have := G.out; unfold fvB; simp; intro h; omega), rfl⟩

def lvGo : List Int → Bool
  | [] => true
  | x :: r => if x < 1 then false else if 1000 < x then false else lvGo r
theorem lvGo_eq (l : List Int) : l.all (fun x => decide (1 ≤ x) && decide (x ≤ 1000)) = lvGo l := by
  induction l with
  | nil => rfl
  | cons x r ih =>
    rw [List.all_cons, ih, lvGo]
    by_cases h1 : x < 1
    · simp [h1]; intro h; omega
    · by_cases h2 : 1000 < x
      · simp [h1, h2]; intro _ h; omega
      · have e1 : 1 ≤ x := by omega
        have e2 : x ≤ 1000 := by omega
        simp [h1, h2, e1, e2]

set_option maxHeartbeats 400000 in
theorem impl_lengthsValid (A : Option Addr) (cap : Nat) (xs : List Int) (w : World) (h : Ints w A xs) (hl : xs.length ≤ maxLen) :
    Calls Try.prog 48 #[.slice A xs.length cap] w fun e w' => e = .returned (.bool (lvB xs)) ∧ w = w' := by
  unfold maxLen at hl
  by_cases g1 : xs.length < 1
  · have d1 : decide ((xs.length : Int) < 1) = true := by simp; omega
    go_enter Try.func48, Try.ntmps48
    go_wp2
    go_ret
    exact ⟨ret_bool (by unfold lvB; simp; omega), rfl⟩
  · have d1 : decide ((xs.length : Int) < 1) = false := by simp; omega
    by_cases g2 : 6 < xs.length
    · have d2 : decide ((6 : Int) < (xs.length : Int)) = true := by simp; omega
      go_enter Try.func48, Try.ntmps48
      go_wp2
      go_ret
      exact ⟨ret_bool (by unfold lvB; simp; omega), rfl⟩
    · have d2 : decide ((6 : Int) < (xs.length : Int)) = false := by simp; omega
      go_enter Try.func48, Try.ntmps48
      go_wp2
      go_loop [15] (fun i => ∃ (k : Nat), k ≤ xs.length ∧ i = .int .i64 k ∧ Hid (lvGo xs = lvGo (xs.drop k))) (fun i => xs.length - (intOf i).toNat)
      case atStart => exact ⟨0, Nat.zero_le _, rfl, rfl⟩
      case round =>
        obtain ⟨k, hk, rfl, H⟩ := hrel
        by_cases hlt : k < xs.length
        · obtain ⟨b, off, x, rfl, hb, HX, hc, hm⟩ := h.at_ hlt
          clear hm
          by_cases t1 : x < 1
          · have e1 : decide (x < 1) = true := by simp; omega
            go_wp2
            go_ret
            exact ⟨ret_bool (by unfold lvB; rw [lvGo_eq, H.out, HX.out, lvGo, if_pos t1]; simp), rfl⟩
          · have e1 : decide (x < 1) = false := by simp; omega
            by_cases t2 : 1000 < x
            · have e2 : decide ((1000 : Int) < x) = true := by simp; omega
              go_wp2
              go_ret
              exact ⟨ret_bool (by unfold lvB; rw [lvGo_eq, H.out, HX.out, lvGo, if_neg (by omega), if_pos t2]; simp), rfl⟩
            · have e2 : decide ((1000 : Int) < x) = false := by simp; omega
              go_wp2
              go_round
              case rel => exact ⟨k + 1, by omega, by go_num, H.out.trans (by rw [HX.out, lvGo, if_neg (by omega), if_neg (by omega)])⟩
              case measure => simp [intOf]; omega
        · go_wp2
          go_ret
          have e : xs.drop k = [] := List.drop_of_length_le (by omega)
          exact ⟨ret_bool (by unfold lvB; rw [lvGo_eq, H.out, e, lvGo]; simp; omega), rfl⟩

/-- whether angles with folds fold -/
def ffB (xs : List Int) (s : ByteArray) : Bool := foldsN 10 xs.length (angleAt xs) (byteAt s)
def vfB (xs : List Int) (s : ByteArray) : Bool := acB xs && fvB s.data.toList xs.length && ffB xs s
def rfB (xs : List Int) (s : ByteArray) : Bool := rvB xs s.data.toList && ffB xs s

theorem angleAt_mem {xs : List Int} {k : Nat} (h : k < xs.length) : angleAt xs k ∈ xs := by
  unfold angleAt
  rw [List.getD_eq_getElem?_getD, List.getElem?_eq_getElem h]
  exact List.getElem_mem h
theorem fvB_size {s : ByteArray} {n : Nat} (h : fvB s.data.toList n = true) : s.size = n := by
  unfold fvB at h
  simp at h
  omega

set_option maxHeartbeats 800000 in
theorem impl_VertexFolds (A : Option Addr) (cap : Nat) (xs : List Int) (s : ByteArray) (w : World) (h : Ints w A xs) (hl : xs.length ≤ maxLen) (hs : s.size ≤ maxLen) :
    Calls Try.prog 6 #[.slice A xs.length cap, .string s] w fun e w' => e = .returned (.bool (vfB xs s)) ∧ Below w.heap.size w w' := by
  cases hv : acB xs with
  | false =>
    have HV := Lib.hid hv; clear hv
    go_enter Try.func6, Try.ntmps6
    go_wp2_with fail
    refine (impl_AnglesCloses A cap xs w h hl).mono ?_
    rintro e w' ⟨rfl, rfl⟩
    rw [HV.out]
    go_wp2
    go_ret
    exact ⟨ret_bool (by unfold vfB; rw [HV.out]; rfl), Below.refl _ _⟩
  | true =>
    have hv2 := hv
    unfold acB at hv2
    rw [Bool.and_eq_true] at hv2
    obtain ⟨_, h2, h10, hx, _⟩ := avB_parts hv2.1
    have HV := Lib.hid hv; clear hv
    have HX := Lib.hid hx; clear hx hv2
    cases hf : fvB s.data.toList xs.length with
    | false =>
      have HF := Lib.hid hf; clear hf
      go_enter Try.func6, Try.ntmps6
      go_wp2_with fail
      refine (impl_AnglesCloses A cap xs w h hl).mono ?_
      rintro e w' ⟨rfl, rfl⟩
      rw [HV.out]
      go_wp2_with fail
      refine (impl_FoldsValid s xs.length w hs).mono ?_
      rintro e w' ⟨rfl, rfl⟩
      rw [HF.out]
      go_wp2
      go_ret
      exact ⟨ret_bool (by unfold vfB; rw [HV.out, HF.out]; rfl), Below.refl _ _⟩
    | true =>
      have hsz := fvB_size hf
      have HF := Lib.hid hf; clear hf
      have HS := Lib.hid hsz; clear hsz
      go_enter Try.func6, Try.ntmps6
      go_wp2_with fail
      refine (impl_AnglesCloses A cap xs w h hl).mono ?_
      rintro e w' ⟨rfl, rfl⟩
      rw [HV.out]
      go_wp2_with fail
      refine (impl_FoldsValid s xs.length w hs).mono ?_
      rintro e w' ⟨rfl, rfl⟩
      rw [HF.out]
      go_wp2_with fail
      refine (newRing_any w A cap xs s h (by omega) (by omega) (by have := HS.out; omega) (by have := HS.out; omega)).mono ?_
      rintro e w1 ⟨rfl, R, hb1⟩
      go_wp2_with fail
      refine (foldsDown_any w1 w.heap.size w.heap.size xs.length _ (angleAt xs) (byteAt s) R h2 h10 (byteAt_lt s) (fun k hk => by have := HX.out _ (angleAt_mem hk); omega) (Nat.le_refl _) (fun k _ => by show w.heap.size ≤ w.heap.size + 1 + k; omega) hb1.size).mono ?_
      rintro e w2 ⟨rfl, hb2⟩
      go_wp2
      go_ret
      exact ⟨ret_bool (by unfold vfB; rw [HV.out, HF.out]; rfl), hb1.trans hb2⟩

set_option maxHeartbeats 800000 in
theorem impl_RingValid (A : Option Addr) (cap : Nat) (xs : List Int) (s : ByteArray) (w : World) (h : Ints w A xs) (hl : xs.length ≤ maxLen) (hs : s.size ≤ maxLen) :
    Calls Try.prog 28 #[.slice A xs.length cap, .string s] w fun e w' => e = .returned (.bool (rvB xs s.data.toList)) ∧ w = w' := by
  have hlm := hl
  unfold maxLen at hlm
  cases hv : lvB xs with
  | false =>
    have HV := Lib.hid hv; clear hv
    go_enter Try.func28, Try.ntmps28
    go_wp2_with fail
    refine (impl_lengthsValid A cap xs w h hl).mono ?_
    rintro e w' ⟨rfl, rfl⟩
    rw [HV.out]
    go_wp2
    go_ret
    exact ⟨ret_bool (by unfold rvB; rw [HV.out]; rfl), rfl⟩
  | true =>
    obtain ⟨h1, h6, hx⟩ := lvB_parts hv
    have HV := Lib.hid hv; clear hv
    have HX := Lib.hid hx; clear hx
    by_cases ho : xs.length % 2 = 0
    · have d1 : (((xs.length : Int) % 2) == 0) = true := by simp; omega
      have HO := Lib.hid ho; clear ho
      cases hf : fvB s.data.toList xs.length with
      | false =>
        have HF := Lib.hid hf; clear hf
        go_enter Try.func28, Try.ntmps28
        go_wp2_with fail
        refine (impl_lengthsValid A cap xs w h hl).mono ?_
        rintro e w' ⟨rfl, rfl⟩
        rw [HV.out]
        go_wp2_with fail
        refine (impl_FoldsValid s xs.length w hs).mono ?_
        rintro e w' ⟨rfl, rfl⟩
        rw [HF.out]
        go_wp2
        go_ret
        exact ⟨ret_bool (by unfold rvB; rw [HV.out, HF.out]; simp), rfl⟩
      | true =>
        have HF := Lib.hid hf; clear hf
        go_enter Try.func28, Try.ntmps28
        go_wp2_with fail
        refine (impl_lengthsValid A cap xs w h hl).mono ?_
        rintro e w' ⟨rfl, rfl⟩
        rw [HV.out]
        go_wp2_with fail
        refine (impl_FoldsValid s xs.length w hs).mono ?_
        rintro e w' ⟨rfl, rfl⟩
        rw [HF.out]
        go_wp2_with fail
        refine (impl_balanced A cap xs w h (by omega) (fun x hx => by have := HX.out x hx; omega)).mono ?_
        rintro e w' ⟨rfl, rfl⟩
        go_wp2
        go_ret
        exact ⟨ret_bool (by unfold rvB; rw [HV.out, HF.out]; simp [HO.out]), rfl⟩
    · have d1 : (((xs.length : Int) % 2) == 0) = false := by simp; omega
      have HO := Lib.hid ho; clear ho
      go_enter Try.func28, Try.ntmps28
      go_wp2_with fail
      refine (impl_lengthsValid A cap xs w h hl).mono ?_
      rintro e w' ⟨rfl, rfl⟩
      rw [HV.out]
      go_wp2
      go_ret
      exact ⟨ret_bool (by unfold rvB; rw [HV.out]; simp [HO.out]), rfl⟩

set_option maxHeartbeats 800000 in
theorem impl_RingFolds (A : Option Addr) (cap : Nat) (xs : List Int) (s : ByteArray) (w : World) (h : Ints w A xs) (hl : xs.length ≤ maxLen) (hs : s.size ≤ maxLen) :
    Calls Try.prog 13 #[.slice A xs.length cap, .string s] w fun e w' => e = .returned (.bool (rfB xs s)) ∧ Below w.heap.size w w' := by
  cases hv : rvB xs s.data.toList with
  | false =>
    have HV := Lib.hid hv; clear hv
    go_enter Try.func13, Try.ntmps13
    go_wp2_with fail
    refine (impl_RingValid A cap xs s w h hl hs).mono ?_
    rintro e w' ⟨rfl, rfl⟩
    rw [HV.out]
    go_wp2
    go_ret
    exact ⟨ret_bool (by unfold rfB; rw [HV.out]; rfl), Below.refl _ _⟩
  | true =>
    have hv2 := hv
    unfold rvB at hv2
    simp only [Bool.and_eq_true, decide_eq_true_eq] at hv2
    obtain ⟨⟨⟨v1, v2⟩, v3⟩, _⟩ := hv2
    obtain ⟨h1, h6, hx⟩ := lvB_parts v1
    have hsz := fvB_size v3
    have h2 : 2 ≤ xs.length := by omega
    have HV := Lib.hid hv; clear hv
    have HX := Lib.hid hx; clear hx v1 v2 v3
    have HS := Lib.hid hsz; clear hsz
    go_enter Try.func13, Try.ntmps13
    go_wp2_with fail
    refine (impl_RingValid A cap xs s w h hl hs).mono ?_
    rintro e w' ⟨rfl, rfl⟩
    rw [HV.out]
    go_wp2_with fail
    refine (newRing_any w A cap xs s h (by omega) (by omega) (by have := HS.out; omega) (by have := HS.out; omega)).mono ?_
    rintro e w1 ⟨rfl, R, hb1⟩
    go_wp2_with fail
    refine (foldsDown_any w1 w.heap.size w.heap.size xs.length _ (angleAt xs) (byteAt s) R h2 (by omega) (byteAt_lt s) (fun k hk => by have := HX.out _ (angleAt_mem hk); omega) (Nat.le_refl _) (fun k _ => by show w.heap.size ≤ w.heap.size + 1 + k; omega) hb1.size).mono ?_
    rintro e w2 ⟨rfl, hb2⟩
    go_wp2
    go_ret
    exact ⟨ret_bool (by unfold rfB; rw [HV.out]; rfl), hb1.trans hb2⟩

end Go.Proofs.Ytngpeehjjcgmmaa
