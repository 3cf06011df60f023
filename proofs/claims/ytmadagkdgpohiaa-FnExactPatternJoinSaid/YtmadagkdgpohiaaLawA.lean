/- The laws' own helpers on lists of integers: a copy, a comparison. No condition but sizes. -/
import Derived.Test.YtmadagkdgpohiaaApp
namespace Go.Proofs.Ytmadagkdgpohiaa
open Go.RowKit

theorem fill_step {xs : List Int} {k : Nat} (h : k < xs.length) :
    ((xs.take k ++ List.replicate (xs.length - k) 0).map (Value.int .i64)).set k (.int .i64 (xs[k])) = (xs.take (k + 1) ++ List.replicate (xs.length - (k + 1)) 0).map (Value.int .i64) := by
  have e : xs.length - k = (xs.length - (k + 1)) + 1 := by omega
  rw [e, List.replicate_succ, ← List.map_set]
  congr 1
  rw [List.set_append_right _ _ (by simp; omega)]
  have e2 : k - (xs.take k).length = 0 := by simp; omega
  rw [e2, List.set_cons_zero, List.take_succ_eq_append_getElem h, List.append_assoc]
  rfl

theorem drop_get {xs r : List Int} {k : Nat} {x : Int} (hk : k < xs.length) (h : xs.drop k = x :: r) : xs[k] = x := by
  have h2 := List.drop_eq_getElem_cons hk
  rw [h] at h2
  injection h2 with h2
  exact h2.symm

set_option maxHeartbeats 1000000 in
theorem laws_toIntS (A : Option Addr) (cap : Nat) (xs : List Int) (w : World) (h : Ints w A xs) (hl : xs.length ≤ 1048576) :
    Calls Try.prog 64 #[.slice A xs.length cap] w fun e w' => ∃ v, e = .returned v ∧ Own w' w.heap.size v xs ∧ Below w.heap.size w w' := by
  obtain ⟨i0, hi, hz0, hz1, hz2⟩ := info_parts Try.infoInt
  go_enter Try.func64, Try.ntmps64
  go_wp2_with (at_make; go_loud (refine wpList_make_full _ rfl _ _ 30 rfl w.heap.size 3 i0 (.int .i64 0) 1 Try.underlying30 hi hz0 hz1 .i64 .i64 _ _ xs.length (by rfl) (by rfl) (by rfl) (by rfl) (by rw [hz2]; omega) (by unfold maxLen; omega) (Nat.le_refl _) ?_); intro w1 hown1 hg1)
  have hb1 : Below w.heap.size w w1 := (Below.refl _ _).grown hg1 (Nat.le_refl _) (by intro k hk; cases hk)
  have hown0 : w1.ownsRow w.heap.size 3 1 (.slice (some ⟨w.heap.size, 0, none⟩) xs.length xs.length) xs.length ((xs.take 0 ++ List.replicate (xs.length - 0) 0).map (Value.int .i64)) := by
    have e : (madeCells (Value.int .i64 0).cells (xs.length * 1)).toList = (xs.take 0 ++ List.replicate (xs.length - 0) 0).map (Value.int .i64) := by
      rw [Nat.mul_one, Nat.sub_zero]
      simp only [List.take_zero, List.nil_append, List.map_replicate]
      exact toList_madeCells_one _ _
    rw [← e]; exact hown1
  clear hown1 hg1
  have HI := Lib.hid hi
  clear hi hz0 hz1 hz2
  go_wp2_with fail
  go_loopg [4] (xs.length + 1) (fun g s4 wr => ∃ k, k ≤ xs.length ∧ s4 = .int .i64 k ∧ xs.length - k < g ∧ Below w.heap.size w wr ∧
    wr.ownsRow w.heap.size 3 1 (.slice (some ⟨w.heap.size, 0, none⟩) xs.length xs.length) xs.length ((xs.take k ++ List.replicate (xs.length - k) 0).map (Value.int .i64)))
  case atStart => exact ⟨0, Nat.zero_le _, rfl, by omega, hb1, hown0⟩
  case round =>
    obtain ⟨k, hk, rfl, hg, hbel, hown⟩ := hrel
    cases gk with
    | zero => omega
    | succ g =>
    by_cases hlt : k < xs.length
    · obtain ⟨b, off, x, rfl, hb, HX, hc, _⟩ := (h.below hbel).at_ hlt
      have hx := drop_get hlt HX.out
      have c1 := hown.cellAt k (by omega)
      rw [List.getElem?_eq_getElem (by simp; omega)] at c1
      have c2 := hown.frozenAt k
      have st := hown.stored k (.int .i64 x)
      rw [← hx, fill_step hlt, hx] at st
      have ST := Lib.hid st
      clear st hown hx
      go_wp2_with fail
      go_roundg g
      case measure => omega
      case rel => exact ⟨k + 1, by omega, by go_num, by omega, hbel.setCell (p := ⟨w.heap.size, k, none⟩) (Nat.le_refl _) _, ST.out.1⟩
    · obtain rfl : k = xs.length := by omega
      go_wp2_with fail
      go_ret
      exact ⟨_, rfl, by simpa [Own] using hown, hbel⟩
def eqGo : List Int → List Int → Bool
  | [], _ => true
  | x :: r, y :: r' => if x = y then eqGo r r' else false
  | _ :: _, [] => true
theorem eqGo_eq {xs ys : List Int} (h : xs.length = ys.length) : eqGo xs ys = decide (xs = ys) := by
  induction xs generalizing ys with
  | nil => cases ys with
    | nil => rfl
    | cons y r => simp at h
  | cons x r ih =>
    cases ys with
    | nil => simp at h
    | cons y r' =>
      rw [eqGo, ih (by simpa using h)]
      by_cases e : x = y
      · simp [e]
      · simp [e]

set_option maxHeartbeats 1000000 in
theorem laws_eqIntS (A A' : Option Addr) (cap cap' : Nat) (xs ys : List Int) (w : World) (h : Ints w A xs) (h' : Ints w A' ys) (hl : xs.length ≤ maxLen) (_hl' : ys.length ≤ maxLen) :
    Calls Try.prog 21 #[.slice A xs.length cap, .slice A' ys.length cap'] w fun e w' => e = .returned (.bool (decide (xs = ys))) ∧ ∃ m, w.drewN m = w' := by
  unfold maxLen at hl
  by_cases e : xs.length = ys.length
  · have d1 : ((xs.length : Int) != (ys.length : Int)) = false := by rw [bne_eq_false_iff_eq]; omega
    have hys : ys.length ≤ xs.length ∧ xs.length ≤ ys.length := by omega
    have E := Lib.hid e
    clear e
    go_enter Try.func21, Try.ntmps21
    go_wp2_with fail
    go_loopg [5] (xs.length + 1) (fun g i wr => ∃ (k m : Nat), k ≤ xs.length ∧ i = .int .i64 k ∧ xs.length - k < g ∧ w.drewN m = wr ∧ Hid (eqGo xs ys = eqGo (xs.drop k) (ys.drop k)))
    case atStart => exact ⟨0, 0, Nat.zero_le _, rfl, by omega, rfl, rfl⟩
    case round =>
      obtain ⟨k, m, hk, rfl, hg, rfl, H⟩ := hrel
      cases gk with
      | zero => omega
      | succ g =>
      by_cases hlt : k < xs.length
      · obtain ⟨b, off, x, rfl, hb, HX, hc, _⟩ := h.at_ hlt
        obtain ⟨b', off', y, rfl, hb', HY, hc', _⟩ := h'.at_ (k := k) (by omega)
        have hlt' : k < ys.length := by omega
        have i1 : (k : Int) < (xs.length : Int) := by omega
        have i2 : (k : Int) < (ys.length : Int) := by omega
        have i3 : (0 : Int) ≤ (k : Int) := by omega
        by_cases q : x = y
        · have dq : (x != y) = false := by rw [bne_eq_false_iff_eq]; exact q
          have Q := Lib.hid q
          clear q
          go_wp2_with fail
          go_quiet (fail)
          go_wp2_with fail
          go_roundg g
          case measure => omega
          case rel => exact ⟨k + 1, _, by omega, by go_num, by omega, rfl, H.out.trans (by rw [HX.out, HY.out, eqGo, if_pos Q.out])⟩
        · have dq : (x != y) = true := by rw [bne_iff_ne]; exact q
          have Q := Lib.hid q
          clear q
          go_wp2_with fail
          go_quiet (fail)
          go_wp2_with fail
          go_ret
          exact ⟨ret_bool (by rw [← eqGo_eq E.out, H.out, HX.out, HY.out, eqGo, if_neg Q.out]), _, (World.drewN_drewN _ _ _).symm⟩
      · go_wp2_with fail
        go_ret
        have e : xs.drop k = [] := List.drop_of_length_le (by omega)
        exact ⟨ret_bool (by rw [← eqGo_eq E.out, H.out, e, eqGo]), _, rfl⟩
  · have d1 : ((xs.length : Int) != (ys.length : Int)) = true := by rw [bne_iff_ne]; omega
    have E := Lib.hid e
    clear e
    go_enter Try.func21, Try.ntmps21
    go_wp2_with fail
    go_ret
    exact ⟨ret_bool (by rw [decide_eq_false (fun e => E.out (by rw [e]))]), 0, rfl⟩
end Go.Proofs.Ytmadagkdgpohiaa
