/- Parts laid flat: the places of parts, whether a level lies between, the levels of parts. No condition but sizes. -/
import Derived.Test.YtngpeehjjcgmmaaApp
import Derived.Test.YtngpeehjjcgmmaaPlain
import Derived.Test.YtngpeehjjcgmmaaPush
namespace Go.Proofs.Ytngpeehjjcgmmaa
open Go.RowKit

/-- where the part k begins -/
def plcAt (xs : List Int) : Nat → Int
  | 0 => 0
  | k + 1 => if k % 2 = 0 then plcAt xs k + xs.getD k 0 else plcAt xs k - xs.getD k 0
def plcTo (xs : List Int) (m : Nat) : List Int := (List.range m).map (plcAt xs)
def plcL (xs : List Int) : List Int := plcTo xs (xs.length + 1)
theorem plcTo_len (xs : List Int) (m : Nat) : (plcTo xs m).length = m := by simp [plcTo]
theorem plcTo_succ (xs : List Int) (m : Nat) : plcTo xs (m + 1) = plcTo xs m ++ [plcAt xs m] := by simp [plcTo, List.range_succ]
theorem plcTo_get {xs : List Int} {m k : Nat} (h : k < m) : (plcTo xs m)[k]? = some (plcAt xs k) := by simp [plcTo, h]
theorem plcAt_bd {xs : List Int} (hx : ∀ x ∈ xs, 0 ≤ x ∧ x ≤ 1000) (k : Nat) : -(1000 * (k : Int)) ≤ plcAt xs k ∧ plcAt xs k ≤ 1000 * (k : Int) := by
  induction k with
  | zero => simp [plcAt]
  | succ k ih =>
    have hg : 0 ≤ xs.getD k 0 ∧ xs.getD k 0 ≤ 1000 := by
      rw [List.getD_eq_getElem?_getD]
      cases hk : xs[k]? with
      | none => simp
      | some y => exact hx y (List.mem_of_getElem? hk)
    rw [plcAt]
    split <;> omega
theorem mod2z (k : Nat) : ((k : Int).tmod 2 = ((k % 2 : Nat) : Int)) ∧ ((k : Int) % 2 = ((k % 2 : Nat) : Int)) := by
  have h1 : (0 : Int) ≤ (k : Int) := by omega
  refine ⟨?_, ?_⟩
  · rw [Int.tmod_eq_emod_of_nonneg h1]; omega
  · omega
set_option maxHeartbeats 1000000 in
set_option maxRecDepth 100000 in
theorem impl_placesOf (A : Option Addr) (cap : Nat) (xs : List Int) (w : World) (h : Ints w A xs) (hl : xs.length ≤ 100) (hx : ∀ x ∈ xs, 0 ≤ x ∧ x ≤ 1000) :
    Calls Try.prog 49 #[.slice A xs.length cap] w fun e w' => ∃ v, e = .returned v ∧ Own w' w.heap.size v (plcL xs) ∧ Below w.heap.size w w' := by
  go_enter Try.func49, Try.ntmps49
  obtain ⟨i0, hi, hz0, hz1, hz2⟩ := info_parts Try.infoInt
  obtain ⟨w1, hrun, hown1, hg1⟩ := run_make_own (P := Try.prog) w w.heap.size 23 3 i0 (.int .i64 0) 1 Try.underlying23 hi hz0 hz1 .i64 .i64 (xs.length + 1) (by rw [hz2]; omega) (by unfold maxLen; omega) (Nat.le_refl _)
  have hb1 : Below w.heap.size w w1 := (Below.refl _ _).grown hg1 (Nat.le_refl _) (by intro k hk; cases hk)
  have HRun : Hid ((Instr.makeSlice 23 (.int .i64 0) (.int .i64 ((xs.length : Int) + 1))).run Try.prog w = .ok (.slice (some ⟨w.heap.size, 0, none⟩) 0 (xs.length + 1)) w1) := by
    show _ = _
    have := hrun
    simpa using this
  have hown1' : Own w1 w.heap.size (.slice (some ⟨w.heap.size, 0, none⟩) 0 (xs.length + 1)) (plcTo xs 0) := hown1
  have HB1 := Lib.hid hb1
  have hsz1 := hb1.size
  clear hi hz0 hz1 hz2 hrun hown1 hg1 hb1
  go_wp2_with fail
  rw [HRun.out]
  clear HRun
  go_wp2_with (at_builtin; go_loud (refine wpList_push (W := w1) rfl _ _ rfl w.heap.size _ (plcTo xs 0) 0 (by rfl) (by rfl) hown1' hsz1 (by simp [plcTo]) ?_))
  intro v2 w2 hown2 hgr2 hb2
  have HO2 : Hid (Own w2 w.heap.size v2 (plcTo xs 1)) := by
    have : plcTo xs 1 = plcTo xs 0 ++ [0] := plcTo_succ xs 0
    show Own _ _ _ _
    rw [this]; exact hown2
  have HB2 := Lib.hid (HB1.out.trans hb2)
  clear hown1' hown2 hgr2 hb2 hsz1 HB1
  go_wp2_with fail
  go_loopg [3, 4, 5, 6, 17] (xs.length + 1) (fun g s3 s4 s5 s6 s17 wr => ∃ (k : Nat), s5 = s5 ∧ s6 = s6 ∧ k ≤ xs.length ∧ s17 = .int .i64 k ∧ s4 = .int .i64 (plcAt xs k) ∧ xs.length - k < g ∧ Hid (Own wr w.heap.size s3 (plcTo xs (k + 1))) ∧ Hid (Below w.heap.size w wr))
  case atStart => exact ⟨0, rfl, rfl, Nat.zero_le _, rfl, rfl, by omega, HO2, HB2⟩
  case round =>
    clear HO2 HB2
    obtain ⟨k, _, _, hk, rfl, rfl, hg, HO, HB⟩ := hrel
    cases gk with
    | zero => omega
    | succ g =>
    by_cases hlt : k < xs.length
    · obtain ⟨b, off, rfl, hb, hc⟩ := h.below HB.out (by intro e; rw [e] at hlt; simp at hlt)
      have r1 := hc k xs[k] (List.getElem?_eq_getElem hlt)
      have hxk := hx xs[k] (List.getElem_mem hlt)
      have hpb := plcAt_bd hx k
      have hnext : plcAt xs (k + 1) = if k % 2 = 0 then plcAt xs k + xs[k] else plcAt xs k - xs[k] := by
        rw [plcAt, List.getD_eq_getElem?_getD, List.getElem?_eq_getElem hlt]; rfl
      obtain ⟨x, hx0⟩ : ∃ x, x = xs[k] := ⟨_, rfl⟩
      obtain ⟨p, hp0⟩ : ∃ p, p = plcAt xs k := ⟨_, rfl⟩
      rw [← hx0] at r1 hxk hnext
      rw [← hp0] at hpb hnext ⊢
      obtain ⟨m1, m2⟩ := mod2z k
      have k1 : (k : Int) < (xs.length : Int) := by omega
      have k0 : (0 : Int) ≤ (k : Int) := by omega
      have hT := plcTo_succ xs (k + 1)
      have hown := HO.out
      have hsz := HB.out.size
      have hln : (plcTo xs (k + 1)).length ≤ 101 := by rw [plcTo_len]; omega
      by_cases he : k % 2 = 0
      · rw [if_pos he] at hnext
        rw [he] at m1 m2
        have kw : IntKind.i64.wrap (p + x) = p + x := IntWalk.i64_in _ (by omega)
        rw [hnext] at hT
        have HT := Lib.hid hT
        have HN := Lib.hid hnext
        clear hc hx0 hp0 hnext hT he HO
        go_wp2_with (at_builtin; go_loud (refine wpList_push (W := wr) rfl _ _ rfl w.heap.size _ (plcTo xs (k + 1)) (p + x) (by rfl) (by rfl) hown hsz (by omega) ?_))
        intro v3 w3 hown3 hgr3 hb3
        rw [← HT.out] at hown3
        have HO3 := Lib.hid hown3
        have HB3 := Lib.hid (HB.out.trans hb3)
        clear hown hown3 hgr3 hb3
        go_wp2_with fail
        go_roundg g
        case measure => omega
        case rel => exact ⟨k + 1, trivial, trivial, by omega, by go_num, by rw [HN.out], by omega, HO3, HB3⟩
      · rw [if_neg he] at hnext
        rw [show k % 2 = 1 from by omega] at m1 m2
        have kw : IntKind.i64.wrap (p - x) = p - x := IntWalk.i64_in _ (by omega)
        rw [hnext] at hT
        have HT := Lib.hid hT
        have HN := Lib.hid hnext
        clear hc hx0 hp0 hnext hT he HO
        go_wp2_with (at_builtin; go_loud (refine wpList_push (W := wr) rfl _ _ rfl w.heap.size _ (plcTo xs (k + 1)) (p - x) (by rfl) (by rfl) hown hsz (by omega) ?_))
        intro v3 w3 hown3 hgr3 hb3
        rw [← HT.out] at hown3
        have HO3 := Lib.hid hown3
        have HB3 := Lib.hid (HB.out.trans hb3)
        clear hown hown3 hgr3 hb3
        go_wp2_with fail
        go_roundg g
        case measure => omega
        case rel => exact ⟨k + 1, trivial, trivial, by omega, by go_num, by rw [HN.out], by omega, HO3, HB3⟩
    · obtain rfl : k = xs.length := by omega
      go_wp2_with fail
      go_ret
      exact ⟨_, rfl, HO.out, HB.out⟩
def betB (l a b : Int) : Bool := decide (min a b < l) && decide (l < max a b)
set_option maxHeartbeats 400000 in
theorem impl_isBetween (l a b : Int) (w : World) :
    Calls Try.prog 54 #[.int .i64 l, .int .i64 a, .int .i64 b] w fun e w' => e = .returned (.bool (betB l a b)) ∧ w = w' := by
  go_enter Try.func54, Try.ntmps54
  go_wp2_with fail
  all_goals
    go_ret
    refine ⟨ret_bool ?_, rfl⟩
    rw [Bool.eq_iff_iff]
    unfold betB
    simp only [Bool.and_eq_true, decide_eq_true_eq, Bool.false_eq_true, false_iff]
    omega
end Go.Proofs.Ytngpeehjjcgmmaa
