/- The reference's 'l1Crimps': the same indexes as the program's 'crimps'. No condition but sizes. -/
import Derived.Test.YtngpeehjjcgmmaaSpecC
namespace Go.Proofs.Ytngpeehjjcgmmaa
open Go.RowKit

theorem leastGo_le (m : Int) (l : List Int) : leastGo m l ≤ m ∧ ∀ x ∈ l, leastGo m l ≤ x := by
  induction l generalizing m with
  | nil => exact ⟨Int.le_refl _, fun x h => by cases h⟩
  | cons y r ih =>
    have h := ih (if y < m then y else m)
    rw [leastGo]
    refine ⟨?_, fun x hx => ?_⟩
    · refine Int.le_trans h.1 ?_
      split <;> omega
    · cases hx with
      | head => refine Int.le_trans h.1 ?_; split <;> omega
      | tail _ hx => exact h.2 x hx
theorem leastGo_mem (m : Int) (l : List Int) : leastGo m l = m ∨ leastGo m l ∈ l := by
  induction l generalizing m with
  | nil => exact Or.inl rfl
  | cons y r ih =>
    rw [leastGo]
    rcases ih (if y < m then y else m) with h | h
    · rw [h]
      split
      · exact Or.inr (List.mem_cons_self ..)
      · exact Or.inl rfl
    · exact Or.inr (List.mem_cons_of_mem _ h)
theorem least_is {xs : List Int} {k : Nat} (h : k < xs.length) : (angleAt xs k = leastGo (angleAt xs 0) xs) ↔ ∀ j, j < xs.length → angleAt xs k ≤ angleAt xs j := by
  constructor
  · intro e j hj
    rw [e]
    exact (leastGo_le _ _).2 _ (angleAt_mem hj)
  · intro ha
    have h1 := (leastGo_le (angleAt xs 0) xs).2 _ (angleAt_mem h)
    have h2 : angleAt xs k ≤ leastGo (angleAt xs 0) xs := by
      rcases leastGo_mem (angleAt xs 0) xs with e | e
      · rw [e]; exact ha 0 (by omega)
      · obtain ⟨j, hj, e2⟩ := List.getElem_of_mem e
        have := ha j hj
        have e3 : angleAt xs j = xs[j] := by unfold angleAt; simp [List.getD_eq_getElem?_getD, hj]
        rw [← e2, ← e3]
        exact this
    omega

theorem lessGo_spec {n : Nat} {x : Nat → Int} {i : Nat} (hi : i < n) : ∀ fuel j, j < n → dist n i j < fuel → (lessGo n x i (x i) fuel j = true ↔ ∀ m, m < n → dist n i m ≤ dist n i j → x i ≤ x m) := by
  intro fuel
  induction fuel with
  | zero => intro j _ h; omega
  | succ fuel ih =>
    intro j hj hd
    rw [lessGo]
    by_cases e : j = i
    · rw [if_pos e]
      simp only [true_iff]
      intro m hm hdm
      have : m = i := by
        subst e
        unfold dist at hdm
        revert hdm; repeat' split
        all_goals omega
      rw [this]
      exact Int.le_refl _
    · rw [if_neg e]
      have hdn := dist_nxt hi hj e
      by_cases hl : x j < x i
      · rw [if_pos hl]
        simp only [Bool.false_eq_true, false_iff]
        intro h
        have := h j hj (Nat.le_refl _)
        omega
      · rw [if_neg hl, ih _ (nxt_lt hj) (by omega)]
        constructor
        · intro h m hm hdm
          by_cases e2 : dist n i m = dist n i j
          · have : m = j := by
              unfold dist at e2
              revert e2; repeat' split
              all_goals omega
            rw [this]; omega
          · exact h m hm (by omega)
        · intro h m hm hdm
          exact h m hm (by omega)
theorem allowed_iff {n : Nat} {x : Nat → Int} {f : Nat → Nat} {i : Nat} (hi : i < n) : allowedB n x f i = true ↔ 4 ≤ n ∧ f i ≠ f (nxt n i) ∧ ∀ m, m < n → x i ≤ x m := by
  unfold allowedB
  by_cases h4 : n < 4
  · rw [if_pos h4]; simp; intro h; omega
  · rw [if_neg h4]
    by_cases hf : f i = f (nxt n i)
    · rw [if_pos hf]; simp [hf]
    · rw [if_neg hf, lessGo_spec hi n _ (nxt_lt hi) (by have := dist_start hi; omega)]
      constructor
      · intro h
        refine ⟨by omega, hf, fun m hm => ?_⟩
        by_cases e : m = i
        · rw [e]; exact Int.le_refl _
        · refine h m hm ?_
          unfold dist nxt; repeat' split
          all_goals omega
      · intro h m hm _
        exact h.2.2 m hm

theorem crimpsTo_small {n k : Nat} {x : Nat → Int} {f : Nat → Nat} (h : n < 4) : crimpsTo n x f k = [] := by
  unfold crimpsTo
  rw [List.filter_eq_nil_iff.2 (fun a _ => by unfold allowedB; rw [if_pos h]; simp)]
  rfl

theorem mod_nxt {n k : Nat} (h : k < n) : (k + 1) % n = nxt n k := by
  unfold nxt
  split
  · next e => rw [e, Nat.mod_self]
  · exact Nat.mod_eq_of_lt (by omega)

set_option maxHeartbeats 1000000 in
theorem spec_l1Crimps (A : Option Addr) (cap : Nat) (xs : List Int) (s : ByteArray) (w : World) (h : Ints w A xs) (hl : xs.length ≤ 100) (hs : s.size = xs.length) :
    Calls Try.prog 46 #[.slice A xs.length cap, .string s] w fun e w' => ∃ v, e = .returned v ∧ Own w' w.heap.size v (crimpsTo xs.length (angleAt xs) (byteAt s) xs.length) ∧ Below w.heap.size w w' := by
  have HS := Lib.hid hs; clear hs
  by_cases h4 : xs.length < 4
  · have d1 : decide ((4 : Int) ≤ (xs.length : Int)) = false := by simp; omega
    go_enter Try.func46, Try.ntmps46
    go_wp2_with fail
    refine wp_loop_rounds 1 ?_
    rw [rounds_succ]
    go_wp2_with fail
    all_goals go_ret
    all_goals exact ⟨_, rfl, by rw [crimpsTo_small h4]; exact own_empty w (Nat.le_refl _), (Below.refl _ _).alloc (Nat.le_refl _) _⟩
  · have d1 : decide ((4 : Int) ≤ (xs.length : Int)) = true := by simp; omega
    go_enter Try.func46, Try.ntmps46
    go_wp2_with fail
    go_loopg [5, 7] (xs.length + 1) (fun g s5 s7 wr => ∃ k, k ≤ xs.length ∧ s7 = .int .i64 k ∧ xs.length - k < g ∧ Own wr w.heap.size s5 (crimpsTo xs.length (angleAt xs) (byteAt s) k) ∧ Below w.heap.size w wr)
    case atStart => exact ⟨0, Nat.zero_le _, rfl, by omega, own_empty w (Nat.le_refl _), (Below.refl _ _).alloc (Nat.le_refl _) _⟩
    case round =>
      obtain ⟨k, hk, rfl, hg, hown, hbel⟩ := hrel
      have hsz := hbel.size
      have hI := h.below hbel
      cases gk with
      | zero => omega
      | succ g =>
      by_cases hlt : k < xs.length
      · obtain ⟨b, off, x, rfl, hb, HX, hc, hm⟩ := hI.at_ hlt
        have hx : angleAt xs k = x := angle_of HX.out
        have hlen := crimpsTo_len xs.length (angleAt xs) (byteAt s) k
        clear hm
        have hal := @allowed_iff xs.length (angleAt xs) (byteAt s) k hlt
        have hle := least_is hlt
        rw [hx] at hle
        by_cases q1 : x = leastGo (angleAt xs 0) xs
        · have e1 : (x == leastGo (angleAt xs 0) xs) = true := by simp [← q1]
          obtain ⟨q, hq⟩ : ∃ q, q = nxt xs.length k := ⟨_, rfl⟩
          have hqs : q < s.size := by rw [hq, HS.out]; exact nxt_lt hlt
          have hks : k < s.size := by rw [HS.out]; exact hlt
          have b1 := byteAt_eq s k hks
          have b2 := byteAt_eq s q hqs
          have w1 : IntKind.i64.wrap ((k : Int) + 1) = (k : Int) + 1 := IntWalk.i64_in _ (by omega)
          have w2 : ((k : Int) + 1).tmod (xs.length : Int) = (q : Int) := by
            rw [Int.tmod_eq_emod_of_nonneg (by omega), hq, ← mod_nxt hlt]; rfl
          have w3 : IntKind.i64.wrap (q : Int) = (q : Int) := IntWalk.i64_in _ (by have := HS.out; omega)
          have w4 : ((xs.length : Int) == 0) = false := by rw [beq_eq_false_iff_ne]; omega
          have w5 : (0 : Int) ≤ (q : Int) := by omega
          have w6 : (q : Int) < (s.size : Int) := by omega
          rw [← hq] at hal
          have HQ := Lib.hid hq
          clear hq
          by_cases q2 : s[k].toNat = s[q].toNat
          · have e2 : ((s[k].toNat : Int) != (s[q].toNat : Int)) = false := by rw [bne_eq_false_iff_eq]; omega
            have hno : allowedB xs.length (angleAt xs) (byteAt s) k = false := by
              rw [← Bool.not_eq_true, hal]; intro hh; exact hh.2.1 (by rw [b1, b2, q2])
            have HY := Lib.hid (crimpsTo_no hno)
            have Q := Lib.hid (And.intro q1 q2)
            clear hno hal hle q1 hx b1 b2 q2
            go_wp2_with fail
            go_quiet ((go_at_call 65; exact quietl (spec_l1Least _ _ xs _ (by exact hI) (by omega) (by unfold maxLen; omega))))
            clear w1 w2 w3
            go_wp2_with fail
            go_roundg g
            case measure => omega
            case rel => exact ⟨k + 1, by omega, by go_num, by omega, by rw [HY.out]; exact hown, below_drewN hbel _⟩
          · have e2 : ((s[k].toNat : Int) != (s[q].toNat : Int)) = true := by rw [bne_iff_ne]; omega
            have hyes : allowedB xs.length (angleAt xs) (byteAt s) k = true := by
              rw [hal]; exact ⟨by omega, by rw [b1, b2]; exact q2, fun m hm => by rw [hx]; exact hle.1 q1 m hm⟩
            have HY := Lib.hid (crimpsTo_yes hyes)
            have Q := Lib.hid (And.intro q1 q2)
            clear hyes hal hle q1 hx b1 b2 q2
            go_wp2_with fail
            go_quiet ((go_at_call 65; exact quietl (spec_l1Least _ _ xs _ (by exact hI) (by omega) (by unfold maxLen; omega))))
            clear w1 w2 w3
            go_wp2_with (at_builtin; go_loud (refine wpList_push (W := wr.drewN nq) rfl _ _ rfl w.heap.size _ _ k (by rfl) (by rfl) hown hsz (by omega) ?_))
            intro v' w2 hown2 hgr hb2
            have hbel2 := (below_drewN hbel nq).trans hb2
            clear hown hgr hb2
            go_wp2_with fail
            go_roundg g
            case measure => omega
            case rel => exact ⟨k + 1, by omega, by go_num, by omega, by rw [HY.out]; exact hown2, hbel2⟩
        · have e1 : (x == leastGo (angleAt xs 0) xs) = false := by simp [q1]
          have hno : allowedB xs.length (angleAt xs) (byteAt s) k = false := by
            rw [← Bool.not_eq_true, hal]; intro hh; exact q1 (hle.2 (fun j hj => by rw [← hx]; exact hh.2.2 j hj))
          have HY := Lib.hid (crimpsTo_no hno)
          clear hno hal hle q1 hx
          go_wp2_with fail
          go_quiet ((go_at_call 65; exact quietl (spec_l1Least _ _ xs _ (by exact hI) (by omega) (by unfold maxLen; omega))))
          go_wp2_with fail
          go_roundg g
          case measure => omega
          case rel => exact ⟨k + 1, by omega, by go_num, by omega, by rw [HY.out]; exact hown, below_drewN hbel _⟩
      · obtain rfl : k = xs.length := by omega
        go_wp2_with fail
        go_ret
        exact ⟨_, rfl, hown, hbel⟩
end Go.Proofs.Ytngpeehjjcgmmaa
