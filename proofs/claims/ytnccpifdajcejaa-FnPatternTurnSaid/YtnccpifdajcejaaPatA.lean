/- The reference's tests of patterns: l2Has, l6pUses, l6pCreases, l6pVertex, PatternValid, PatternCreases. No condition but sizes. -/
import Derived.Test.YtnccpifdajcejaaVert
import Derived.Test.YtnccpifdajcejaaPat
import Derived.Test.YtnccpifdajcejaaSpecC
namespace Go.Proofs.Ytnccpifdajcejaa
open Go.RowKit

theorem mem_drop_yes {l r : List Int} {k : Nat} {y : Int} (h : l.drop k = y :: r) : y ∈ l := by
  have : y ∈ l.drop k := by rw [h]; simp
  exact List.mem_of_mem_drop this

set_option maxHeartbeats 400000 in
theorem spec_l2Has (A : Option Addr) (cap : Nat) (xs : List Int) (z : Int) (w : World) (h : Ints w A xs) (hl : xs.length ≤ maxLen) :
    Calls Try.prog 75 #[.slice A xs.length cap, .int .i64 z] w fun e w' => e = .returned (.bool (decide (z ∈ xs))) ∧ w = w' := by
  unfold maxLen at hl
  go_enter Try.func75, Try.ntmps75
  go_wp2_with fail
  go_loop [5] (fun s5 => ∃ k : Nat, k ≤ xs.length ∧ s5 = .int .i64 k ∧ Hid ((z ∈ xs) ↔ (z ∈ xs.drop k))) (fun s5 => xs.length - (intOf s5).toNat)
  case atStart => exact ⟨0, Nat.zero_le _, rfl, by show _ ↔ _; simp⟩
  case round =>
    obtain ⟨k, hk, rfl, H⟩ := hrel
    by_cases hlt : k < xs.length
    · obtain ⟨b, off, y, rfl, _, HX, hc, _⟩ := h.at_ hlt
      have k1 : (k : Int) < (xs.length : Int) := by omega
      by_cases q : y = z
      · have d : (y == z) = true := by rw [beq_iff_eq]; exact q
        have hm : z ∈ xs := q ▸ mem_drop_yes HX.out
        have HM := Lib.hid hm
        clear q hm
        go_wp2_with fail
        go_ret
        exact ⟨ret_bool (by rw [decide_eq_true HM.out]), rfl⟩
      · have d : (y == z) = false := by rw [beq_eq_false_iff_ne]; exact q
        have H2 : Hid ((z ∈ xs) ↔ (z ∈ xs.drop (k + 1))) := by
          show _ ↔ _
          rw [H.out, HX.out, List.mem_cons]
          exact ⟨fun e => e.resolve_left (fun e => q e.symm), Or.inr⟩
        clear q
        go_wp2_with fail
        go_round
        case rel => exact ⟨k + 1, by omega, by go_num, H2⟩
        case measure => simp [intOf]; omega
    · obtain rfl : k = xs.length := by omega
      have hm : ¬ z ∈ xs := by rw [H.out]; simp
      have HM := Lib.hid hm
      clear hm
      go_wp2_with fail
      go_ret
      exact ⟨ret_bool (by rw [decide_eq_false HM.out]), rfl⟩

set_option maxHeartbeats 1000000 in
theorem spec_l6pUses (A : Option Addr) (cap : Nat) (vs : List Vx) (z : Int) (w : World) (h : Verts w A vs) (hl : vs.length ≤ 1000000) :
    Calls Try.prog 52 #[.slice A vs.length cap, .int .i64 z] w fun e w' => e = .returned (.int .i64 (useN vs z : Int)) ∧ w = w' := by
  go_enter Try.func52, Try.ntmps52
  go_wp2_with fail
  go_loop [5, 6] (fun s5 s6 => ∃ (k n : Nat), k ≤ vs.length ∧ s6 = .int .i64 k ∧ s5 = .int .i64 n ∧ n ≤ k ∧ Hid (n + useN (vs.drop k) z = useN vs z)) (fun _ s6 => vs.length - (intOf s6).toNat)
  case atStart => exact ⟨0, 0, Nat.zero_le _, rfl, rfl, Nat.le_refl _, by show 0 + _ = _; simp⟩
  case round =>
    obtain ⟨k, n, hk, rfl, rfl, hn, H⟩ := hrel
    by_cases hlt : k < vs.length
    · obtain ⟨b, off, A1, c1, A2, c2, rfl, hb, r1, r2, _, _, _, i2, l2, m2⟩ := h.at_ hlt
      have hd := List.drop_eq_getElem_cons hlt
      have k1 : (k : Int) < (vs.length : Int) := by omega
      have hcall : ∀ W : World, Ints W A2 vs[k].2 → Calls Try.prog 75 #[.slice A2 vs[k].2.length c2, .int .i64 z] W fun e w' => e = .returned (.bool (decide (z ∈ vs[k].2))) ∧ W = w' := fun W hI => spec_l2Has A2 c2 vs[k].2 z W hI (Nat.le_trans l2 m2)
      have HCALL := Lib.hid hcall
      have HI2 := Lib.hid i2
      by_cases q : z ∈ vs[k].2
      · have H2 : Hid (n + 1 + useN (vs.drop (k + 1)) z = useN vs z) := by show _ = _; rw [← H.out, hd, useN, if_pos q]; omega
        have HQ := Lib.hid q
        clear hd hcall i2 q
        go_wp2_with fail
        refine (HCALL.out w HI2.out).mono ?_
        rintro e w' ⟨rfl, rfl⟩
        rw [decide_eq_true HQ.out]
        go_wp2_with fail
        go_round
        case rel => exact ⟨k + 1, n + 1, by omega, by go_num, by go_num, by omega, H2⟩
        case measure => simp [intOf]; omega
      · have H2 : Hid (n + useN (vs.drop (k + 1)) z = useN vs z) := by show _ = _; rw [← H.out, hd, useN, if_neg q]; omega
        have HQ := Lib.hid q
        clear hd hcall i2 q
        go_wp2_with fail
        refine (HCALL.out w HI2.out).mono ?_
        rintro e w' ⟨rfl, rfl⟩
        rw [decide_eq_false HQ.out]
        go_wp2_with fail
        go_round
        case rel => exact ⟨k + 1, n, by omega, by go_num, rfl, by omega, H2⟩
        case measure => simp [intOf]; omega
    · obtain rfl : k = vs.length := by omega
      go_wp2_with fail
      go_ret
      exact ⟨ret_int (by rw [← H.out, List.drop_length]; simp [useN]), rfl⟩

set_option maxHeartbeats 1000000 in
theorem spec_l6pCreases (A : Option Addr) (cap : Nat) (vs : List Vx) (w : World) (h : Verts w A vs) (hl : vs.length ≤ 1000000) (hx : ∀ v ∈ vs, v.2.length ≤ 1000000 ∧ ∀ x ∈ v.2, 0 ≤ x ∧ x ≤ 9) :
    Calls Try.prog 51 #[.slice A vs.length cap] w fun e w' => e = .returned (.int .i64 (ncr vs)) ∧ w = w' := by
  have HX := Lib.hid hx
  clear hx
  go_enter Try.func51, Try.ntmps51
  go_wp2_with fail
  go_loop [3, 4, 5] (fun s3 s4 s5 => ∃ (k : Nat) (m : Int), k ≤ vs.length ∧ s4 = .int .i64 k ∧ s3 = .int .i64 m ∧ 0 ≤ m ∧ m ≤ 10 ∧ Hid (ncGo m (vs.drop k) = ncr vs)) (fun _ s4 _ => vs.length - (intOf s4).toNat)
  case atStart => exact ⟨0, 0, Nat.zero_le _, rfl, rfl, by omega, by omega, rfl⟩
  case round =>
    obtain ⟨k, m, hk, rfl, rfl, hm0, hm1, H⟩ := hrel
    by_cases hlt : k < vs.length
    · obtain ⟨b, off, A1, c1, A2, c2, rfl, hb, r1, r2, _, _, _, i2, l2, m2⟩ := h.at_ hlt
      have hd := List.drop_eq_getElem_cons hlt
      have hvx := HX.out vs[k] (List.getElem_mem hlt)
      obtain ⟨cs, hcs⟩ : ∃ cs, cs = vs[k].2 := ⟨_, rfl⟩
      rw [← hcs] at r2 i2 l2 hvx
      have H2 : Hid (ncGo (mxGo m cs) (vs.drop (k + 1)) = ncr vs) := by show _ = _; rw [← H.out, hd, ncGo, hcs]
      have hcl := hvx.1
      have HVX := Lib.hid hvx.2
      have k1 : (k : Int) < (vs.length : Int) := by omega
      clear hd hcs hvx
      go_wp2_with fail
      go_loop [3, 5] (fun s3 s5 => ∃ (j : Nat) (q : Int), j ≤ cs.length ∧ s5 = .int .i64 j ∧ s3 = .int .i64 q ∧ 0 ≤ q ∧ q ≤ 10 ∧ Hid (mxGo q (cs.drop j) = mxGo m cs)) (fun _ s5 => cs.length - (intOf s5).toNat)
      case atStart => exact ⟨0, m, Nat.zero_le _, rfl, rfl, hm0, hm1, rfl⟩
      case round =>
        obtain ⟨j, q, hj, rfl, rfl, hq0, hq1, HQ⟩ := hrel
        by_cases hjl : j < cs.length
        · obtain ⟨b2, off2, y, rfl, _, HXY, hc2, hym⟩ := i2.at_ hjl
          obtain ⟨y0, y9⟩ := HVX.out y hym
          have j1 : (j : Int) < (cs.length : Int) := by omega
          have HQ2 : Hid (mxGo (if q < y + 1 then y + 1 else q) (cs.drop (j + 1)) = mxGo m cs) := by show _ = _; rw [← HQ.out, HXY.out, mxGo]
          clear hym
          by_cases hqy : q < y + 1
          · rw [if_pos hqy] at HQ2
            go_wp2_with fail
            go_round
            case rel => exact ⟨j + 1, y + 1, by omega, by go_num, by first | rfl | (congr 1; omega), by omega, by omega, HQ2⟩
            case measure => simp [intOf]; omega
          · rw [if_neg hqy] at HQ2
            go_wp2_with fail
            go_round
            case rel => exact ⟨j + 1, q, by omega, by go_num, by first | rfl | (congr 1; omega), by omega, by omega, HQ2⟩
            case measure => simp [intOf]; omega
        · obtain rfl : j = cs.length := by omega
          have HQ3 : Hid (q = mxGo m cs) := by
            have := HQ.out
            rw [List.drop_length] at this
            exact this
          have H3 : Hid (ncGo q (vs.drop (k + 1)) = ncr vs) := by show _ = _; rw [HQ3.out]; exact H2.out
          go_wp2_with fail
          go_round
          case rel => exact ⟨k + 1, q, by omega, by go_num, rfl, by omega, by omega, H3⟩
          case measure => simp [intOf]; omega
    · obtain rfl : k = vs.length := by omega
      go_wp2_with fail
      go_ret
      exact ⟨ret_int (by rw [← H.out, List.drop_length]; rfl), rfl⟩
end Go.Proofs.Ytnccpifdajcejaa
