/- PatternValid and PatternCreases, the program's and the reference's. No condition but sizes. -/
import Derived.Test.YtnccpifdajcejaaPatJ
namespace Go.Proofs.Ytnccpifdajcejaa
open Go.RowKit

set_option maxHeartbeats 400000 in
theorem impl_PatternValid (A : Option Addr) (cap : Nat) (vs : List Vx) (w : World) (h : Verts w A vs) (hl : vs.length ≤ maxLen) :
    Calls Try.prog 15 #[.slice A vs.length cap] w fun e w' => e = .returned (.bool (patB vs)) ∧ Below w.heap.size w w' := by
  go_enter Try.func15, Try.ntmps15
  go_wp2_with fail
  refine (impl_creaseUses A cap vs w h hl).mono ?_
  rintro e w1 ⟨v, rfl, _, _, hb⟩
  go_wp2_with fail
  go_ret
  exact ⟨rfl, hb⟩
/-- the number of creases, -1 for no pattern -/
def pcI (vs : List Vx) : Int := if patB vs then ncr vs else -1
theorem patB_parts {vs : List Vx} (h : patB vs = true) : 1 ≤ vs.length ∧ vs.length ≤ 3 ∧ vs.all vtxB = true ∧ usesOk vs (ncr vs).toNat = true ∧ 0 ≤ ncr vs ∧ ncr vs ≤ 10 := by
  have h0 := h
  unfold patB at h
  simp only [Bool.and_eq_true, decide_eq_true_eq] at h
  obtain ⟨⟨⟨h1, h2⟩, h3⟩, h4⟩ := h
  have := ncr_bd h3
  exact ⟨h1, h2, h3, h4, this.1, this.2⟩
set_option maxHeartbeats 400000 in
theorem impl_PatternCreases (A : Option Addr) (cap : Nat) (vs : List Vx) (w : World) (h : Verts w A vs) (hl : vs.length ≤ maxLen) :
    Calls Try.prog 17 #[.slice A vs.length cap] w fun e w' => e = .returned (.int .i64 (pcI vs)) ∧ Below w.heap.size w w' := by
  go_enter Try.func17, Try.ntmps17
  go_wp2_with fail
  refine (impl_creaseUses A cap vs w h hl).mono ?_
  rintro e w1 ⟨v, rfl, hyes, hno, hb⟩
  cases hp : patB vs with
  | false =>
    have hv := hno hp
    subst hv
    have HP := Lib.hid hp
    clear hp hyes hno
    go_wp2_with fail
    go_ret
    exact ⟨ret_int (by unfold pcI; rw [HP.out]; rfl), hb⟩
  | true =>
    have hown := hyes hp
    obtain ⟨_, _, _, _, n0, _⟩ := patB_parts hp
    obtain ⟨n, hn⟩ : ∃ n, n = (ncr vs).toNat := ⟨_, rfl⟩
    rw [← hn] at hown
    obtain ⟨D, cd, rfl, _, _, _⟩ := hown.form
    rw [usesL_len]
    have HP := Lib.hid hp
    have HN := Lib.hid (show (n : Int) = ncr vs from by omega)
    clear hp hyes hno hown hn n0
    go_wp2_with fail
    go_ret
    exact ⟨ret_int (by unfold pcI; rw [HP.out, if_pos rfl]; exact HN.out), hb⟩
set_option maxHeartbeats 400000 in
theorem spec_PatternCreases (A : Option Addr) (cap : Nat) (vs : List Vx) (w : World) (h : Verts w A vs) (hl : vs.length ≤ maxLen) :
    Calls Try.prog 56 #[.slice A vs.length cap] w fun e w' => e = .returned (.int .i64 (pcI vs)) ∧ Below w.heap.size w w' := by
  go_enter Try.func56, Try.ntmps56
  go_wp2_with fail
  refine (spec_PatternValid A cap vs w h hl).mono ?_
  rintro e w1 ⟨rfl, hb⟩
  cases hp : patB vs with
  | false =>
    have HP := Lib.hid hp
    clear hp
    go_wp2_with fail
    go_ret
    exact ⟨ret_int (by unfold pcI; rw [HP.out]; rfl), hb⟩
  | true =>
    obtain ⟨h1, h3, hall, _, _, _⟩ := patB_parts hp
    have hvx : ∀ v ∈ vs, v.2.length ≤ 1000000 ∧ ∀ x ∈ v.2, 0 ≤ x ∧ x ≤ 9 := fun v hv => by
      rw [List.all_eq_true] at hall
      have := vtxB_bd (hall v hv)
      exact ⟨by omega, this.2.2.2.2⟩
    have hcall := spec_l6pCreases A cap vs w1 (h.below hb) (by omega) hvx
    have HCALL := Lib.hid hcall
    have HP := Lib.hid hp
    clear hp hall hvx hcall
    go_wp2_with fail
    refine HCALL.out.mono ?_
    rintro e w2 ⟨rfl, rfl⟩
    go_wp2_with fail
    go_ret
    exact ⟨ret_int (by unfold pcI; rw [HP.out, if_pos rfl]), hb⟩
end Go.Proofs.Ytnccpifdajcejaa
