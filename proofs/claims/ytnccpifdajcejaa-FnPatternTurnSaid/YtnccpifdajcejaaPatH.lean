/- The number of vertices of a pattern value; PatternFolds. No condition but sizes. -/
import Derived.Test.YtnccpifdajcejaaPatG
namespace Go.Proofs.Ytnccpifdajcejaa
open Go.RowKit

theorem vertices_one (A1 A2 : Option Addr) (n1 n2 c1 c2 : Nat) (w : World) :
    Calls Try.prog 113 #[.agg #[.slice A1 n1 c1, .slice A2 n2 c2]] w fun e w' => e = .returned (.int .i64 1) ∧ Below w.heap.size w w' := by
  go_enter Try.func113, Try.ntmps113
  go_wp2_with fail
  go_ret
  exact ⟨rfl, (Below.refl _ _).alloc (Nat.le_refl _) _⟩
set_option maxHeartbeats 2000000 in
theorem vertices_more (Y : Value) (n : Nat) (A1 A2 : Option Addr) (n1 n2 c1 c2 : Nat) (w : World) (hn : n ≤ 1000)
    (hY : (n = 1 ∧ ∃ B1 B2 k1 k2 d1 d2, Y = .iface 83 (.agg #[.slice B1 k1 d1, .slice B2 k2 d2])) ∨ ∃ Z, Y = .iface 85 Z ∧ ∀ W : World, Calls Try.prog 114 #[Z] W fun e w' => e = .returned (.int .i64 (n : Int)) ∧ Below W.heap.size W w') :
    Calls Try.prog 114 #[.agg #[Y, .slice A1 n1 c1, .slice A2 n2 c2]] w fun e w' => e = .returned (.int .i64 ((n + 1 : Nat) : Int)) ∧ Below w.heap.size w w' := by
  have kw : IntKind.i64.wrap ((n : Int) + 1) = (n : Int) + 1 := IntWalk.i64_in _ (by omega)
  have kw1 : IntKind.i64.wrap 2 = 2 := rfl
  obtain ⟨w2, hw2⟩ : ∃ w2, w2 = w.alloc (.cells #[Y, .slice A1 n1 c1, .slice A2 n2 c2] 85) := ⟨_, rfl⟩
  have b2 : Below w.heap.size w w2 := by rw [hw2]; exact (Below.refl _ _).alloc (Nat.le_refl _) _
  have K2 : Blk w2 w.heap.size 85 #[Y, .slice A1 n1 c1, .slice A2 n2 c2] := by rw [hw2]; exact Blk.new w _ _
  have a0 := K2.cell 0
  have a1 := K2.cell 1
  have a2 := K2.cell 2
  have HW := Lib.hid hw2
  clear hw2
  rcases hY with ⟨rfl, B1, B2, k1, k2, d1, d2, rfl⟩ | ⟨Z, rfl, hZ⟩
  · go_enter Try.func114, Try.ntmps114
    go_wp2_with fail
    rw [← HW.out]
    go_region_held3 (fun Q => Q.cell? ⟨w.heap.size, 0, none⟩ = some (.iface 83 (.agg #[.slice B1 k1 d1, .slice B2 k2 d2])) ∧ Q.cell? ⟨w.heap.size, 1, none⟩ = some (.slice A1 n1 c1) ∧ Q.cell? ⟨w.heap.size, 2, none⟩ = some (.slice A2 n2 c2))
      (first
        | exact ⟨a0, a1, a2⟩
        | exact ⟨(hby.cell (p := ⟨w.heap.size, 0, none⟩) (Nat.lt_of_lt_of_le K2.lt hbx.size)).trans ((hbx.cell (p := ⟨w.heap.size, 0, none⟩) K2.lt).trans a0), (hby.cell (p := ⟨w.heap.size, 1, none⟩) (Nat.lt_of_lt_of_le K2.lt hbx.size)).trans ((hbx.cell (p := ⟨w.heap.size, 1, none⟩) K2.lt).trans a1), (hby.cell (p := ⟨w.heap.size, 2, none⟩) (Nat.lt_of_lt_of_le K2.lt hbx.size)).trans ((hbx.cell (p := ⟨w.heap.size, 2, none⟩) K2.lt).trans a2)⟩
        | exact ⟨(hbx.cell (p := ⟨w.heap.size, 0, none⟩) K2.lt).trans a0, (hbx.cell (p := ⟨w.heap.size, 1, none⟩) K2.lt).trans a1, (hbx.cell (p := ⟨w.heap.size, 2, none⟩) K2.lt).trans a2⟩)
      (first
        | (have _hz := hbx.size; go_simp; go_at_call 113; refine (vertices_one _ _ _ _ _ _ _).mono ?_; rintro e w4 ⟨rfl, hby⟩)
        | (go_simp; go_at_call 113; refine (vertices_one _ _ _ _ _ _ _).mono ?_; rintro e w3 ⟨rfl, hbx⟩))
    all_goals
      have b4 : Below w.heap.size w w4 := b2.trans ((below_from (⟨hbx.os, hbx.tape, hbx.output, hbx.size, hbx.block⟩ : Below w2.heap.size w2 w3) hby hbx.size).mono b2.size)
      go_wp2_with fail
      go_ret
      exact ⟨rfl, b4⟩
  · have HZ := Lib.hid hZ
    clear hZ
    go_enter Try.func114, Try.ntmps114
    go_wp2_with fail
    rw [← HW.out]
    go_region_held3 (fun Q => Q.cell? ⟨w.heap.size, 0, none⟩ = some (.iface 85 Z) ∧ Q.cell? ⟨w.heap.size, 1, none⟩ = some (.slice A1 n1 c1) ∧ Q.cell? ⟨w.heap.size, 2, none⟩ = some (.slice A2 n2 c2))
      (first
        | exact ⟨a0, a1, a2⟩
        | exact ⟨(hby.cell (p := ⟨w.heap.size, 0, none⟩) (Nat.lt_of_lt_of_le K2.lt hbx.size)).trans ((hbx.cell (p := ⟨w.heap.size, 0, none⟩) K2.lt).trans a0), (hby.cell (p := ⟨w.heap.size, 1, none⟩) (Nat.lt_of_lt_of_le K2.lt hbx.size)).trans ((hbx.cell (p := ⟨w.heap.size, 1, none⟩) K2.lt).trans a1), (hby.cell (p := ⟨w.heap.size, 2, none⟩) (Nat.lt_of_lt_of_le K2.lt hbx.size)).trans ((hbx.cell (p := ⟨w.heap.size, 2, none⟩) K2.lt).trans a2)⟩
        | exact ⟨(hbx.cell (p := ⟨w.heap.size, 0, none⟩) K2.lt).trans a0, (hbx.cell (p := ⟨w.heap.size, 1, none⟩) K2.lt).trans a1, (hbx.cell (p := ⟨w.heap.size, 2, none⟩) K2.lt).trans a2⟩)
      (first
        | (have _hz := hbx.size; go_simp; go_at_call 113; refine (vertices_one _ _ _ _ _ _ _).mono ?_; rintro e w4 ⟨rfl, hby⟩)
        | (go_simp; go_at_call 114; refine (HZ.out _).mono ?_; rintro e w3 ⟨rfl, hbx⟩))
    all_goals
      have b4 : Below w.heap.size w w4 := b2.trans ((below_from (⟨hbx.os, hbx.tape, hbx.output, hbx.size, hbx.block⟩ : Below w2.heap.size w2 w3) hby hbx.size).mono b2.size)
      go_wp2_with fail
      go_ret
      exact ⟨ret_int (by omega), b4⟩
theorem vertices_any {w : World} {vs : List Vx} {X : Value} (h : PatV w vs X) (hl : vs.length ≤ 1000) :
    (vs.length = 1 ∧ ∃ B1 B2 k1 k2 d1 d2, X = .iface 83 (.agg #[.slice B1 k1 d1, .slice B2 k2 d2])) ∨ ∃ Z, X = .iface 85 Z ∧ ∀ W : World, Calls Try.prog 114 #[Z] W fun e w' => e = .returned (.int .i64 (vs.length : Int)) ∧ Below W.heap.size W w' := by
  induction h with
  | one v U V h1 h2 =>
    obtain ⟨A1, c1, rfl, _⟩ := h1
    obtain ⟨A2, c2, rfl, _⟩ := h2
    exact Or.inl ⟨rfl, _, _, _, _, _, _, rfl⟩
  | more us v Y U V hne hY h1 h2 ih =>
    obtain ⟨A1, c1, rfl, _⟩ := h1
    obtain ⟨A2, c2, rfl, _⟩ := h2
    have hlu : us.length + 1 ≤ 1000 := by simpa using hl
    refine Or.inr ⟨_, rfl, fun W => ?_⟩
    have := vertices_more Y us.length A1 A2 v.1.length v.2.length c1 c2 W (by omega) (ih (by omega))
    simpa using this
end Go.Proofs.Ytnccpifdajcejaa
