/- The laws' own helpers that mark a list of integers and ask whether it still holds its marks. No condition but sizes. -/
import Derived.Test.YtmadagkdgpohiaaLawA
namespace Go.Proofs.Ytmadagkdgpohiaa
open Go.RowKit

/-- the numbers from k on, n of them -/
def countFrom (k : Int) (n : Nat) : List Int := (List.range n).map fun (i : Nat) => k + (i : Int)
theorem countFrom_len (k : Int) (n : Nat) : (countFrom k n).length = n := by simp [countFrom]
theorem countFrom_get (k : Int) (n i : Nat) (h : i < n) : (countFrom k n)[i]? = some (k + (i : Int)) := by
  simp [countFrom, h]

theorem mark_step {xs : List Int} {k : Int} {j : Nat} (h : j < xs.length) :
    ((countFrom k j ++ xs.drop j).map (Value.int .i64)).set j (.int .i64 (k + (j : Int))) = (countFrom k (j + 1) ++ xs.drop (j + 1)).map (Value.int .i64) := by
  rw [← List.map_set]
  congr 1
  rw [List.set_append_right _ _ (by rw [countFrom_len]; exact Nat.le_refl _), countFrom_len, Nat.sub_self, List.drop_eq_getElem_cons h, List.set_cons_zero]
  simp [countFrom, List.range_succ]

set_option maxHeartbeats 1000000 in
theorem laws_markIntS (B : Nat) (v : Value) (k : Int) (xs : List Int) (w : World) (h : Own w B v xs) (hl : xs.length ≤ 1048576) (hk0 : 0 ≤ k) (hk1 : k ≤ 1000000000000000) :
    Calls Try.prog 23 #[v, .int .i64 k] w fun e w' => e = .returned (.int .i64 (k + (xs.length : Int))) ∧ Own w' B v (countFrom k xs.length) ∧ w.grownBy w' v.ownBlock := by
  obtain ⟨A, c, rfl, _, _, _⟩ := h.form
  have hown0 : w.ownsRow B 3 1 (.slice A xs.length c) xs.length ((countFrom k 0 ++ xs.drop 0).map (Value.int .i64)) := by simpa [countFrom] using h
  go_enter Try.func23, Try.ntmps23
  go_wp2_with fail
  go_loopg [1, 5] (xs.length + 1) (fun g s1 s5 wr => ∃ j, j ≤ xs.length ∧ s5 = .int .i64 j ∧ s1 = .int .i64 (k + (j : Int)) ∧ xs.length - j < g ∧ w.grownBy wr (Value.slice A xs.length c).ownBlock ∧
    wr.ownsRow B 3 1 (.slice A xs.length c) xs.length ((countFrom k j ++ xs.drop j).map (Value.int .i64)))
  case atStart => exact ⟨0, Nat.zero_le _, rfl, by simp, by omega, World.grownBy.refl w _, hown0⟩
  case round =>
    obtain ⟨j, hj, rfl, rfl, hg, hgr, hown⟩ := hrel
    cases gk with
    | zero => omega
    | succ g =>
    by_cases hlt : j < xs.length
    · obtain ⟨gb, cp, e, _, _⟩ := World.ownsRow.form hown (by omega)
      injection e with e1 _ e3
      subst e1 e3
      have c1 := hown.cellAt j (by omega)
      rw [List.getElem?_eq_getElem (by simp [countFrom_len]; omega)] at c1
      have c2 := hown.frozenAt j
      have st := hown.stored j (.int .i64 (k + (j : Int)))
      rw [mark_step hlt] at st
      have ST := Lib.hid st
      clear st hown hown0 h
      go_wp2_with fail
      go_roundg g
      case measure => omega
      case rel => exact ⟨j + 1, by omega, by go_num, by congr 1; omega, by omega, hgr.trans ST.out.2, ST.out.1⟩
    · obtain rfl : j = xs.length := by omega
      go_wp2_with fail
      go_ret
      exact ⟨rfl, by simpa [Own, countFrom_len] using hown, hgr⟩
set_option maxHeartbeats 1000000 in
theorem laws_heldIntS (A : Option Addr) (cap : Nat) (k : Int) (n : Nat) (w : World) (h : Ints w A (countFrom k n)) (hl : n ≤ 1048576) (hk0 : 0 ≤ k) (hk1 : k ≤ 1000000000000000) :
    Calls Try.prog 24 #[.slice A n cap, .int .i64 k] w fun e w' => e = .returned (.int .i64 (k + (n : Int))) ∧ w = w' := by
  go_enter Try.func24, Try.ntmps24
  go_wp2_with fail
  go_loop [1, 5] (fun s1 s5 => ∃ j : Nat, j ≤ n ∧ s5 = .int .i64 j ∧ s1 = .int .i64 (k + (j : Int))) (fun _ s5 => n - (intOf s5).toNat)
  case atStart => exact ⟨0, Nat.zero_le _, rfl, by simp⟩
  case round =>
    obtain ⟨j, hj, rfl, rfl⟩ := hrel
    by_cases hlt : j < n
    · obtain ⟨b, off, e, hb, hc⟩ := h (by intro e; have := countFrom_len k n; rw [e] at this; simp at this; omega)
      subst e
      have c1 := hc j _ (countFrom_get k n j hlt)
      have d1 : ((k + (j : Int)) != (k + (j : Int))) = false := by simp
      clear hc
      go_wp2_with fail
      go_round
      case rel => exact ⟨j + 1, by omega, by go_num, by congr 1; omega⟩
      case measure => simp [intOf]; omega
    · obtain rfl : j = n := by omega
      go_wp2_with fail
      go_ret
      exact ⟨rfl, rfl⟩
end Go.Proofs.Ytmadagkdgpohiaa
