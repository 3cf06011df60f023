/- The program's words of so many folds: the closures that fold, all words, sorted. No condition but sizes. -/
import Derived.Test.YtnckbiacfnokiaaZordB
namespace Go.Proofs.Ytnckbiacfnokiaa
open Go.RowKit

set_option maxHeartbeats 1000000 in
theorem impl_folding (s : ByteArray) (m : UInt8) (g : Nat) (w : World) (hs : s.size ≤ 100) (hg : w.cell? ⟨g, 0, none⟩ = some (.string (bts [m]))) (hgl : g < w.heap.size) :
    Calls Try.prog 40 #[.string s, .pointer (some ⟨g, 0, none⟩)] w fun e w' => e = .returned (.string (bts (s.data.toList ++ m :: othL s.data.toList))) ∧ Below w.heap.size w w' := by
  have ho : (othL s.data.toList).length = s.size := by rw [othL_len, size_list]
  obtain ⟨t, ht⟩ : ∃ t, t = bts (othL s.data.toList) := ⟨_, rfl⟩
  have hts : t.size = s.size := by rw [ht]; show (List.toArray _).size = _; simp [ho]
  have a1 : ∀ W, (Op.stringOp .add s (bts [m])).run Try.prog W = .ok (.string (s ++ bts [m])) W := fun W => run_string_add_sum W _ _ (by show s.size + 1 ≤ _; omega)
  have hs1 : (s ++ bts [m]).size = s.size + 1 := by rw [ByteArray.size_append]; rfl
  have a2 : ∀ W, (Op.stringOp .add (s ++ bts [m]) t).run Try.prog W = .ok (.string (s ++ bts [m] ++ t)) W := fun W => run_string_add_sum W _ _ (by rw [hs1, hts]; omega)
  have hr : s ++ bts [m] ++ t = bts (s.data.toList ++ m :: othL s.data.toList) := by
    rw [ht]
    have e : s = bts s.data.toList := rfl
    rw [e]
    show bts _ ++ bts _ ++ bts _ = _
    rw [ByteArray.mk_append_mk, ByteArray.mk_append_mk]
    congr 1
    simp
  have HT := Lib.hid ht
  have HR := Lib.hid hr
  clear ho ht hts hs1 hr
  go_enter Try.func40, Try.ntmps40
  go_wp2_with fail
  go_region_held3 (fun W => W.cell? ⟨g, 0, none⟩ = some (.string (bts [m])))
    (first | exact hg | exact (hbx.cell (p := ⟨g, 0, none⟩) (by simpa using hgl)).trans hg)
    ((go_simp; go_at_call 24; refine (impl_otherSide s _ (by omega)).mono ?_; rw [← HT.out]; rintro e w1 ⟨rfl, hbx⟩))
  all_goals
    go_wp2_with fail
    go_ret
    exact ⟨by rw [HR.out]; rfl, below_from (below_drewN (Below.refl _ _) 1) hbx (Nat.le_refl _)⟩
/-- what a function that folds is -/
def FoldV (w : World) (m : UInt8) (v : Value) (g : Nat) : Prop := v = .func (.func 40) #[] #[.pointer (some ⟨g, 0, none⟩)] ∧ g < w.heap.size ∧ w.cell? ⟨g, 0, none⟩ = some (.string (bts [m]))
set_option maxHeartbeats 400000 in
theorem impl_ahead (m : UInt8) (w : World) :
    Calls Try.prog 39 #[.string (bts [m])] w fun e w' => (∃ v g, e = .returned v ∧ FoldV w' m v g) ∧ Below w.heap.size w w' := by
  go_enter Try.func39, Try.ntmps39
  go_wp2_with fail
  go_ret
  exact ⟨⟨_, w.heap.size, rfl, rfl, by simp, by simp⟩, (Below.refl _ _).alloc (Nat.le_refl _) _⟩
set_option maxHeartbeats 400000 in
theorem impl_foldR (w : World) :
    Calls Try.prog 20 #[.int .u8 82] w fun e w' => (∃ v g, e = .returned v ∧ FoldV w' 86 v g) ∧ Below w.heap.size w w' := by
  go_enter Try.func20, Try.ntmps20
  go_wp2_with fail
  refine (impl_ahead 86 w).mono ?_
  rintro e w1 ⟨⟨v, g, rfl, hv⟩, hb⟩
  go_wp2_with fail
  go_ret
  exact ⟨⟨_, g, rfl, hv⟩, hb⟩
set_option maxHeartbeats 400000 in
theorem impl_foldr (w : World) :
    Calls Try.prog 20 #[.int .u8 114] w fun e w' => (∃ v g, e = .returned v ∧ FoldV w' 77 v g) ∧ Below w.heap.size w w' := by
  go_enter Try.func20, Try.ntmps20
  go_wp2_with fail
  refine (impl_ahead 77 w).mono ?_
  rintro e w1 ⟨⟨v, g, rfl, hv⟩, hb⟩
  go_wp2_with fail
  go_ret
  exact ⟨⟨_, g, rfl, hv⟩, hb⟩
end Go.Proofs.Ytnckbiacfnokiaa
