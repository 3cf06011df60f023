/- A line answered: the deferred closure of 'answer'. No condition but sizes. -/
import Derived.Test.YtmohfibgefcefaaGreatDoorExeA
import Derived.Defers
import Derived.Recover
namespace Go.Proofs.YtmohfibgefcefaaGreatDoor
open Go.RowKit Go.Extern.Stop Go.Stop Go.Extern

theorem grown_setE (w : World) (g i : Nat) (v : Value) : w.grownBy (w.setCell ⟨g, i, none⟩ v) (some g) :=
  ⟨rfl, rfl, rfl, by simp, fun n hn hne => heap_setCell_other w ⟨g, i, none⟩ n v (by intro e; apply hne; exact congrArg some e)⟩
set_option maxRecDepth 100000 in
set_option maxHeartbeats 2000000 in
/-- the deferred closure behind a line that was done: recover finds nothing, and nothing turns -/
theorem answer_idle (p : Addr) (w : World) :
    CallsD Tryz.prog 77 #[.pointer (some p)] .returning w fun e u' w' => e = .returned (.tuple #[]) ∧ u' = .returning ∧ Below w.heap.size w w' := by
  have hta : ∀ W : World, (Instr.typeAssert .nilIface 20 107 true).run Tryz.prog W = .ok (.tuple #[.agg #[.string ⟨#[]⟩], .bool false]) W := fun _ => by kernel_rfl
  refine callsD_of_wpS Tryz.func77 rfl fun c₀ cs hu => ?_
  apply wpS_seq
  apply wpS_region
  simp [wpOpsS, go_sem, recoverD, hu, hta, Tryz.ntmps77, Exit.thenS]
  apply wpS_seq
  apply wpS_region
  simp [wpOpsS, go_sem, Exit.thenS]
  refine wpS_cond (t := false) (by simp [Act.eval, Array.replicate]) ?_
  simp only [Bool.false_eq_true, if_false]
  refine wpS_of_wp (wp_skip ?_)
  cases c₀
  simp_all [bodyPostS, results, Tryz.results77]
  exact (Below.refl _ _).alloc (Nat.le_refl _) _
set_option maxRecDepth 100000 in
set_option maxHeartbeats 2000000 in
theorem impl_answer (td : Nat) (L out : ByteArray) (w : World) (HD : ∀ W : World, Below w.heap.size w W → Calls Tryz.prog 78 #[.pointer (some ⟨td, 0, none⟩), .string L] W fun e w' => e = .returned (.string out) ∧ Below W.heap.size W w') :
    Calls Tryz.prog 37 #[.pointer (some ⟨td, 0, none⟩), .string L] w fun e w' => e = .returned (.string out) ∧ Below w.heap.size w w' := by
  have hmf : ∀ (fn : Fn) (first cap : Array Value) (w : World), (Instr.makeFunc fn first cap).run Tryz.prog w = .ok (.func fn first cap) w := fun _ _ _ _ => rfl
  have HDD := Lib.hid HD
  clear HD
  go_enter_defers Tryz.func37, Tryz.ntmps37
  go_wp2_with fail
  refine (HDD.out _ ((Below.refl _ _).alloc (Nat.le_refl _) _)).mono ?_
  rintro e w2 ⟨rfl, hb2⟩
  have hk := (Blk.new w 9 #[.string ⟨#[]⟩]).below hb2 (Blk.new w 9 #[.string ⟨#[]⟩]).lt
  have c0 : w2.cell? ⟨w.heap.size, 0, none⟩ = some (.string ⟨#[]⟩) := hk.cell 0
  have f0 := hk.frozen 0
  have HB2 : Hid (Below w.heap.size w w2) := ((Below.refl w.heap.size w).alloc (Nat.le_refl _) _).trans (hb2.mono (by simp))
  have HK := Lib.hid hk
  clear hb2 hk
  go_wp2_with fail
  have hk3 : Blk (w2.setCell ⟨w.heap.size, 0, none⟩ (.string out)) w.heap.size 9 #[.string out] := by simpa using HK.out.set_ 0 (.string out)
  refine leaves_cons (f := 77) (args := #[.pointer (some ⟨w.heap.size, 0, none⟩)]) (by simp) (by simp [go_sem]) ?_
  refine (answer_idle ⟨w.heap.size, 0, none⟩ _).mono ?_
  rintro e u' w'' ⟨rfl, rfl, hb⟩
  have c9 : w''.cell? ⟨w.heap.size, 0, none⟩ = some (.string out) := (hk3.below hb hk3.lt).cell 0
  have hfin : Below w.heap.size w w'' := (HB2.out.grown (grown_setE w2 w.heap.size 0 (.string out)) HB2.out.size (fun g e => by cases e; exact Nat.le_refl _)).trans (hb.mono (by simpa using HB2.out.size))
  simp [Leaves, settle, results, Tryz.results37, go_sem, c9]
  exact hfin
end Go.Proofs.YtmohfibgefcefaaGreatDoor
