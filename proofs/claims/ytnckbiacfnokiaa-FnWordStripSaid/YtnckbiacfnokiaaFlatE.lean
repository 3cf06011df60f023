/- Parts laid flat: whether a place is inside a part, whether two folds cross. No condition but sizes. -/
import Derived.Test.YtnckbiacfnokiaaFlatD
namespace Go.Proofs.Ytnckbiacfnokiaa
open Go.RowKit

/-- is a place inside of a part -/
def insB (ps : List Int) (p : Int) (k : Nat) : Bool := betB p (ps.getD k 0) (ps.getD (k + 1) 0)
/-- do two folds cross -/
def crossB (lv : List Int) (f g : Fd) : Bool := (f.2.2.1 == g.2.2.1) && (f.2.1 % 2 == g.2.1 % 2) && (betB (lv.getD g.1 0) (lv.getD f.1 0) (lv.getD f.2.1 0) != betB (lv.getD g.2.1 0) (lv.getD f.1 0) (lv.getD f.2.1 0))
theorem getD_of {xs : List Int} {k : Nat} (h : k < xs.length) : xs[k]? = some (xs.getD k 0) := by
  rw [List.getD_eq_getElem?_getD, List.getElem?_eq_getElem h]; rfl
set_option maxHeartbeats 1000000 in
set_option maxRecDepth 100000 in
theorem impl_inside (r B n k : Nat) (p : Int) (ps : List Int) (fs : List Fd) (w : World) (h : Flat w r B n ps fs) (hk : k + 1 < ps.length) (hl : ps.length ≤ 1000) :
    Calls Try.prog 70 #[ptr r, .int .i64 p, .int .i64 k] w fun e w' => e = .returned (.bool (insB ps p k)) ∧ ∃ m, w.drewN m = w' := by
  obtain ⟨Ap, cp, Vf, h1, h2, h3, h4⟩ := h
  have c1 : w.cell? ⟨r, 1, none⟩ = some (.slice Ap ps.length cp) := h1.cell 1
  obtain ⟨bp, op, rfl, hbp, hcp⟩ := (show Ints w Ap ps from by obtain ⟨_, _, e, hI, _, _⟩ := h2.form; cases e; exact hI) (by intro e; rw [e] at hk; simp at hk)
  have r1 := hcp k _ (getD_of (by omega))
  have r2 : w.cell? ⟨bp, op + (k + 1), none⟩ = _ := hcp (k + 1) _ (getD_of (by omega))
  obtain ⟨x, hx⟩ : ∃ x, x = ps.getD k 0 := ⟨_, rfl⟩
  obtain ⟨y, hy⟩ : ∃ y, y = ps.getD (k + 1) 0 := ⟨_, rfl⟩
  have HI : Hid (insB ps p k = betB p x y) := by show _ = _; unfold insB; rw [hx, hy]
  rw [← hx] at r1
  rw [← hy] at r2
  have k1 : (k : Int) < (ps.length : Int) := by omega
  have k2 : ((k + 1 : Nat) : Int) < (ps.length : Int) := by omega
  have k3 : (k : Int) + 1 < (ps.length : Int) := by omega
  have k4 : IntKind.i64.wrap ((k : Int) + 1) = (k : Int) + 1 := IntWalk.i64_in _ (by omega)
  have k5 : ((k : Int) + 1).toNat = k + 1 := by omega
  have k6 : (0 : Int) ≤ (k : Int) := by omega
  have k7 : (0 : Int) ≤ (k : Int) + 1 := by omega
  have HB := Lib.hid (fun W => impl_isBetween p x y W)
  clear h1 h2 h3 hcp hx hy
  go_enter Try.func70, Try.ntmps70
  go_wp2_with fail
  go_quiet ((go_at_call 69; exact quietl (HB.out _)))
  go_wp2_with fail
  go_ret
  exact ⟨ret_bool (by rw [HI.out]), _, rfl⟩
def fdA (f : Fd) : Value := .agg #[.int .i64 f.1, .int .i64 f.2.1, .int .i64 f.2.2.1, .bool f.2.2.2]
set_option maxHeartbeats 1000000 in
set_option maxRecDepth 100000 in
theorem impl_crossed (A : Option Addr) (cap a b a' b' : Nat) (p p' : Int) (z z' : Bool) (lv : List Int) (w : World) (h : Ints w A lv) (ha : a < lv.length) (hb : b < lv.length) (ha' : a' < lv.length) (hb' : b' < lv.length) (hl : lv.length ≤ 1000) :
    Calls Try.prog 71 #[.agg #[.int .i64 a, .int .i64 b, .int .i64 p, .bool z], .agg #[.int .i64 a', .int .i64 b', .int .i64 p', .bool z'], .slice A lv.length cap] w fun e w' => e = .returned (.bool (crossB lv (a, b, p, z) (a', b', p', z'))) ∧ Below w.heap.size w w' := by
  obtain ⟨m1, m1'⟩ := mod2z b
  obtain ⟨m2, m2'⟩ := mod2z b'
  by_cases e1 : p = p'
  · subst e1
    have d1 : (p != p) = false := by simp
    by_cases e2 : b % 2 = b' % 2
    · obtain ⟨q, hq⟩ : ∃ q, q = b' % 2 := ⟨_, rfl⟩
      rw [e2, ← hq] at m1 m1'
      rw [← hq] at m2 m2'
      have d2 : ((q : Int) != (q : Int)) = false := by simp
      obtain ⟨c, off, rfl, hc, hcell⟩ := h (by intro e; rw [e] at ha; simp at ha)
      have hW : ∀ W : World, Below w.heap.size w W → ∀ k, k < lv.length → W.cell? ⟨c, off + k, none⟩ = some (.int .i64 (lv.getD k 0)) := fun W hbW k hk => (hbW.cell (p := ⟨c, off + k, none⟩) hc).trans (hcell k _ (getD_of hk))
      obtain ⟨v1, hv1⟩ : ∃ v, v = lv.getD a 0 := ⟨_, rfl⟩
      obtain ⟨v2, hv2⟩ : ∃ v, v = lv.getD b 0 := ⟨_, rfl⟩
      obtain ⟨v3, hv3⟩ : ∃ v, v = lv.getD a' 0 := ⟨_, rfl⟩
      obtain ⟨v4, hv4⟩ : ∃ v, v = lv.getD b' 0 := ⟨_, rfl⟩
      have HR : Hid (crossB lv (a, b, p, z) (a', b', p, z') = (betB v3 v1 v2 != betB v4 v1 v2)) := by
        show _ = _
        unfold crossB
        rw [hv1, hv2, hv3, hv4]
        simp [e2]
      have hb2 : Below w.heap.size w ((w.alloc (.cells #[.int .i64 a, .int .i64 b, .int .i64 p, .bool z] 78)).alloc (.cells #[.int .i64 a', .int .i64 b', .int .i64 p, .bool z'] 78)) := ((Below.refl _ _).alloc (Nat.le_refl _) _).alloc (by simp) _
      have r1 := hW _ hb2 a ha
      have r2 := hW _ hb2 b hb
      have r3 := hW _ hb2 a' ha'
      have r4 := hW _ hb2 b' hb'
      rw [← hv1] at r1
      rw [← hv2] at r2
      rw [← hv3] at r3
      rw [← hv4] at r4
      have n1 : (a : Int) < (lv.length : Int) := by omega
      have n2 : (b : Int) < (lv.length : Int) := by omega
      have n3 : (a' : Int) < (lv.length : Int) := by omega
      have n4 : (b' : Int) < (lv.length : Int) := by omega
      have HB := Lib.hid hb2
      have HT := Lib.hid (fun l W => impl_isBetween l v1 v2 W)
      clear hW hv1 hv2 hv3 hv4 hcell hb2 e2 hq
      go_enter Try.func71, Try.ntmps71
      go_wp2_with fail
      go_quiet (fail)
      go_wp2_with fail
      go_quiet ((go_at_call 69; exact (HT.out _ _).mono fun _ _ hh => ⟨hh.1, _, hh.2.symm⟩))
      go_wp2_with fail
      go_ret
      exact ⟨ret_bool (by rw [HR.out]; cases betB v3 v1 v2 <;> cases betB v4 v1 v2 <;> rfl), below_drewN (below_drewN HB.out _) _⟩
    · obtain ⟨q1, hq1⟩ : ∃ q, q = b % 2 := ⟨_, rfl⟩
      obtain ⟨q2, hq2⟩ : ∃ q, q = b' % 2 := ⟨_, rfl⟩
      have d2 : ((q1 : Int) != (q2 : Int)) = true := by rw [bne_iff_ne]; omega
      rw [← hq1] at m1 m1'
      rw [← hq2] at m2 m2'
      have HR : Hid (crossB lv (a, b, p, z) (a', b', p, z') = false) := by
        show _ = _
        unfold crossB
        simp [e2]
      clear e2 hq1 hq2
      go_enter Try.func71, Try.ntmps71
      go_wp2_with fail
      go_ret
      exact ⟨ret_bool (by rw [HR.out]), ((Below.refl _ _).alloc (Nat.le_refl _) _).alloc (by simp) _⟩
  · have d1 : (p != p') = true := by rw [bne_iff_ne]; exact e1
    have HR : Hid (crossB lv (a, b, p, z) (a', b', p', z') = false) := by
      show _ = _
      unfold crossB
      rw [show (p == p') = false from by rw [beq_eq_false_iff_ne]; exact e1]; rfl
    clear e1
    go_enter Try.func71, Try.ntmps71
    go_wp2_with fail
    go_ret
    exact ⟨ret_bool (by rw [HR.out]), ((Below.refl _ _).alloc (Nat.le_refl _) _).alloc (by simp) _⟩
end Go.Proofs.Ytnckbiacfnokiaa
