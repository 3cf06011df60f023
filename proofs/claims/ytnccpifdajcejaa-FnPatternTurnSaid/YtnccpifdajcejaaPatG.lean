/- countVertices with the program's VertexFolds; PatternFolds. No condition but sizes. -/
import Derived.Test.YtnccpifdajcejaaPatF
import Derived.Test.YtnccpifdajcejaaImplB
import Derived.Handy
namespace Go.Proofs.Ytnccpifdajcejaa
open Go.RowKit

/-- of how many vertices a test holds -/
def cntX (t : Vx → Bool) (vs : List Vx) : Nat := (vs.filter t).length
theorem cntX_one (t : Vx → Bool) (v : Vx) : cntX t [v] = if t v then 1 else 0 := by
  unfold cntX
  cases h : t v with
  | false => rw [List.filter_cons_of_neg (by simp [h])]; rfl
  | true => rw [List.filter_cons_of_pos h]; rfl
theorem cntX_snoc (t : Vx → Bool) (us : List Vx) (v : Vx) : cntX t (us ++ [v]) = cntX t us + cntX t [v] := by simp [cntX]
theorem cntX_le (t : Vx → Bool) (vs : List Vx) : cntX t vs ≤ vs.length := List.length_filter_le _ _
/-- a vertex whose creases have folds in a text -/
def VOk (s : ByteArray) (v : Vx) : Prop := v.1.length ≤ 100 ∧ v.2.length ≤ 100 ∧ ∀ c ∈ v.2, 0 ≤ c ∧ c < s.size
def vfT (s : ByteArray) (v : Vx) : Bool := vfB v.1 (picked s v.2)
theorem picked_size (s : ByteArray) (cs : List Int) : (picked s cs).size = cs.length := by
  unfold picked
  show (pickL s cs).toArray.size = _
  rw [List.size_toArray, pickL_len]

theorem run_assert_yes {P : Program} (t xT : TypeId) (u : TypeDesc) (hu : P.underlying t = some u) (hne : ∀ m, u ≠ .interface m) (v : Value) (w : World) : (Instr.typeAssert (.iface t v) xT t true).run P w = .ok (.tuple #[v, .bool true]) w := by
  cases u <;> first | (exact absurd rfl (hne _)) | simp [Instr.typeAssert, run_underlying hu]
theorem run_assert_no {P : Program} (t t' xT : TypeId) (u : TypeDesc) (hu : P.underlying t = some u) (hne : ∀ m, u ≠ .interface m) (ht : t' ≠ t) (z : Value) (i : TypeInfo) (hi : P.info? t = some i) (hz : i.zero = some z) (v : Value) (w : World) : (Instr.typeAssert (.iface t' v) xT t true).run P w = .ok (.tuple #[z, .bool false]) w := by
  cases u <;> first | (exact absurd rfl (hne _)) | simp [Instr.typeAssert, run_underlying hu, ht, zeroValue, typeInfo, hi, hz]

set_option maxHeartbeats 2000000 in
theorem countF_one (s : ByteArray) (v : Vx) (U V : Value) (w : World) (h1 : IntsV w U v.1) (h2 : IntsV w V v.2) (hs : s.size ≤ 1000) (hv : VOk s v) :
    Calls Try.prog 63 #[.iface 83 (.agg #[U, V]), .string s, .func (.func 43) #[] #[]] w fun e w' => e = .returned (.int .i64 (cntX (vfT s) [v] : Nat)) ∧ Below w.heap.size w w' := by
  obtain ⟨A1, c1, rfl, i1, l1, m1⟩ := h1
  obtain ⟨A2, c2, rfl, i2, l2, m2⟩ := h2
  obtain ⟨n1, n2, hx⟩ := hv
  obtain ⟨w2, hw2⟩ : ∃ w2, w2 = w.alloc (.cells #[.slice A1 v.1.length c1, .slice A2 v.2.length c2] 83) := ⟨_, rfl⟩
  have b2 : Below w.heap.size w w2 := by rw [hw2]; exact (Below.refl _ _).alloc (Nat.le_refl _) _
  have K2 : Blk w2 w.heap.size 83 #[.slice A1 v.1.length c1, .slice A2 v.2.length c2] := by rw [hw2]; exact Blk.new w _ _
  have a0 := K2.cell 0
  have a1 := K2.cell 1
  have HW := Lib.hid hw2
  have I1 := Lib.hid (i1.below b2)
  have I2 := Lib.hid (i2.below b2)
  obtain ⟨q, hq⟩ : ∃ q, q = picked s v.2 := ⟨_, rfl⟩
  obtain ⟨b, hb⟩ : ∃ b, b = vfT s v := ⟨_, rfl⟩
  have hc1 : ∀ W : World, Below w2.heap.size w2 W → Calls Try.prog 79 #[.slice A2 v.2.length c2, .string s] W fun e w' => e = .returned (.string q) ∧ Below W.heap.size W w' := fun W hW => by
    rw [hq]; exact impl_foldsOfCreases A2 c2 v.2 s W ((i2.below b2).below hW) (by omega) hx hs
  have hc2 : ∀ W : World, Below w2.heap.size w2 W → Calls Try.prog 43 #[.slice A1 v.1.length c1, .string q] W fun e w' => e = .returned (.bool b) ∧ Below W.heap.size W w' := fun W hW => by
    rw [hb, hq]; exact impl_VertexFolds A1 c1 v.1 (picked s v.2) W ((i1.below b2).below hW) (by unfold maxLen; omega) (by rw [picked_size]; unfold maxLen; omega)
  have HC1 := Lib.hid hc1
  have HC2 := Lib.hid hc2
  have HQ := Lib.hid hb
  clear hw2 i1 i2 hx hq hb hc1 hc2 I1 I2
  have as1 : ∀ v W, (Instr.typeAssert (.iface 83 v) 66 83 true).run Try.prog W = .ok (.tuple #[v, .bool true]) W := fun v W => run_assert_yes _ _ _ Try.underlying83 (by intro m h; cases h) v W
  go_enter Try.func63, Try.ntmps63
  go_wp2_with fail
  rw [← HW.out]
  go_region_held3 (fun W => W.cell? ⟨w.heap.size, 0, none⟩ = some (.slice A1 v.1.length c1) ∧ W.cell? ⟨w.heap.size, 1, none⟩ = some (.slice A2 v.2.length c2)) (first | exact ⟨a0, a1⟩ | exact ⟨(hby.cell (p := ⟨w.heap.size, 0, none⟩) (Nat.lt_of_lt_of_le K2.lt hbx.size)).trans ((hbx.cell (p := ⟨w.heap.size, 0, none⟩) K2.lt).trans a0), (hby.cell (p := ⟨w.heap.size, 1, none⟩) (Nat.lt_of_lt_of_le K2.lt hbx.size)).trans ((hbx.cell (p := ⟨w.heap.size, 1, none⟩) K2.lt).trans a1)⟩ | exact ⟨(hbx.cell (p := ⟨w.heap.size, 0, none⟩) K2.lt).trans a0, (hbx.cell (p := ⟨w.heap.size, 1, none⟩) K2.lt).trans a1⟩)
    (first
      | (go_simp; go_at_call 79; refine (HC1.out _ (below_drewN (Below.refl _ _) _)).mono ?_; rintro e w3 ⟨rfl, hbx⟩)
      | (go_simp; go_at_call 43; refine (HC2.out _ (below_from (below_drewN (Below.refl _ _) _) hbx (Nat.le_refl _))).mono ?_; rintro e w4 ⟨rfl, hby⟩))
  all_goals
    have b4 : Below w.heap.size w w4 := b2.trans ((below_from (⟨hbx.os, hbx.tape, hbx.output, hbx.size, hbx.block⟩ : Below w2.heap.size w2 w3) hby hbx.size).mono b2.size)
    cases b with
    | false =>
      go_wp2_with fail
      go_ret
      exact ⟨ret_int (by rw [cntX_one, ← HQ.out]; rfl), b4⟩
    | true =>
      go_wp2_with fail
      go_ret
      exact ⟨ret_int (by rw [cntX_one, ← HQ.out]; rfl), b4⟩
theorem Try.infoSv : (Try.prog.info? 83).map (fun i => (i.zero, i.size, i.bytes)) = some (some (.agg #[.slice none 0 0, .slice none 0 0]), 2, 48) := by kernel_rfl
set_option maxHeartbeats 2000000 in
theorem countF_any (s : ByteArray) (vs : List Vx) (X : Value) (w : World) (h : PatV w vs X) (hs : s.size ≤ 1000) (hv : ∀ v ∈ vs, VOk s v) (hl : vs.length ≤ 1000) :
    ∀ W : World, Below w.heap.size w W → Calls Try.prog 63 #[X, .string s, .func (.func 43) #[] #[]] W fun e w' => e = .returned (.int .i64 (cntX (vfT s) vs : Nat)) ∧ Below W.heap.size W w' := by
  induction h with
  | one v U V h1 h2 => exact fun W hW => countF_one s v U V W (h1.below hW) (h2.below hW) hs (hv v (by simp))
  | more us v Y U V hne hY h1 h2 ih =>
    intro W hW
    obtain ⟨tY, Z, hYe⟩ := hY.form
    have hlu : us.length + 1 ≤ 1000 := by simpa using hl
    have ihu := ih (fun u hu => hv u (by simp [hu])) (by omega)
    obtain ⟨i0, hi, hz0, hz1, hz2⟩ := info_parts Try.infoSv
    obtain ⟨a, ha⟩ : ∃ a, a = cntX (vfT s) us := ⟨_, rfl⟩
    obtain ⟨b, hb⟩ : ∃ b, b = cntX (vfT s) [v] := ⟨_, rfl⟩
    have ha1 : a ≤ 1000 := by rw [ha]; exact Nat.le_trans (cntX_le _ _) (by omega)
    have hb1 : b ≤ 1 := by rw [hb]; exact cntX_le _ _
    have hsum : cntX (vfT s) (us ++ [v]) = a + b := by rw [cntX_snoc, ha, hb]
    have kw : IntKind.i64.wrap ((a : Int) + (b : Int)) = (a : Int) + (b : Int) := IntWalk.i64_in _ (by omega)
    rw [← ha] at ihu
    have as1 : ∀ v W, (Instr.typeAssert (.iface 85 v) 66 83 true).run Try.prog W = .ok (.tuple #[.agg #[.slice none 0 0, .slice none 0 0], .bool false]) W := fun v W => run_assert_no _ _ _ _ Try.underlying83 (by intro m h; cases h) (by decide) _ i0 hi hz0 v W
    have as2 : ∀ v W, (Instr.typeAssert (.iface 85 v) 66 85 true).run Try.prog W = .ok (.tuple #[v, .bool true]) W := fun v W => run_assert_yes _ _ _ Try.underlying85 (by intro m h; cases h) v W
    obtain ⟨A1, c1, rfl, i1, l1, m1⟩ := h1
    obtain ⟨A2, c2, rfl, i2, l2, m2⟩ := h2
    have hvv := hv v (by simp)
    obtain ⟨W2, hW2⟩ : ∃ W2, W2 = W.alloc (.cells #[.iface tY Z, .slice A1 v.1.length c1, .slice A2 v.2.length c2] 85) := ⟨_, rfl⟩
    have b2 : Below W.heap.size W W2 := by rw [hW2]; exact (Below.refl _ _).alloc (Nat.le_refl _) _
    have bb2 : Below w.heap.size w W2 := hW.trans (b2.mono hW.size)
    have K2 : Blk W2 W.heap.size 85 #[.iface tY Z, .slice A1 v.1.length c1, .slice A2 v.2.length c2] := by rw [hW2]; exact Blk.new W _ _
    have a0 := K2.cell 0
    have a1 := K2.cell 1
    have a2 := K2.cell 2
    have HW := Lib.hid hW2
    have hc1 : ∀ Q : World, Below w.heap.size w Q → Calls Try.prog 63 #[.iface tY Z, .string s, .func (.func 43) #[] #[]] Q fun e w' => e = .returned (.int .i64 (a : Int)) ∧ Below Q.heap.size Q w' := fun Q hQ => by rw [← hYe]; exact ihu Q hQ
    have hc2 : ∀ Q : World, Below w.heap.size w Q → Calls Try.prog 63 #[.iface 83 (.agg #[.slice A1 v.1.length c1, .slice A2 v.2.length c2]), .string s, .func (.func 43) #[] #[]] Q fun e w' => e = .returned (.int .i64 (b : Int)) ∧ Below Q.heap.size Q w' := fun Q hQ => by
      rw [hb]; exact countF_one s v _ _ Q ⟨A1, c1, rfl, i1.below hQ, l1, m1⟩ ⟨A2, c2, rfl, i2.below hQ, l2, m2⟩ hs hvv
    have HC1 := Lib.hid hc1
    have HC2 := Lib.hid hc2
    have HS := Lib.hid hsum
    have HBB := Lib.hid bb2
    subst hYe
    clear hW2 i1 i2 hc1 hc2 ha hb hsum ihu ih hv hvv hi hz0 hz1 hz2 hY hne hl hlu hW bb2
    go_enter Try.func63, Try.ntmps63
    go_wp2_with fail
    rw [← HW.out]
    go_region_held3 (fun Q => Q.cell? ⟨W.heap.size, 0, none⟩ = some (.iface tY Z) ∧ Q.cell? ⟨W.heap.size, 1, none⟩ = some (.slice A1 v.1.length c1) ∧ Q.cell? ⟨W.heap.size, 2, none⟩ = some (.slice A2 v.2.length c2))
      (first
        | exact ⟨a0, a1, a2⟩
        | exact ⟨(hby.cell (p := ⟨W.heap.size, 0, none⟩) (Nat.lt_of_lt_of_le K2.lt hbx.size)).trans ((hbx.cell (p := ⟨W.heap.size, 0, none⟩) K2.lt).trans a0), (hby.cell (p := ⟨W.heap.size, 1, none⟩) (Nat.lt_of_lt_of_le K2.lt hbx.size)).trans ((hbx.cell (p := ⟨W.heap.size, 1, none⟩) K2.lt).trans a1), (hby.cell (p := ⟨W.heap.size, 2, none⟩) (Nat.lt_of_lt_of_le K2.lt hbx.size)).trans ((hbx.cell (p := ⟨W.heap.size, 2, none⟩) K2.lt).trans a2)⟩
        | exact ⟨(hbx.cell (p := ⟨W.heap.size, 0, none⟩) K2.lt).trans a0, (hbx.cell (p := ⟨W.heap.size, 1, none⟩) K2.lt).trans a1, (hbx.cell (p := ⟨W.heap.size, 2, none⟩) K2.lt).trans a2⟩)
      (first
        | (have _hz := hbx.size; go_simp; go_at_call 63; refine (HC2.out _ (below_from HBB.out (⟨hbx.os, hbx.tape, hbx.output, hbx.size, hbx.block⟩ : Below W2.heap.size W2 w3) HBB.out.size)).mono ?_; rintro e w4 ⟨rfl, hby⟩)
        | (go_simp; go_at_call 63; refine (HC1.out _ (below_drewN HBB.out _)).mono ?_; rintro e w3 ⟨rfl, hbx⟩))
    all_goals
      have b4 : Below W.heap.size W w4 := b2.trans ((below_from (⟨hbx.os, hbx.tape, hbx.output, hbx.size, hbx.block⟩ : Below W2.heap.size W2 w3) hby hbx.size).mono b2.size)
      go_wp2_with fail
      go_ret
      exact ⟨ret_int (by rw [HS.out]; omega), b4⟩
end Go.Proofs.Ytnccpifdajcejaa
