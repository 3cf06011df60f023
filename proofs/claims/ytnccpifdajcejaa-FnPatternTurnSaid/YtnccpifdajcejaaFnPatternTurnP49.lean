/- The program's VertexCrimps and VertexCrimp. No condition but sizes. The reference's VertexCrimps and VertexCrimp: as the program's. No condition but sizes. countVertices with the program's test for a crimp; PatternCrimp, the program's and the reference's. No condition but sizes. A pattern's folds: all exchanged, one exchanged; vertices that can be crimped. No program, no condition. -/
import Derived.Test.YtnccpifdajcejaaImplB
import Derived.Test.YtnccpifdajcejaaImplC
import Derived.Test.YtnccpifdajcejaaSpecF
import Derived.Test.YtnccpifdajcejaaPatN
import Derived.Test.YtnccpifdajcejaaFnPatternTurnP48
namespace Go.Proofs.Ytnccpifdajcejaa
open Go.RowKit

/-- the allowed crimps of a vertex -/
def vcL (xs : List Int) (s : ByteArray) : List Int := if avB xs && fvB s.data.toList xs.length then crimpsTo xs.length (angleAt xs) (byteAt s) xs.length else []
def vcrX (xs : List Int) (i : Nat) : List Int := angTo (crimpX xs.length (angleAt xs) i) (xs.length - 2)
def vcrF (xs : List Int) (s : ByteArray) (i : Nat) : ByteArray := ⟨(folTo (fun k => byteAt s (sig xs.length i k)) (xs.length - 2)).toArray⟩
def vcB (xs : List Int) (s : ByteArray) (i : Int) : Bool := decide (i ∈ vcL xs s)
def vcY (xs : List Int) (s : ByteArray) (i : Int) : List Int := if vcB xs s i then vcrX xs i.toNat else []
def vcS (xs : List Int) (s : ByteArray) (i : Int) : ByteArray := if vcB xs s i then vcrF xs s i.toNat else ByteArray.empty

theorem vcL_mem {xs : List Int} {s : ByteArray} {i : Int} (h : i ∈ vcL xs s) : avB xs = true ∧ fvB s.data.toList xs.length = true ∧ 0 ≤ i ∧ i.toNat < xs.length ∧ 4 ≤ xs.length ∧ allowedB xs.length (angleAt xs) (byteAt s) i.toNat = true := by
  unfold vcL at h
  split at h
  · next hc =>
    rw [Bool.and_eq_true] at hc
    unfold crimpsTo at h
    rw [List.mem_map] at h
    obtain ⟨k, hk, rfl⟩ := h
    rw [List.mem_filter, List.mem_range] at hk
    refine ⟨hc.1, hc.2, by simp, by simpa using hk.1, ?_, by simpa using hk.2⟩
    have := hk.2
    unfold allowedB at this
    by_cases h4 : xs.length < 4
    · rw [if_pos h4] at this; cases this
    · omega
  · cases h

set_option maxHeartbeats 800000 in
theorem impl_VertexCrimps (A : Option Addr) (cap : Nat) (xs : List Int) (s : ByteArray) (w : World) (h : Ints w A xs) (hl : xs.length ≤ maxLen) (hs : s.size ≤ maxLen) :
    Calls Try.prog 68 #[.slice A xs.length cap, .string s] w fun e w' => ∃ v, e = .returned v ∧ Own w' w.heap.size v (vcL xs s) ∧ Below w.heap.size w w' := by
  cases hv : avB xs with
  | false =>
    have HV := Lib.hid hv; clear hv
    go_enter Try.func68, Try.ntmps68
    go_wp2_with fail
    refine (impl_AnglesValid A cap xs w h hl).mono ?_
    rintro e w' ⟨rfl, rfl⟩
    rw [HV.out]
    go_wp2_with fail
    go_ret
    exact ⟨_, rfl, by unfold vcL; rw [HV.out]; exact own_empty w (Nat.le_refl _), (Below.refl _ _).alloc (Nat.le_refl _) _⟩
  | true =>
    obtain ⟨_, h2, h10, hx, _⟩ := avB_parts hv
    have HV := Lib.hid hv; clear hv
    have HX := Lib.hid hx; clear hx
    cases hf : fvB s.data.toList xs.length with
    | false =>
      have HF := Lib.hid hf; clear hf
      go_enter Try.func68, Try.ntmps68
      go_wp2_with fail
      refine (impl_AnglesValid A cap xs w h hl).mono ?_
      rintro e w' ⟨rfl, rfl⟩
      rw [HV.out]
      go_wp2_with fail
      refine (impl_FoldsValid s xs.length w hs).mono ?_
      rintro e w' ⟨rfl, rfl⟩
      rw [HF.out]
      go_wp2_with fail
      go_ret
      exact ⟨_, rfl, by unfold vcL; rw [HV.out, HF.out]; exact own_empty w (Nat.le_refl _), (Below.refl _ _).alloc (Nat.le_refl _) _⟩
    | true =>
      have hsz := fvB_size hf
      have HF := Lib.hid hf; clear hf
      have HS := Lib.hid hsz; clear hsz
      go_enter Try.func68, Try.ntmps68
      go_wp2_with fail
      refine (impl_AnglesValid A cap xs w h hl).mono ?_
      rintro e w' ⟨rfl, rfl⟩
      rw [HV.out]
      go_wp2_with fail
      refine (impl_FoldsValid s xs.length w hs).mono ?_
      rintro e w' ⟨rfl, rfl⟩
      rw [HF.out]
      go_wp2_with fail
      refine (newRing_any w A cap xs s h (by omega) (by omega) (by have := HS.out; omega) (by have := HS.out; omega)).mono ?_
      rintro e w1 ⟨rfl, R, hb1⟩
      go_wp2_with fail
      refine (crimps_any w1 w.heap.size xs.length _ (angleAt xs) (byteAt s) R (by omega) (by omega) (byteAt_lt s)).mono ?_
      rintro e w2 ⟨v, rfl, hown, hb2⟩
      have hsz1 := hb1.size
      go_wp2_with fail
      go_ret
      refine ⟨_, rfl, ?_, below_from hb1 hb2 hsz1⟩
      unfold vcL
      rw [HV.out, HF.out]
      obtain ⟨k1, k2⟩ := hown
      refine ⟨k1, ?_⟩
      rcases k2 with h0 | ⟨g, cap, cur, e, hb, rest⟩
      · exact Or.inl h0
      · exact Or.inr ⟨g, cap, cur, e, by omega, rest⟩

theorem own_lower {w : World} {B B' : Nat} {e : TypeId} {z n : Nat} {v : Value} {xs : List Value} (h : w.ownsRow B e z v n xs) (hB : B' ≤ B) : w.ownsRow B' e z v n xs := by
  obtain ⟨k1, k2⟩ := h
  refine ⟨k1, ?_⟩
  rcases k2 with h0 | ⟨g, cap, cur, e, hb, rest⟩
  · exact Or.inl h0
  · exact Or.inr ⟨g, cap, cur, e, by omega, rest⟩

theorem mem_drop_step {l r : List Int} {k : Nat} {y i : Int} (h : l.drop k = y :: r) (hne : ¬ y = i) : (i ∈ l.drop k) = (i ∈ r) := by
  rw [h, List.mem_cons]
  simp [show ¬ i = y from fun e => hne e.symm]


end Go.Proofs.Ytnccpifdajcejaa
namespace Go.Proofs.Ytnccpifdajcejaa
open Go.RowKit

theorem angles_ext {xs ys : List Int} (h : xs.length = ys.length) (ha : ∀ k, k < xs.length → angleAt xs k = angleAt ys k) : xs = ys := by
  apply List.ext_getElem h
  intro k h1 h2
  have := ha k h1
  unfold angleAt at this
  simpa [List.getD_eq_getElem?_getD, h1, h2] using this
theorem bytes_ext {s t : ByteArray} (h : s.size = t.size) (ha : ∀ k, k < s.size → byteAt s k = byteAt t k) : s = t := by
  apply ByteArray.ext
  apply Array.ext'
  apply List.ext_getElem
  · simpa using h
  · intro k h1 h2
    have := ha k (by simpa using h1)
    unfold byteAt at this
    rw [List.getD_eq_getElem?_getD, List.getD_eq_getElem?_getD, List.getElem?_eq_getElem h1, List.getElem?_eq_getElem h2] at this
    exact UInt8.toNat_inj.1 this
theorem crimped_eq {xs : List Int} {s : ByteArray} {i : Nat} {xs' : List Int} {s' : ByteArray} (h : Crimped xs s i xs' s') : xs' = vcrX xs i ∧ s' = vcrF xs s i := by
  refine ⟨angles_ext ?_ fun k hk => ?_, bytes_ext ?_ fun k hk => ?_⟩
  · rw [h.len]; unfold vcrX; rw [angTo_len]
  · rw [h.len] at hk
    rw [h.angle k hk]
    unfold vcrX
    rw [angleAt_angTo _ hk]
  · rw [h.size]; unfold vcrF; simp [ByteArray.size, folTo_len]
  · rw [h.size] at hk
    rw [h.fold k hk]
    unfold vcrF
    exact (byteAt_folTo (fun k => byteAt s (sig xs.length i k)) hk (byteAt_lt _ _)).symm


end Go.Proofs.Ytnccpifdajcejaa
namespace Go.Proofs.Ytnccpifdajcejaa
open Go.RowKit

def vcT (s : ByteArray) (v : Vx) : Bool := decide (0 < (vcL v.1 (picked s v.2)).length)

set_option maxHeartbeats 1000000 in
theorem impl_PatternCrimp1 (A : Option Addr) (cap : Nat) (xs : List Int) (s : ByteArray) (w : World) (h : Ints w A xs) (hl : xs.length ≤ maxLen) (hs : s.size ≤ maxLen) :
    Calls Try.prog 67 #[.slice A xs.length cap, .string s] w fun e w' => e = .returned (.bool (decide (0 < (vcL xs s).length))) ∧ Below w.heap.size w w' := by
  obtain ⟨ys, hys⟩ : ∃ ys, ys = vcL xs s := ⟨_, rfl⟩
  have HY := Lib.hid hys
  clear hys
  go_enter Try.func67, Try.ntmps67
  go_wp2_with fail
  refine (impl_VertexCrimps A cap xs s w h hl hs).mono ?_
  rintro e w1 ⟨v, rfl, ho, hb⟩
  rw [← HY.out] at ho
  obtain ⟨A1, c1, rfl, _, _, _⟩ := ho.form
  clear ho
  go_wp2_with fail
  go_ret
  exact ⟨ret_bool (by rw [← HY.out]), hb⟩
set_option maxHeartbeats 2000000 in
theorem countC_one (s : ByteArray) (v : Vx) (U V : Value) (w : World) (h1 : IntsV w U v.1) (h2 : IntsV w V v.2) (hs : s.size ≤ 1000) (hv : VOk s v) :
    Calls Try.prog 63 #[.iface 83 (.agg #[U, V]), .string s, .func (.func 67) #[] #[]] w fun e w' => e = .returned (.int .i64 (cntX (vcT s) [v] : Nat)) ∧ Below w.heap.size w w' := by
  obtain ⟨A1, c1, rfl, i1, l1, m1⟩ := h1
  obtain ⟨A2, c2, rfl, i2, l2, m2⟩ := h2
  obtain ⟨n1, n2, hx⟩ := hv
  obtain ⟨w2, hw2⟩ : ∃ w2, w2 = w.alloc (.cells #[.slice A1 v.1.length c1, .slice A2 v.2.length c2] 83) := ⟨_, rfl⟩
  have b2 : Below w.heap.size w w2 := by rw [hw2]; exact (Below.refl _ _).alloc (Nat.le_refl _) _
  have K2 : Blk w2 w.heap.size 83 #[.slice A1 v.1.length c1, .slice A2 v.2.length c2] := by rw [hw2]; exact Blk.new w _ _
  have a0 := K2.cell 0
  have a1 := K2.cell 1
  have HW := Lib.hid hw2
  have I1 := Lib.hid (i1.below b2)
  have I2 := Lib.hid (i2.below b2)
  obtain ⟨q, hq⟩ : ∃ q, q = picked s v.2 := ⟨_, rfl⟩
  obtain ⟨b, hb⟩ : ∃ b, b = vcT s v := ⟨_, rfl⟩
  have hc1 : ∀ W : World, Below w2.heap.size w2 W → Calls Try.prog 79 #[.slice A2 v.2.length c2, .string s] W fun e w' => e = .returned (.string q) ∧ Below W.heap.size W w' := fun W hW => by
    rw [hq]; exact impl_foldsOfCreases A2 c2 v.2 s W ((i2.below b2).below hW) (by omega) hx hs
  have hc2 : ∀ W : World, Below w2.heap.size w2 W → Calls Try.prog 67 #[.slice A1 v.1.length c1, .string q] W fun e w' => e = .returned (.bool b) ∧ Below W.heap.size W w' := fun W hW => by
    rw [hb, hq]; exact impl_PatternCrimp1 A1 c1 v.1 (picked s v.2) W ((i1.below b2).below hW) (by unfold maxLen; omega) (by rw [picked_size]; unfold maxLen; omega)
  have HC1 := Lib.hid hc1
  have HC2 := Lib.hid hc2
  have HQ := Lib.hid hb
  clear hw2 i1 i2 hx hq hb hc1 hc2 I1 I2
  have as1 : ∀ v W, (Instr.typeAssert (.iface 83 v) 66 83 true).run Try.prog W = .ok (.tuple #[v, .bool true]) W := fun v W => run_assert_yes _ _ _ Try.underlying83 (by intro m h; cases h) v W
  go_enter Try.func63, Try.ntmps63
  go_wp2_with fail
  rw [← HW.out]
  go_region_held3 (fun W => W.cell? ⟨w.heap.size, 0, none⟩ = some (.slice A1 v.1.length c1) ∧ W.cell? ⟨w.heap.size, 1, none⟩ = some (.slice A2 v.2.length c2)) (first | exact ⟨a0, a1⟩ | exact ⟨(hby.cell (p := ⟨w.heap.size, 0, none⟩) (Nat.lt_of_lt_of_le K2.lt hbx.size)).trans ((hbx.cell (p := ⟨w.heap.size, 0, none⟩) K2.lt).trans a0), (hby.cell (p := ⟨w.heap.size, 1, none⟩) (Nat.lt_of_lt_of_le K2.lt hbx.size)).trans ((hbx.cell (p := ⟨w.heap.size, 1, none⟩) K2.lt).trans a1)⟩ | exact ⟨(hbx.cell (p := ⟨w.heap.size, 0, none⟩) K2.lt).trans a0, (hbx.cell (p := ⟨w.heap.size, 1, none⟩) K2.lt).trans a1⟩)
    (first
      | (go_simp; go_at_call 79; refine (HC1.out _ (below_drewN (Below.refl _ _) _)).mono ?_; rintro e w3 ⟨rfl, hbx⟩)
      | (go_simp; go_at_call 67; refine (HC2.out _ (below_from (below_drewN (Below.refl _ _) _) hbx (Nat.le_refl _))).mono ?_; rintro e w4 ⟨rfl, hby⟩))
  all_goals
    have b4 : Below w.heap.size w w4 := b2.trans ((below_from (⟨hbx.os, hbx.tape, hbx.output, hbx.size, hbx.block⟩ : Below w2.heap.size w2 w3) hby hbx.size).mono b2.size)
    cases b with
    | false =>
      go_wp2_with fail
      go_ret
      exact ⟨ret_int (by rw [cntX_one, ← HQ.out]; rfl), b4⟩
    | true =>
      go_wp2_with fail
      go_ret
      exact ⟨ret_int (by rw [cntX_one, ← HQ.out]; rfl), b4⟩
set_option maxHeartbeats 2000000 in
theorem countC_any (s : ByteArray) (vs : List Vx) (X : Value) (w : World) (h : PatV w vs X) (hs : s.size ≤ 1000) (hv : ∀ v ∈ vs, VOk s v) (hl : vs.length ≤ 1000) :
    ∀ W : World, Below w.heap.size w W → Calls Try.prog 63 #[X, .string s, .func (.func 67) #[] #[]] W fun e w' => e = .returned (.int .i64 (cntX (vcT s) vs : Nat)) ∧ Below W.heap.size W w' := by
  induction h with
  | one v U V h1 h2 => exact fun W hW => countC_one s v U V W (h1.below hW) (h2.below hW) hs (hv v (by simp))
  | more us v Y U V hne hY h1 h2 ih =>
    intro W hW
    obtain ⟨tY, Z, hYe⟩ := hY.form
    have hlu : us.length + 1 ≤ 1000 := by simpa using hl
    have ihu := ih (fun u hu => hv u (by simp [hu])) (by omega)
    obtain ⟨i0, hi, hz0, hz1, hz2⟩ := info_parts Try.infoSv
    obtain ⟨a, ha⟩ : ∃ a, a = cntX (vcT s) us := ⟨_, rfl⟩
    obtain ⟨b, hb⟩ : ∃ b, b = cntX (vcT s) [v] := ⟨_, rfl⟩
    have ha1 : a ≤ 1000 := by rw [ha]; exact Nat.le_trans (cntX_le _ _) (by omega)
    have hb1 : b ≤ 1 := by rw [hb]; exact cntX_le _ _
    have hsum : cntX (vcT s) (us ++ [v]) = a + b := by rw [cntX_snoc, ha, hb]
    have kw : IntKind.i64.wrap ((a : Int) + (b : Int)) = (a : Int) + (b : Int) := IntWalk.i64_in _ (by omega)
    rw [← ha] at ihu
    have as1 : ∀ v W, (Instr.typeAssert (.iface 85 v) 66 83 true).run Try.prog W = .ok (.tuple #[.agg #[.slice none 0 0, .slice none 0 0], .bool false]) W := fun v W => run_assert_no _ _ _ _ Try.underlying83 (by intro m h; cases h) (by decide) _ i0 hi hz0 v W
    have as2 : ∀ v W, (Instr.typeAssert (.iface 85 v) 66 85 true).run Try.prog W = .ok (.tuple #[v, .bool true]) W := fun v W => run_assert_yes _ _ _ Try.underlying85 (by intro m h; cases h) v W
    obtain ⟨A1, c1, rfl, i1, l1, m1⟩ := h1
    obtain ⟨A2, c2, rfl, i2, l2, m2⟩ := h2
    have hvv := hv v (by simp)
    obtain ⟨W2, hW2⟩ : ∃ W2, W2 = W.alloc (.cells #[.iface tY Z, .slice A1 v.1.length c1, .slice A2 v.2.length c2] 85) := ⟨_, rfl⟩
    have b2 : Below W.heap.size W W2 := by rw [hW2]; exact (Below.refl _ _).alloc (Nat.le_refl _) _
    have bb2 : Below w.heap.size w W2 := hW.trans (b2.mono hW.size)
    have K2 : Blk W2 W.heap.size 85 #[.iface tY Z, .slice A1 v.1.length c1, .slice A2 v.2.length c2] := by rw [hW2]; exact Blk.new W _ _
    have a0 := K2.cell 0
    have a1 := K2.cell 1
    have a2 := K2.cell 2
    have HW := Lib.hid hW2
    have hc1 : ∀ Q : World, Below w.heap.size w Q → Calls Try.prog 63 #[.iface tY Z, .string s, .func (.func 67) #[] #[]] Q fun e w' => e = .returned (.int .i64 (a : Int)) ∧ Below Q.heap.size Q w' := fun Q hQ => by rw [← hYe]; exact ihu Q hQ
    have hc2 : ∀ Q : World, Below w.heap.size w Q → Calls Try.prog 63 #[.iface 83 (.agg #[.slice A1 v.1.length c1, .slice A2 v.2.length c2]), .string s, .func (.func 67) #[] #[]] Q fun e w' => e = .returned (.int .i64 (b : Int)) ∧ Below Q.heap.size Q w' := fun Q hQ => by
      rw [hb]; exact countC_one s v _ _ Q ⟨A1, c1, rfl, i1.below hQ, l1, m1⟩ ⟨A2, c2, rfl, i2.below hQ, l2, m2⟩ hs hvv
    have HC1 := Lib.hid hc1
    have HC2 := Lib.hid hc2
    have HS := Lib.hid hsum
    have HBB := Lib.hid bb2
    subst hYe
    clear hW2 i1 i2 hc1 hc2 ha hb hsum ihu ih hv hvv hi hz0 hz1 hz2 hY hne hl hlu hW bb2
    go_enter Try.func63, Try.ntmps63
    go_wp2_with fail
    rw [← HW.out]
    go_region_held3 (fun Q => Q.cell? ⟨W.heap.size, 0, none⟩ = some (.iface tY Z) ∧ Q.cell? ⟨W.heap.size, 1, none⟩ = some (.slice A1 v.1.length c1) ∧ Q.cell? ⟨W.heap.size, 2, none⟩ = some (.slice A2 v.2.length c2))
      (first
        | exact ⟨a0, a1, a2⟩
        | exact ⟨(hby.cell (p := ⟨W.heap.size, 0, none⟩) (Nat.lt_of_lt_of_le K2.lt hbx.size)).trans ((hbx.cell (p := ⟨W.heap.size, 0, none⟩) K2.lt).trans a0), (hby.cell (p := ⟨W.heap.size, 1, none⟩) (Nat.lt_of_lt_of_le K2.lt hbx.size)).trans ((hbx.cell (p := ⟨W.heap.size, 1, none⟩) K2.lt).trans a1), (hby.cell (p := ⟨W.heap.size, 2, none⟩) (Nat.lt_of_lt_of_le K2.lt hbx.size)).trans ((hbx.cell (p := ⟨W.heap.size, 2, none⟩) K2.lt).trans a2)⟩
        | exact ⟨(hbx.cell (p := ⟨W.heap.size, 0, none⟩) K2.lt).trans a0, (hbx.cell (p := ⟨W.heap.size, 1, none⟩) K2.lt).trans a1, (hbx.cell (p := ⟨W.heap.size, 2, none⟩) K2.lt).trans a2⟩)
      (first
        | (have _hz := hbx.size; go_simp; go_at_call 63; refine (HC2.out _ (below_from HBB.out (⟨hbx.os, hbx.tape, hbx.output, hbx.size, hbx.block⟩ : Below W2.heap.size W2 w3) HBB.out.size)).mono ?_; rintro e w4 ⟨rfl, hby⟩)
        | (go_simp; go_at_call 63; refine (HC1.out _ (below_drewN HBB.out _)).mono ?_; rintro e w3 ⟨rfl, hbx⟩))
    all_goals
      have b4 : Below W.heap.size W w4 := b2.trans ((below_from (⟨hbx.os, hbx.tape, hbx.output, hbx.size, hbx.block⟩ : Below W2.heap.size W2 w3) hby hbx.size).mono b2.size)
      go_wp2_with fail
      go_ret
      exact ⟨ret_int (by rw [HS.out]; omega), b4⟩
end Go.Proofs.Ytnccpifdajcejaa
namespace Go.Proofs.Ytnccpifdajcejaa

theorem pickL_congr {s t : ByteArray} {cs : List Int} (h : ∀ c ∈ cs, s.data.toList.getD c.toNat 0 = t.data.toList.getD c.toNat 0) : pickL s cs = pickL t cs := by
  unfold pickL
  exact List.map_congr_left h
theorem pickL_swap {s : ByteArray} {cs : List Int} (h : ∀ c ∈ cs, 0 ≤ c ∧ c < s.size) : pickL (swT s) cs = (pickL s cs).map swB := by
  unfold pickL swT
  rw [List.map_map]
  refine List.map_congr_left fun c hc => ?_
  have h1 := h c hc
  have hl : c.toNat < s.data.toList.length := by
    have : s.data.toList.length = s.size := by simp
    omega
  show (bts (s.data.toList.map swB)).data.toList.getD c.toNat 0 = swB (s.data.toList.getD c.toNat 0)
  rw [bts_list]
  simp [List.getD_eq_getElem?_getD, List.getElem?_eq_getElem hl]
theorem vfT_swap {s : ByteArray} {v : Vx} (h : ∀ c ∈ v.2, 0 ≤ c ∧ c < s.size) : vfT (swT s) v = vfT s v := by
  unfold vfT picked
  rw [pickL_swap h]
  exact vf_swap v.1 (pickL s v.2)
theorem fvB_swap {s : ByteArray} {n : Int} (h : fvB s.data.toList n = true) : fvB (swT s).data.toList n = true := by
  rw [fvB_iff] at h ⊢
  unfold swT
  rw [bts_list]
  refine ⟨by rw [List.length_map]; exact h.1, fun c hc => ?_⟩
  obtain ⟨d, hd, rfl⟩ := List.mem_map.1 hc
  exact swB_mv (h.2 d hd)
theorem pfB_parts {vs : List Vx} {s : ByteArray} (h : pfB vs s = true) : patB vs = true ∧ fvB s.data.toList (ncr vs) = true ∧ ∀ v ∈ vs, vfT s v = true := by
  unfold pfB at h
  simp only [Bool.and_eq_true, List.all_eq_true] at h
  exact ⟨h.1, h.2.1, h.2.2⟩
theorem pfB_size {s : ByteArray} {n : Int} (h : fvB s.data.toList n = true) : (s.size : Int) = n := by
  rw [fvB_iff] at h
  have : s.data.toList.length = s.size := by simp
  have := h.1
  omega
theorem pat_bd3 {vs : List Vx} (hp : patB vs = true) : ∀ v ∈ vs, v.2.length = v.1.length ∧ v.2.Nodup ∧ ∀ c ∈ v.2, 0 ≤ c ∧ c < ncr vs := by
  intro v hv
  obtain ⟨_, _, hall, _, _, _⟩ := patB_parts hp
  have h0 := List.all_eq_true.1 hall v hv
  have h1 := vtxB_bd h0
  refine ⟨h1.2.1, ?_, fun c hc => ⟨(h1.2.2.2.2 c hc).1, ?_⟩⟩
  · unfold vtxB at h0
    simp only [Bool.and_eq_true] at h0
    exact ((crB_iff _).1 h0.2).2
  · have := (ncGo_le 0 vs).2 v hv c hc
    unfold ncr
    omega
/-- all folds exchanged -/
theorem pfB_swap {vs : List Vx} {s : ByteArray} (h : pfB vs s = true) : pfB vs (swT s) = true := by
  obtain ⟨hp, hf, ha⟩ := pfB_parts h
  have hs := pfB_size hf
  unfold pfB
  simp only [Bool.and_eq_true, List.all_eq_true]
  refine ⟨hp, fvB_swap hf, fun v hv => ?_⟩
  rw [vfT_swap (fun c hc => by have := (pat_bd3 hp v hv).2.2 c hc; omega)]
  exact ha v hv
/-- one fold exchanged -/
def oneT (s : ByteArray) (k : Nat) : ByteArray := bts (s.data.toList.set k (swB (s.data.toList.getD k 0)))
theorem balT_set {l : List UInt8} {i : Nat} (hi : i < l.length) (hm : ∀ c ∈ l, mvB c = true) : balT (l.set i (swB l[i])) = balT l + 2 ∨ balT (l.set i (swB l[i])) = balT l - 2 := by
  induction l generalizing i with
  | nil => simp at hi
  | cons c r ih =>
    cases i with
    | zero =>
      simp only [List.getElem_cons_zero, List.set_cons_zero, balT]
      have h1 := hm c (by simp)
      by_cases h7 : c = 77
      · subst h7
        have : swB 77 = 86 := by decide
        rw [this]
        right
        simp; omega
      · by_cases h8 : c = 86
        · subst h8
          have : swB 86 = 77 := by decide
          rw [this]
          left
          simp; omega
        · exfalso
          unfold mvB at h1
          simp at h1
          rcases h1 with h1 | h1
          · exact h7 (by first | exact h1 | exact UInt8.toNat_inj.1 (by simpa using h1))
          · exact h8 (by first | exact h1 | exact UInt8.toNat_inj.1 (by simpa using h1))
    | succ i =>
      have hi' : i < r.length := by simpa using hi
      simp only [List.getElem_cons_succ, List.set_cons_succ, balT]
      rcases ih hi' (fun c hc => hm c (by simp [hc])) with h | h
      · left; rw [h]; omega
      · right; rw [h]; omega
theorem pickL_one {s : ByteArray} {cs : List Int} {i k : Nat} (hi : i < cs.length) (hc : cs[i] = (k : Int)) (hn : cs.Nodup) (hk : k < s.size) (hb : ∀ c ∈ cs, 0 ≤ c) : pickL (oneT s k) cs = (pickL s cs).set i (swB ((pickL s cs)[i]'(by rw [pickL_len]; exact hi))) := by
  have hkl : k < s.data.toList.length := by
    have : s.data.toList.length = s.size := by simp
    omega
  apply List.ext_getElem?
  intro j
  rw [List.getElem?_set]
  unfold pickL oneT
  rw [bts_list]
  by_cases hj : j < cs.length
  · by_cases e : i = j
    · subst e
      rw [if_pos rfl, if_pos (by simpa using hj)]
      simp [List.getElem?_eq_getElem hj, hc, List.getD_eq_getElem?_getD, List.getElem?_set, hk]
    · rw [if_neg e]
      have hne : cs[j] ≠ (k : Int) := by
        intro e2
        have := List.pairwise_iff_getElem.1 (List.nodup_iff_pairwise_ne.1 hn)
        rcases Nat.lt_or_ge i j with h | h
        · exact this i j hi hj h (by rw [hc, e2])
        · exact this j i hj hi (by omega) (by rw [hc, e2])
      have h0 := hb cs[j] (List.getElem_mem hj)
      have hne2 : k ≠ cs[j].toNat := by omega
      simp [List.getElem?_eq_getElem hj, List.getD_eq_getElem?_getD, List.getElem?_set, hne2]
  · rw [List.getElem?_eq_none (by simpa using Nat.le_of_not_lt hj)]
    rw [if_neg (by omega), List.getElem?_eq_none (by simpa using Nat.le_of_not_lt hj)]
theorem pfB_one {vs : List Vx} {s : ByteArray} {k : Nat} (h : pfB vs s = true) (hk : k < s.size) : pfB vs (oneT s k) = false := by
  obtain ⟨hp, hf, ha⟩ := pfB_parts h
  have hs := pfB_size hf
  obtain ⟨_, _, hall, huse, _, _⟩ := patB_parts hp
  have hu := (usesOk_iff.1 huse) k (by omega)
  obtain ⟨v, hv, hkv⟩ := useN_pos.1 (by omega : 0 < useN vs (k : Int))
  obtain ⟨i, hi, hc⟩ := List.getElem_of_mem hkv
  obtain ⟨hl, hn, hb⟩ := pat_bd3 hp v hv
  have h1 := ha v hv
  rw [← Bool.not_eq_true]
  intro h2
  have h3 := (pfB_parts h2).2.2 v hv
  unfold vfT picked at h1 h3
  rw [pickL_one hi hc hn hk (fun c hc => (hb c hc).1)] at h3
  have b1 := vf_bal (cs := pickL s v.2) h1
  have b2 := vf_bal (cs := (pickL s v.2).set i _) h3
  have hm : ∀ c ∈ pickL s v.2, mvB c = true := by
    intro c hcm
    unfold pickL at hcm
    obtain ⟨d, hd, rfl⟩ := List.mem_map.1 hcm
    have h4 := hb d hd
    have hdl : d.toNat < s.data.toList.length := by
      have : s.data.toList.length = s.size := by simp
      omega
    rw [fvB_iff] at hf
    rw [List.getD_eq_getElem?_getD, List.getElem?_eq_getElem hdl]
    exact hf.2 _ (List.getElem_mem hdl)
  rcases balT_set (i := i) (by rw [pickL_len]; exact hi) hm with e | e <;> rw [e] at b2 <;> omega
end Go.Proofs.Ytnccpifdajcejaa
