/- Parts laid flat: how many layers are right. No condition but sizes. -/
import Derived.Laws.OwnMore
import Derived.Test.YtnckbiacfnokiaaFlatG
namespace Go.Proofs.Ytnckbiacfnokiaa
open Go.RowKit

/-- one, if the layers are right -/
def rwt (n : Nat) (ps : List Int) (fs : List Fd) (L : List Int) : Nat := if rightB L n ps fs = true then 1 else 0
theorem rwt_le (n : Nat) (ps : List Int) (fs : List Fd) : ∀ L, rwt n ps fs L ≤ 1 := fun L => by unfold rwt; split <;> omega
/-- how many right layers -/
def rcount (n : Nat) (ps : List Int) (fs : List Fd) : Nat := ordSum n (rwt n ps fs) n []
theorem rcount_le (n : Nat) (ps : List Int) (fs : List Fd) : rcount n ps fs ≤ n ^ n := ordSum_le (rwt_le n ps fs) n []
/-- the counter in block c stands at s; what lay below is as it was -/
structure CntI (w0 : World) (r q2 q3 c : Nat) (s : Nat) (W : World) : Prop where
  bel : Below w0.heap.size w0 W
  b2 : Blk W q2 43 #[ptr r]
  b3 : Blk W q3 50 #[.func (.func 48) #[] #[ptr c]]
  bc : Blk W c 3 #[.int .i64 s]
theorem CntI.far {w0 W W' : World} {r q2 q3 c s H0 : Nat} (h : CntI w0 r q2 q3 c s W) (h0 : w0.heap.size ≤ H0) (h2 : q2 < H0) (h3 : q3 < H0) (hc : c < H0) (hb : Below H0 W W') : CntI w0 r q2 q3 c s W' :=
  ⟨h.bel.trans (hb.mono h0), h.b2.below hb h2, h.b3.below hb h3, h.bc.below hb hc⟩
set_option maxHeartbeats 400000 in
set_option maxRecDepth 100000 in
theorem impl_count1 (A : Option Addr) (k cap c s : Nat) (W : World) (h : Blk W c 3 #[.int .i64 s]) (hs : s ≤ 1000000) :
    Calls Try.prog 48 #[.slice A k cap, ptr c] W fun e W' => e = .returned (.bool true) ∧ W' = W.setCell ⟨c, 0, none⟩ (.int .i64 ((s + 1 : Nat) : Int)) := by
  have c0 : W.cell? ⟨c, 0, none⟩ = some (.int .i64 s) := h.cell 0
  have f0 := h.frozen 0
  have kw : IntKind.i64.wrap ((s : Int) + 1) = (s : Int) + 1 := IntWalk.i64_in _ (by omega)
  clear h
  go_enter Try.func48, Try.ntmps48
  go_wp2_with fail
  go_ret
  exact ⟨rfl, by push_cast; rfl⟩
set_option maxHeartbeats 400000 in
set_option maxRecDepth 100000 in
theorem impl_eachLayers1 (r B n cap q2 q3 c s : Nat) (A : Option Addr) (xs ps : List Int) (fs : List Fd) (w0 W : World) (hF : Flat w0 r B n ps fs) (hi : CntI w0 r q2 q3 c s W) (hA : Ints W A xs) (hx : xs.length = n) (hn : n ≤ 100) (hp : ps.length = n + 1) (hf0 : fs ≠ []) (hf : fs.length ≤ 1000) (hfd : ∀ f ∈ fs, f.1 < n ∧ f.2.1 < n)
    (hc : w0.heap.size ≤ c) (h2 : c ≠ q2) (h3 : c ≠ q3) (hs : s ≤ 1000000) :
    Calls Try.prog 63 #[.slice A n cap, ptr q2, ptr q3] W fun e W' => e = .returned (.bool true) ∧ CntI w0 r q2 q3 c (s + rwt n ps fs xs) W' ∧ W.grownBy W' (some c) := by
  have hr := impl_right r B n cap A xs ps fs W (hF.below hi.bel) hA (by omega) hn hp hf0 hf hfd
  rw [hx] at hr
  have HR := Lib.hid hr
  have HI := Lib.hid hi
  have c2 : W.cell? ⟨q2, 0, none⟩ = some (ptr r) := hi.b2.cell 0
  obtain ⟨z, hz⟩ : ∃ z, z = rightB xs n ps fs := ⟨_, rfl⟩
  have HZ : Hid (rwt n ps fs xs = if z = true then 1 else 0) := by show _ = _; unfold rwt; rw [hz]
  rw [← hz] at HR
  clear hr hi hA hx hp hf0 hf hfd hz
  go_enter Try.func63, Try.ntmps63
  go_wp2_with fail
  refine HR.out.mono ?_
  rintro e W1 ⟨rfl, hb1⟩
  have HI1 : Hid (CntI w0 r q2 q3 c s W1) := ⟨HI.out.bel.trans (hb1.mono HI.out.bel.size), HI.out.b2.below hb1 HI.out.b2.lt, HI.out.b3.below hb1 HI.out.b3.lt, HI.out.bc.below hb1 HI.out.bc.lt⟩
  have HB1 := Lib.hid hb1
  have c3 : W1.cell? ⟨q3, 0, none⟩ = some (.func (.func 48) #[] #[ptr c]) := HI1.out.b3.cell 0
  clear hb1 HR c2
  cases z with
  | false =>
    have HW : Hid (CntI w0 r q2 q3 c (s + rwt n ps fs xs) W1) := by
      show CntI _ _ _ _ _ _ _
      rw [HZ.out]
      exact HI1.out
    go_wp2_with fail
    go_ret
    exact ⟨rfl, HW.out, HB1.out.os, HB1.out.tape, HB1.out.output, HB1.out.size, fun i hi _ => HB1.out.block i hi⟩
  | true =>
    go_wp2_with fail
    refine (impl_count1 A n cap c s W1 HI1.out.bc hs).mono ?_
    rintro e W2 ⟨rfl, rfl⟩
    have HW : Hid (CntI w0 r q2 q3 c (s + rwt n ps fs xs) (W1.setCell ⟨c, 0, none⟩ (.int .i64 ((s + 1 : Nat) : Int)))) := by
      show CntI _ _ _ _ _ _ _
      rw [HZ.out, if_pos trivial]
      exact ⟨HI1.out.bel.trans (below_set W1 0 _ hc), HI1.out.b2.far (Ne.symm h2) _, HI1.out.b3.far (Ne.symm h3) _, HI1.out.bc.set_ 0 _⟩
    have HG : Hid (W.grownBy (W1.setCell ⟨c, 0, none⟩ (.int .i64 ((s + 1 : Nat) : Int))) (some c)) :=
      World.grownBy.trans (show W.grownBy W1 (some c) from ⟨HB1.out.os, HB1.out.tape, HB1.out.output, HB1.out.size, fun i hi _ => HB1.out.block i hi⟩) (grown_setC W1 c 0 _)
    go_wp2_with fail
    go_ret
    exact ⟨rfl, HW.out, HG.out⟩
theorem fal_of_new {w w' : World} {H : Nat} (h : w.grownBy w' none) (hw : w.heap.size = H) : Below H w w' := hw ▸ (Below.refl _ _).grown h (Nat.le_refl _) (fun k hk => by cases hk)
set_option maxHeartbeats 1000000 in
set_option maxRecDepth 100000 in
theorem impl_eachLayers (r B n c : Nat) (ps : List Int) (fs : List Fd) (w0 W : World) (hF : Flat w0 r B n ps fs) (hb : Below w0.heap.size w0 W) (hc : w0.heap.size ≤ c) (hK : Blk W c 3 #[.int .i64 (0 : Nat)]) (hn : n ≤ 6) (hp : ps.length = n + 1) (hf0 : fs ≠ []) (hf : fs.length ≤ 1000) (hfd : ∀ f ∈ fs, f.1 < n ∧ f.2.1 < n) :
    Calls Try.prog 47 #[ptr r, .func (.func 48) #[] #[ptr c]] W fun e W' => e = .returned (.tuple #[]) ∧ Blk W' c 3 #[.int .i64 (rcount n ps fs : Nat)] ∧ Below w0.heap.size w0 W' := by
  have hFW := hF.below hb
  obtain ⟨bp, op, cp, bf, of, cf, hR⟩ := hFW.read (by intro e; rw [e] at hp; simp at hp) hf0
  have hcl := hK.lt
  have hrl := hR.blk.lt
  have HK := Lib.hid hK
  have HB := Lib.hid hb
  have hsz := hb.size
  -- the world behind both boxes
  have hI0 : CntI w0 r W.heap.size (W.heap.size + 1) c 0 ((W.alloc (.cells #[ptr r] 43)).alloc (.cells #[.func (.func 48) #[] #[ptr c]] 50)) :=
    ⟨(hb.alloc hsz _).alloc (Nat.le_trans hsz (by simp)) _, (Blk.new W _ _).alloc _, by have := Blk.new (W.alloc (.cells #[ptr r] 43)) 50 #[.func (.func 48) #[] #[ptr c]]; simpa using this, (hK.alloc _).alloc _⟩
  have hR2 : Blk ((W.alloc (.cells #[ptr r] 43)).alloc (.cells #[.func (.func 48) #[] #[ptr c]] 50)) r 61 #[.int .i64 n, .slice (some ⟨bp, op, none⟩) ps.length cp, .slice (some ⟨bf, of, none⟩) fs.length cf] := (hR.blk.alloc _).alloc _
  have hsz2 : ((W.alloc (.cells #[ptr r] 43)).alloc (.cells #[.func (.func 48) #[] #[ptr c]] 50)).heap.size = W.heap.size + 2 := by simp
  obtain ⟨q2, hq2⟩ : ∃ q, q = W.heap.size := ⟨_, rfl⟩
  obtain ⟨q3, hq3⟩ : ∃ q, q = W.heap.size + 1 := ⟨_, rfl⟩
  have HF := Lib.hid hF
  have HFD := Lib.hid hfd
  have HF0 := Lib.hid hf0
  have HP := Lib.hid hp
  have HFL := Lib.hid hf
  clear hF hFW hR hfd hf0 hp hf hK hb
  go_enter Try.func47, Try.ntmps47
  go_upto_region 1 with (fail)
  obtain ⟨W2, hW2⟩ : ∃ W2, W2 = (W.alloc (.cells #[ptr r] 43)).alloc (.cells #[.func (.func 48) #[] #[ptr c]] 50) := ⟨_, rfl⟩
  rw [← hW2] at hI0 hR2 hsz2 ⊢
  rw [← hq3] at hI0 ⊢
  rw [← hq2] at hI0 ⊢
  clear hW2
  obtain ⟨i0, hi, hz0, hz1, hz2⟩ := info_parts Try.infoInt
  obtain ⟨w1, hrun, hown1, hg1⟩ := run_make_own (P := Try.prog) W2 W2.heap.size 28 3 i0 (.int .i64 0) 1 Try.underlying28 hi hz0 hz1 .i64 .i64 n (by rw [hz2]; omega) (by unfold maxLen; omega) (Nat.le_refl _)
  have HRun : Hid ((Instr.makeSlice 28 (.int .i64 0) (.int .i64 n)).run Try.prog W2 = .ok (.slice (some ⟨W2.heap.size, 0, none⟩) 0 n) w1) := by
    show _ = _
    have := hrun
    simpa using this
  have hb1 : Below W2.heap.size W2 w1 := fal_of_new hg1 rfl
  obtain ⟨j0, hj, hy0, hy1, hy2⟩ := info_parts Try.infoBool
  obtain ⟨w3, hrun3, ho3, hg3⟩ := run_make_full (P := Try.prog) w1 W2.heap.size 80 4 j0 (.bool false) 1 Try.underlying80 hj hy0 hy1 .i64 .i64 n (by rw [hy2]; omega) (by unfold maxLen; omega) hb1.size
  rw [made_zeroB] at ho3
  have HRun3 := Lib.hid hrun3
  have hb3 : Below w1.heap.size w1 w3 := fal_of_new hg3 rfl
  have hgo : W2.heap.size < w1.heap.size := by
    have h1 := (hown1.lt W2.heap.size rfl).2
    exact h1
  have ho4 : OwnJ w3 W2.heap.size (.slice (some ⟨W2.heap.size, 0, none⟩) 0 n) 0 [] := own_below2' hown1 hb3
  have hu4 : OwnBo w3 W2.heap.size (.slice (some ⟨w1.heap.size, 0, none⟩) n n) n (usL n []) := by
    have : usL n [] = List.replicate n false := by
      apply List.ext_getElem
      · simp [usL]
      · intro i h1 h2; simp [usL]
    show World.ownsRow _ _ _ _ _ _ _
    rw [this]; exact ho3
  have hb4 : Below W2.heap.size W2 w3 := hb1.trans (hb3.mono hb1.size)
  have hI4 : CntI w0 r q2 q3 c 0 w3 := hI0.far (by omega) (by omega) (by omega) (by omega) hb4
  have c2 : W2.cell? ⟨q2, 0, none⟩ = some (ptr r) := hI0.b2.cell 0
  have c3 : w1.cell? ⟨q2, 0, none⟩ = some (ptr r) := (hI0.b2.below hb1 hI0.b2.lt).cell 0
  have c4 : W2.cell? ⟨r, 0, none⟩ = some (.int .i64 n) := hR2.cell 0
  have c5 : w1.cell? ⟨r, 0, none⟩ = some (.int .i64 n) := (hR2.below hb1 hR2.lt).cell 0
  have HEO := Lib.hid (impl_eachOrder W2.heap.size W2.heap.size w1.heap.size c n 1000000 q2 q3 (rwt n ps fs) (CntI w0 r q2 q3 c) (rwt_le n ps fs)
    (fun s V V' h hb => h.far (by omega) (by omega) (by omega) (by omega) hb) (fun s V h => by have h1 := h.b3.lt; omega) (by omega) (by omega) (by omega)
    (fun s V cap xs h hx _ hA hs => impl_eachLayers1 r B n cap q2 q3 c s _ xs ps fs w0 V HF.out h hA hx (by omega) HP.out HF0.out HFL.out HFD.out hc (by omega) (by omega) (by omega))
    n [] 0 w3 (by simp) (by intro x hx; cases hx) ho4 hu4 hI4 (by
      have : n ^ n ≤ 6 ^ 6 := Nat.le_trans (Nat.pow_le_pow_left hn n) (Nat.pow_le_pow_right (by omega) hn)
      omega))
  clear hi hz0 hz1 hz2 hrun hown1 hg1 hj hy0 hy1 hy2 hrun3 ho3 hg3 hb1 hb3 hgo ho4 hu4 hb4 hI4 hI0 hR2 hsz2 hq2 hq3
  go_wp2_with fail
  rw [HRun.out]
  go_wp2_with fail
  rw [HRun3.out]
  go_wp2_with fail
  refine HEO.out.mono ?_
  rintro e W5 ⟨rfl, _, _, hI5⟩
  have HI5 := Lib.hid hI5
  clear hI5
  go_wp2_with fail
  go_end0
  refine ⟨rfl, ?_, HI5.out.bel⟩
  have := HI5.out.bc
  rw [Nat.zero_add] at this
  exact this
set_option maxHeartbeats 400000 in
set_option maxRecDepth 100000 in
theorem impl_count (r B n : Nat) (ps : List Int) (fs : List Fd) (w : World) (hF : Flat w r B n ps fs) (hn : n ≤ 6) (hp : ps.length = n + 1) (hf0 : fs ≠ []) (hf : fs.length ≤ 1000) (hfd : ∀ f ∈ fs, f.1 < n ∧ f.2.1 < n) :
    Calls Try.prog 27 #[ptr r] w fun e w' => e = .returned (.int .i64 (rcount n ps fs : Nat)) ∧ Below w.heap.size w w' := by
  have HE := Lib.hid (impl_eachLayers r B n w.heap.size ps fs w (w.alloc (.cells #[.int .i64 (0 : Nat)] 3)) hF ((Below.refl _ _).alloc (Nat.le_refl _) _) (Nat.le_refl _) (Blk.new w _ _) hn hp hf0 hf hfd)
  obtain ⟨z, hz⟩ : ∃ z, z = rcount n ps fs := ⟨_, rfl⟩
  rw [← hz] at HE ⊢
  clear hF hn hp hf0 hf hfd hz
  go_enter Try.func27, Try.ntmps27
  go_wp2_with fail
  refine HE.out.mono ?_
  rintro e w1 ⟨rfl, hK, hb⟩
  have c0 : w1.cell? ⟨w.heap.size, 0, none⟩ = some (.int .i64 z) := hK.cell 0
  have HB := Lib.hid hb
  clear hK hb HE
  go_wp2_with fail
  go_ret
  exact ⟨rfl, HB.out⟩
end Go.Proofs.Ytnckbiacfnokiaa
