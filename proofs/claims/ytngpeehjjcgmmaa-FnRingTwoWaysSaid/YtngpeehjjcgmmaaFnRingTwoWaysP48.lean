/- The first right layers of a ring, and whether layers are right: the program's. No condition but sizes. RingFirst and RingLayers: the program's. No condition but sizes. Rows in memory: what a slice reads as. No condition but sizes. -/
import Derived.Test.YtngpeehjjcgmmaaFnRingTwoWaysP47
import Derived.Test.YtngpeehjjcgmmaaRingA
import Derived.Test.YtngpeehjjcgmmaaBytes
namespace Go.Proofs.Ytngpeehjjcgmmaa
open Go.RowKit

/-- nothing found so far -/
structure FsI (w0 : World) (r q2 q3 c1 c2 : Nat) (v : Value) (W : World) : Prop where
  bel : Below w0.heap.size w0 W
  b2 : Blk W q2 44 #[ptr r]
  b3 : Blk W q3 27 #[.func (.func 52) #[] #[ptr c1, ptr c2]]
  k1 : Blk W c1 23 #[v]
  own : Own W w0.heap.size v []
  k2 : Blk W c2 4 #[.bool false]
/-- found -/
structure FsJ (w0 : World) (c1 c2 : Nat) (L : List Int) (W : World) : Prop where
  bel : Below w0.heap.size w0 W
  k1 : ∃ v, Blk W c1 23 #[v] ∧ Own W w0.heap.size v L
  k2 : Blk W c2 4 #[.bool true]
theorem FsI.far {w0 W W' : World} {r q2 q3 c1 c2 H0 b0 : Nat} (h : FsI w0 r q2 q3 c1 c2 (.slice (some ⟨b0, 0, none⟩) 0 0) W) (h0 : w0.heap.size ≤ H0) (h2 : q2 < H0) (h3 : q3 < H0) (hc1 : c1 < H0) (hc2 : c2 < H0) (hb0 : b0 < H0) (hb : Below H0 W W') (hz : H0 ≤ W.heap.size) : FsI w0 r q2 q3 c1 c2 (.slice (some ⟨b0, 0, none⟩) 0 0) W' := by
  refine ⟨h.bel.trans (hb.mono h0), h.b2.below hb h2, h.b3.below hb h3, h.k1.below hb hc1, ?_, h.k2.below hb hc2⟩
  refine ⟨h.own.1, ?_⟩
  rcases h.own.2 with e | ⟨g, cap, cur, e1, e2, e3, e4⟩
  · exact Or.inl e
  · refine Or.inr ⟨g, cap, cur, e1, e2, ?_, e4⟩
    injection e1 with e1
    injection e1 with e1
    injection e1 with e1
    rw [← e1] at e3 ⊢
    exact (hb.block b0 hb0).trans e3
set_option maxHeartbeats 1000000 in
set_option maxRecDepth 100000 in
theorem impl_first1 (w0 : World) (A : Option Addr) (cap r q2 q3 c1 c2 H0 b0 n : Nat) (L : List Int) (W : World) (h : FsI w0 r q2 q3 c1 c2 (.slice (some ⟨b0, 0, none⟩) 0 0) W) (hA : Ints W A L) (hn : L.length = n) (hl : n ≤ 1000) (h0 : w0.heap.size ≤ H0) (hc1 : c1 < H0) (hc2 : c2 < H0) (hb0 : b0 < H0) (hw1 : w0.heap.size ≤ c1) (hw2 : w0.heap.size ≤ c2) (hne : c1 ≠ c2) (hb1 : b0 ≠ c1) (hb2 : b0 ≠ c2) :
    Calls Try.prog 52 #[.slice A n cap, ptr c1, ptr c2] W fun e W' => e = .returned (.bool false) ∧ FsJ w0 c1 c2 L W' ∧ Kp H0 W W' := by
  have m1 : W.cell? ⟨c1, 0, none⟩ = some (.slice (some ⟨b0, 0, none⟩) 0 0) := h.k1.cell 0
  have f1 := h.k1.frozen 0
  have hsz := h.bel.size
  have HH := Lib.hid h
  have HA := Lib.hid hA
  have hlz : L.length ≤ 1000 := by omega
  clear h hA
  go_enter Try.func52, Try.ntmps52
  go_wp2_with (at_builtin; go_loud (refine wpList_app (W := W) rfl _ _ rfl w0.heap.size (.slice (some ⟨b0, 0, none⟩) 0 0) [] L _ _ (by rfl) n hn (by rfl) HH.out.own HA.out hsz (by simp; omega) ?_))
  intro v1 w1 ho1 hg1 hb1'
  have hk1 : Blk w1 c1 23 #[.slice (some ⟨b0, 0, none⟩) 0 0] := HH.out.k1.grown hg1 (by intro e; exact hb1 (Option.some.inj e).symm)
  have hk2 : Blk w1 c2 4 #[.bool false] := HH.out.k2.grown hg1 (by intro e; exact hb2 (Option.some.inj e).symm)
  have n1 : w1.cell? ⟨c1, 0, none⟩ = some (.slice (some ⟨b0, 0, none⟩) 0 0) := hk1.cell 0
  have n2 := hk1.frozen 0
  have n3 : w1.cell? ⟨c2, 0, none⟩ = some (.bool false) := hk2.cell 0
  have n4 := hk2.frozen 0
  obtain ⟨A1, cp1, rfl, _⟩ := Own.form ho1
  have HK1 := Lib.hid hk1
  have HK2 := Lib.hid hk2
  have HO1 := Lib.hid ho1
  have HB1 := Lib.hid hb1'
  have HG1 : Hid (W.grownBy w1 (some b0)) := hg1
  clear ho1 hg1 hb1' hk1 hk2
  go_wp2_with fail
  go_ret
  have hA1 : Own (w1.setCell ⟨c1, 0, none⟩ (.slice A1 ([] ++ L).length cp1)) w0.heap.size (.slice A1 ([] ++ L).length cp1) ([] ++ L) := HO1.out.kept (grown_setC w1 c1 0 _) (Or.inr (own_blk_ne HO1.out HK1.out (by decide)))
  have hA2 : Own ((w1.setCell ⟨c1, 0, none⟩ (.slice A1 ([] ++ L).length cp1)).setCell ⟨c2, 0, none⟩ (.bool true)) w0.heap.size (.slice A1 ([] ++ L).length cp1) ([] ++ L) := hA1.kept (grown_setC _ c2 0 _) (Or.inr (own_blk_ne hA1 (HK2.out.far (Ne.symm hne) _) (by decide)))
  have hk1' : Blk ((w1.setCell ⟨c1, 0, none⟩ (.slice A1 ([] ++ L).length cp1)).setCell ⟨c2, 0, none⟩ (.bool true)) c1 23 #[.slice A1 ([] ++ L).length cp1] := by
    have := (HK1.out.set_ 0 (.slice A1 ([] ++ L).length cp1)).far (p := ⟨c2, 0, none⟩) hne (.bool true)
    simpa using this
  have hk2' : Blk ((w1.setCell ⟨c1, 0, none⟩ (.slice A1 ([] ++ L).length cp1)).setCell ⟨c2, 0, none⟩ (.bool true)) c2 4 #[.bool true] := by
    have := (HK2.out.far (p := ⟨c1, 0, none⟩) (Ne.symm hne) (.slice A1 ([] ++ L).length cp1)).set_ 0 (.bool true)
    simpa using this
  try rw [List.nil_append] at hA2
  try rw [List.nil_append] at hk1'
  try rw [List.nil_append] at hk2'
  subst hn
  refine ⟨rfl, ⟨(HH.out.bel.trans HB1.out).trans ((below_set w1 0 _ hw1).trans (below_set _ 0 _ hw2)), ⟨_, hk1', hA2⟩, hk2'⟩, ?_⟩
  exact (Kp.of_grown HG1.out hb0).trans ((Kp.of_grown (grown_setC w1 c1 0 _) hc1).trans (Kp.of_grown (grown_setC _ c2 0 _) hc2))
set_option maxHeartbeats 1000000 in
set_option maxRecDepth 100000 in
theorem impl_eachLayers1F (w0 : World) (A : Option Addr) (cap r B q2 q3 c1 c2 H0 b0 n : Nat) (xs ps : List Int) (fs : List Fd) (W : World) (hF : Flat w0 r B n ps fs) (h : FsI w0 r q2 q3 c1 c2 (.slice (some ⟨b0, 0, none⟩) 0 0) W) (hA : Ints W A xs) (hx : xs.length = n) (hn : n ≤ 100) (hp : ps.length = n + 1) (hf0 : fs ≠ []) (hf : fs.length ≤ 1000) (hfd : ∀ f ∈ fs, f.1 < n ∧ f.2.1 < n)
    (h0 : w0.heap.size ≤ H0) (h2 : q2 < H0) (h3 : q3 < H0) (hc1 : c1 < H0) (hc2 : c2 < H0) (hb0 : b0 < H0) (hw1 : w0.heap.size ≤ c1) (hw2 : w0.heap.size ≤ c2) (hne : c1 ≠ c2) (hb1 : b0 ≠ c1) (hb2 : b0 ≠ c2) (hz : H0 ≤ W.heap.size) :
    Calls Try.prog 67 #[.slice A n cap, ptr q2, ptr q3] W fun e W' => e = .returned (.bool (!rightB xs n ps fs)) ∧ (rightB xs n ps fs = false → FsI w0 r q2 q3 c1 c2 (.slice (some ⟨b0, 0, none⟩) 0 0) W') ∧ (rightB xs n ps fs = true → FsJ w0 c1 c2 xs W') ∧ Kp H0 W W' := by
  have hr := impl_right r B n cap A xs ps fs W (hF.below h.bel) hA (by omega) hn hp hf0 hf hfd
  rw [hx] at hr
  have HR := Lib.hid hr
  have HI := Lib.hid h
  have HA := Lib.hid hA
  have c2' : W.cell? ⟨q2, 0, none⟩ = some (ptr r) := h.b2.cell 0
  obtain ⟨z, hz0⟩ : ∃ z, z = rightB xs n ps fs := ⟨_, rfl⟩
  rw [← hz0] at HR ⊢
  clear hr h hA hp hf0 hf hfd hz0
  go_enter Try.func67, Try.ntmps67
  go_wp2_with fail
  refine HR.out.mono ?_
  rintro e W1 ⟨rfl, hb1'⟩
  have HI1 := Lib.hid (HI.out.far h0 h2 h3 hc1 hc2 hb0 (hb1'.mono hz) hz)
  have HK1 : Hid (Kp H0 W W1) := Kp.of_below hb1'
  have c3 : W1.cell? ⟨q3, 0, none⟩ = some (.func (.func 52) #[] #[ptr c1, ptr c2]) := HI1.out.b3.cell 0
  have HF1 := Lib.hid (impl_first1 w0 A cap r q2 q3 c1 c2 H0 b0 n xs W1 HI1.out (HA.out.below hb1') hx (by omega) h0 hc1 hc2 hb0 hw1 hw2 hne hb1 hb2)
  clear hb1' HR c2' HA hx
  cases z with
  | false =>
    go_wp2_with fail
    go_ret
    first | exact ⟨rfl, HI1.out, HK1.out⟩ | exact ⟨rfl, fun _ => HI1.out, fun e => (by cases e), HK1.out⟩
  | true =>
    go_wp2_with fail
    refine HF1.out.mono ?_
    rintro e W2 ⟨rfl, hJ, hk⟩
    have HJ := Lib.hid hJ
    have HK2 := Lib.hid (HK1.out.trans hk)
    clear hJ hk
    go_wp2_with fail
    go_ret
    first | exact ⟨rfl, HJ.out, HK2.out⟩ | exact ⟨rfl, fun e => (by cases e), fun _ => HJ.out, HK2.out⟩
set_option maxHeartbeats 2000000 in
set_option maxRecDepth 100000 in
theorem impl_eachLayersF (r B n c1 c2 b0 : Nat) (ps : List Int) (fs : List Fd) (w0 W : World) (hF : Flat w0 r B n ps fs) (hb : Below w0.heap.size w0 W) (hw0 : w0.heap.size ≤ b0) (hw1 : w0.heap.size ≤ c1) (hw2 : w0.heap.size ≤ c2) (hne : c1 ≠ c2) (hb1 : b0 ≠ c1) (hb2 : b0 ≠ c2) (hb0 : b0 < W.heap.size) (hK1 : Blk W c1 23 #[.slice (some ⟨b0, 0, none⟩) 0 0]) (hO : Own W w0.heap.size (.slice (some ⟨b0, 0, none⟩) 0 0) []) (hK2 : Blk W c2 4 #[.bool false]) (hn : n ≤ 6) (hp : ps.length = n + 1) (hf0 : fs ≠ []) (hf : fs.length ≤ 1000) (hfd : ∀ f ∈ fs, f.1 < n ∧ f.2.1 < n) :
    Calls Try.prog 51 #[ptr r, .func (.func 52) #[] #[ptr c1, ptr c2]] W fun e W' => e = .returned (.tuple #[]) ∧ (∀ L, (genO n n []).find? (fun L => rightB L n ps fs) = some L → FsJ w0 c1 c2 L W') ∧ ((genO n n []).find? (fun L => rightB L n ps fs) = none → ∃ q2 q3, FsI w0 r q2 q3 c1 c2 (.slice (some ⟨b0, 0, none⟩) 0 0) W') := by
  have hFW := hF.below hb
  obtain ⟨bp, op, cp, bf, of, cf, hR⟩ := hFW.read (by intro e; rw [e] at hp; simp at hp) hf0
  have hcl1 := hK1.lt
  have hcl2 := hK2.lt
  have hrl := hR.blk.lt
  have hsz := hb.size
  have hI0 : FsI w0 r W.heap.size (W.heap.size + 1) c1 c2 (.slice (some ⟨b0, 0, none⟩) 0 0) ((W.alloc (.cells #[ptr r] 44)).alloc (.cells #[.func (.func 52) #[] #[ptr c1, ptr c2]] 27)) :=
    ⟨(hb.alloc hsz _).alloc (Nat.le_trans hsz (by simp)) _, (Blk.new W _ _).alloc _, by have := Blk.new (W.alloc (.cells #[ptr r] 44)) 27 #[.func (.func 52) #[] #[ptr c1, ptr c2]]; simpa using this, (hK1.alloc _).alloc _, (hO.alloc _).alloc _, (hK2.alloc _).alloc _⟩
  have hR2 : Blk ((W.alloc (.cells #[ptr r] 44)).alloc (.cells #[.func (.func 52) #[] #[ptr c1, ptr c2]] 27)) r 68 #[.int .i64 n, .slice (some ⟨bp, op, none⟩) ps.length cp, .slice (some ⟨bf, of, none⟩) fs.length cf] := (hR.blk.alloc _).alloc _
  have hsz2 : ((W.alloc (.cells #[ptr r] 44)).alloc (.cells #[.func (.func 52) #[] #[ptr c1, ptr c2]] 27)).heap.size = W.heap.size + 2 := by simp
  obtain ⟨q2, hq2⟩ : ∃ q, q = W.heap.size := ⟨_, rfl⟩
  obtain ⟨q3, hq3⟩ : ∃ q, q = W.heap.size + 1 := ⟨_, rfl⟩
  have HF := Lib.hid hF
  have HFD := Lib.hid hfd
  have HF0 := Lib.hid hf0
  have HP := Lib.hid hp
  have HFL := Lib.hid hf
  obtain ⟨fo, hfo⟩ : ∃ fo, fo = (genO n n []).find? (fun L => rightB L n ps fs) := ⟨_, rfl⟩
  rw [← hfo]
  have HFO := Lib.hid hfo
  clear hF hFW hR hfd hf0 hp hf hK1 hK2 hO hb hfo
  go_enter Try.func51, Try.ntmps51
  go_upto_region 1 with (fail)
  obtain ⟨W2, hW2⟩ : ∃ W2, W2 = (W.alloc (.cells #[ptr r] 44)).alloc (.cells #[.func (.func 52) #[] #[ptr c1, ptr c2]] 27) := ⟨_, rfl⟩
  rw [← hW2] at hI0 hR2 hsz2 ⊢
  rw [← hq3] at hI0 ⊢
  rw [← hq2] at hI0 ⊢
  clear hW2
  obtain ⟨i0, hi, hz0, hz1, hz2⟩ := info_parts Try.infoInt
  obtain ⟨w1, hrun, hown1, hg1⟩ := run_make_own (P := Try.prog) W2 W2.heap.size 23 3 i0 (.int .i64 0) 1 Try.underlying23 hi hz0 hz1 .i64 .i64 n (by rw [hz2]; omega) (by unfold maxLen; omega) (Nat.le_refl _)
  have HRun : Hid ((Instr.makeSlice 23 (.int .i64 0) (.int .i64 n)).run Try.prog W2 = .ok (.slice (some ⟨W2.heap.size, 0, none⟩) 0 n) w1) := by
    show _ = _
    have := hrun
    simpa using this
  have hb1' : Below W2.heap.size W2 w1 := fal_of_new hg1 rfl
  obtain ⟨j0, hj, hy0, hy1, hy2⟩ := info_parts Try.infoBool
  obtain ⟨w3, hrun3, ho3, hg3⟩ := run_make_full (P := Try.prog) w1 W2.heap.size 83 4 j0 (.bool false) 1 Try.underlying83 hj hy0 hy1 .i64 .i64 n (by rw [hy2]; omega) (by unfold maxLen; omega) hb1'.size
  rw [made_zeroB] at ho3
  have HRun3 := Lib.hid hrun3
  have hb3 : Below w1.heap.size w1 w3 := fal_of_new hg3 rfl
  have hgo : W2.heap.size < w1.heap.size := by
    have h1 := (hown1.lt W2.heap.size rfl).2
    exact h1
  have ho4 : OwnJ w3 W2.heap.size (.slice (some ⟨W2.heap.size, 0, none⟩) 0 n) 0 [] := own_below2' hown1 hb3
  have hu4 : OwnBo w3 W2.heap.size (.slice (some ⟨w1.heap.size, 0, none⟩) n n) n (usL n []) := by
    have : usL n [] = List.replicate n false := by
      apply List.ext_getElem
      · simp [usL]
      · intro i h1 h2; simp [usL]
    show World.ownsRow _ _ _ _ _ _ _
    rw [this]; exact ho3
  have hb4 : Below W2.heap.size W2 w3 := hb1'.trans (hb3.mono hb1'.size)
  have hI4 : FsI w0 r q2 q3 c1 c2 (.slice (some ⟨b0, 0, none⟩) 0 0) w3 := hI0.far (by omega) (by omega) (by omega) (by omega) (by omega) (by omega) hb4 (Nat.le_refl _)
  have c2' : W2.cell? ⟨q2, 0, none⟩ = some (ptr r) := hI0.b2.cell 0
  have c3 : w1.cell? ⟨q2, 0, none⟩ = some (ptr r) := (hI0.b2.below hb1' hI0.b2.lt).cell 0
  have c4 : W2.cell? ⟨r, 0, none⟩ = some (.int .i64 n) := hR2.cell 0
  have c5 : w1.cell? ⟨r, 0, none⟩ = some (.int .i64 n) := (hR2.below hb1' hR2.lt).cell 0
  have HEO := Lib.hid (impl_eachOrderF W2.heap.size W2.heap.size w1.heap.size n q2 q3 (fun L => rightB L n ps fs) (fun V => FsI w0 r q2 q3 c1 c2 (.slice (some ⟨b0, 0, none⟩) 0 0) V ∧ W2.heap.size ≤ V.heap.size) (fun L V => FsJ w0 c1 c2 L V)
    (fun V V' h hb => ⟨h.1.far (by omega) (by omega) (by omega) (by omega) (by omega) (by omega) hb h.2, Nat.le_trans h.2 hb.size⟩)
    (fun L us V V' h hu hg => by
      obtain ⟨v, hv1, hv2⟩ := h.k1
      refine ⟨h.bel.grown hg h.bel.size (fun g e => by cases e; omega), ⟨v, hv1.grown hg (fun e => by have := Option.some.inj e; omega), hv2.kept hg (Or.inr ?_)⟩, h.k2.grown hg (fun e => by have := Option.some.inj e; omega)⟩
      have := own_ne hv2 hu (by decide)
      rcases this with e | e
      · rw [e]; exact fun h => by cases h
      · exact e)
    (fun V h => h.2) (by omega) (by omega)
    (fun V cap xs h hx _ hA => by
      refine (impl_eachLayers1F w0 _ cap r B q2 q3 c1 c2 W2.heap.size b0 n xs ps fs V HF.out h.1 hA hx (by omega) HP.out HF0.out HFL.out HFD.out (by omega) (by omega) (by omega) (by omega) (by omega) (by omega) hw1 hw2 hne hb1 hb2 h.2).mono ?_
      rintro e V' ⟨he, g1, g2, g3⟩
      exact ⟨he, fun e => ⟨g1 e, Nat.le_trans h.2 g3.1⟩, g2, g3⟩)
    n [] w3 (by simp) (by intro x hx; cases hx) ho4 hu4 ⟨hI4, hb4.size⟩)
  clear hi hz0 hz1 hz2 hrun hown1 hg1 hj hy0 hy1 hy2 hrun3 ho3 hg3 hb1' hb3 hgo ho4 hu4 hb4 hI4 hI0 hR2 hsz2 hq2 hq3
  rw [← HFO.out] at HEO
  go_wp2_with fail
  rw [HRun.out]
  go_wp2_with fail
  rw [HRun3.out]
  go_wp2_with fail
  refine HEO.out.mono ?_
  rintro e W5 ⟨rfl, _, _, h5, h6⟩
  have H5 := Lib.hid h5
  have H6 := Lib.hid h6
  clear h5 h6
  go_wp2_with fail
  go_end0
  exact ⟨rfl, H5.out, fun e => ⟨q2, q3, (H6.out e).1⟩⟩
end Go.Proofs.Ytngpeehjjcgmmaa
namespace Go.Proofs.Ytngpeehjjcgmmaa
open Go.RowKit

set_option maxHeartbeats 1000000 in
set_option maxRecDepth 100000 in
theorem impl_firstLayers (r B n : Nat) (ps : List Int) (fs : List Fd) (w : World) (hF : Flat w r B n ps fs) (hn : n ≤ 6) (hp : ps.length = n + 1) (hf0 : fs ≠ []) (hf : fs.length ≤ 1000) (hfd : ∀ f ∈ fs, f.1 < n ∧ f.2.1 < n) :
    Calls Try.prog 30 #[ptr r] w fun e w' => ∃ v, e = .returned (.tuple #[v, .bool ((genO n n []).find? (fun L => rightB L n ps fs)).isSome]) ∧ Own w' w.heap.size v (((genO n n []).find? (fun L => rightB L n ps fs)).getD []) ∧ Below w.heap.size w w' := by
  obtain ⟨W, hW⟩ : ∃ W, W = ((w.alloc (.cells #[] 3)).alloc (.cells #[.slice (some ⟨w.heap.size, 0, none⟩) 0 0] 23)).alloc (.cells #[.bool false] 4) := ⟨_, rfl⟩
  have e1 : w.heap.size + 1 = (w.alloc (.cells #[] 3)).heap.size := by simp
  have e2 : w.heap.size + 2 = ((w.alloc (.cells #[] 3)).alloc (.cells #[.slice (some ⟨w.heap.size, 0, none⟩) 0 0] 23)).heap.size := by simp
  have hb : Below w.heap.size w W := by rw [hW]; exact (((Below.refl _ _).alloc (Nat.le_refl _) _).alloc (by simp) _).alloc (by simp; omega) _
  have hK1 : Blk W (w.heap.size + 1) 23 #[.slice (some ⟨w.heap.size, 0, none⟩) 0 0] := by rw [hW, e1]; exact (Blk.new _ _ _).alloc _
  have hK2 : Blk W (w.heap.size + 2) 4 #[.bool false] := by rw [hW, e2]; exact Blk.new _ _ _
  have hO : Own W w.heap.size (.slice (some ⟨w.heap.size, 0, none⟩) 0 0) [] := by rw [hW]; exact ((own_empty w (Nat.le_refl _)).alloc _).alloc _
  have hsz : W.heap.size = w.heap.size + 3 := by rw [hW]; simp
  have HE := Lib.hid (impl_eachLayersF r B n (w.heap.size + 1) (w.heap.size + 2) w.heap.size ps fs w W hF hb (Nat.le_refl _) (by omega) (by omega) (by omega) (by omega) (by omega) (by omega) hK1 hO hK2 hn hp hf0 hf hfd)
  obtain ⟨fo, hfo⟩ : ∃ fo, fo = (genO n n []).find? (fun L => rightB L n ps fs) := ⟨_, rfl⟩
  rw [← hfo] at HE ⊢
  have HWW := Lib.hid hW
  clear hF hp hf0 hf hfd hK1 hK2 hO hb hfo e1 e2 hW
  go_enter Try.func30, Try.ntmps30
  go_upto_region 3 with (fail)
  rw [← HWW.out]
  clear HWW
  go_wp2_with fail
  refine HE.out.mono ?_
  rintro e W1 ⟨rfl, h1, h2⟩
  cases fo with
  | none =>
    obtain ⟨q2, q3, hI⟩ := h2 rfl
    have HI := Lib.hid hI
    have m1 : W1.cell? ⟨w.heap.size + 1, 0, none⟩ = some (.slice (some ⟨w.heap.size, 0, none⟩) 0 0) := hI.k1.cell 0
    have m2 : W1.cell? ⟨w.heap.size + 2, 0, none⟩ = some (.bool false) := hI.k2.cell 0
    clear h1 h2 hI HE
    go_wp2_with fail
    go_quiet (fail)
    go_wp2_with fail
    go_ret2
    exact ⟨_, rfl, (show Own (W1.drewN _) _ _ _ from own_below2' HI.out.own (below_drewN (Below.refl _ _) _)), below_drewN HI.out.bel _⟩
  | some L =>
    have hJ := h1 L rfl
    have HJ := Lib.hid hJ
    obtain ⟨v, hk, ho⟩ := hJ.k1
    obtain ⟨A, c, rfl, _⟩ := Own.form ho
    have HO := Lib.hid ho
    have m1 : W1.cell? ⟨w.heap.size + 1, 0, none⟩ = some (.slice A L.length c) := hk.cell 0
    have m2 : W1.cell? ⟨w.heap.size + 2, 0, none⟩ = some (.bool true) := hJ.k2.cell 0
    clear h1 h2 hJ HE hk ho
    go_wp2_with fail
    go_quiet (fail)
    go_wp2_with fail
    go_ret2
    exact ⟨_, rfl, (show Own (W1.drewN _) _ _ _ from own_below2' HO.out (below_drewN (Below.refl _ _) _)), below_drewN HJ.out.bel _⟩
/-- the first right layers of a ring -/
def rfirst (xs : List Int) (s : ByteArray) : Option (List Int) := (genO xs.length xs.length []).find? fun L => rightB L xs.length (plcL xs) (fdR xs s xs.length xs.length)
theorem rfirst_some (xs : List Int) (s : ByteArray) : (rfirst xs s).isSome = true ↔ 0 < rmany xs s := by
  unfold rfirst rmany
  rw [rcount_pos, List.find?_isSome]
theorem rfirst_right {xs : List Int} {s : ByteArray} {L : List Int} (h : rfirst xs s = some L) : rightB L xs.length (plcL xs) (fdR xs s xs.length xs.length) = true :=
  List.find?_some (p := fun L => rightB L xs.length (plcL xs) (fdR xs s xs.length xs.length)) h
theorem right_len {L : List Int} {n : Nat} {ps : List Int} {fs : List Fd} (h : rightB L n ps fs = true) : L.length = n := by
  unfold rightB okL at h
  simp only [Bool.and_eq_true, decide_eq_true_eq] at h
  exact h.1.1
set_option maxHeartbeats 1000000 in
set_option maxRecDepth 100000 in
theorem impl_RingFirst (A : Option Addr) (cap : Nat) (xs : List Int) (s : ByteArray) (w : World) (h : Ints w A xs) (hr : rvB xs s.data.toList = true) :
    Calls Try.prog 9 #[.slice A xs.length cap, .string s] w fun e w' => ∃ v, e = .returned (.tuple #[v, .bool (rfirst xs s).isSome]) ∧ Own w' w.heap.size v ((rfirst xs s).getD []) ∧ Below w.heap.size w w' := by
  have hrr := hr
  unfold rvB at hrr
  simp only [Bool.and_eq_true, decide_eq_true_eq] at hrr
  obtain ⟨⟨⟨h1, h2⟩, h3⟩, h5⟩ := hrr
  obtain ⟨l1, l6, hx⟩ := lvB_parts h1
  have hss : s.size = xs.length := fvB_size h3
  have HV := Lib.hid (impl_RingValid A cap xs s w h (by unfold maxLen; omega) (by unfold maxLen; omega))
  have HF := Lib.hid (impl_flatRing A cap xs s w h (by omega) (fun x hm => ⟨by have := (hx x hm).1; omega, (hx x hm).2⟩) hss)
  have HC := Lib.hid (fun (r : Nat) (W : World) (hF : Flat W r w.heap.size xs.length (plcL xs) (fdR xs s xs.length xs.length)) => impl_firstLayers r w.heap.size xs.length (plcL xs) (fdR xs s xs.length xs.length) W hF (by omega) (plcL_len xs) (by intro e; have := congrArg List.length e; rw [fdR_len, List.length_nil] at this; omega) (by rw [fdR_len]; omega) (fdR_mem (Nat.le_refl _)))
  rw [hr] at HV
  have hfo : rfirst xs s = (genO xs.length xs.length []).find? (fun L => rightB L xs.length (plcL xs) (fdR xs s xs.length xs.length)) := rfl
  obtain ⟨z, hz⟩ : ∃ z, z = (genO xs.length xs.length []).find? (fun L => rightB L xs.length (plcL xs) (fdR xs s xs.length xs.length)) := ⟨_, rfl⟩
  rw [← hz] at HC hfo
  rw [hfo]
  clear h1 h2 h3 h5 hx hr h hz hfo
  go_enter Try.func9, Try.ntmps9
  go_wp2_with fail
  refine HV.out.mono ?_
  rintro e w' ⟨rfl, rfl⟩
  go_wp2_with fail
  refine HF.out.mono ?_
  rintro e w1 ⟨r, rfl, hF, hb1⟩
  have HFF := Lib.hid (HC.out r w1 hF)
  have HB := Lib.hid hb1
  clear hF hb1 HF HC
  go_wp2_with fail
  refine HFF.out.mono ?_
  rintro e w2 ⟨v, rfl, ho, hb2⟩
  have HB2 := Lib.hid (HB.out.trans (hb2.mono HB.out.size))
  have HO : Hid (Own w2 w.heap.size v (z.getD [])) := by
    show World.ownsRow _ _ _ _ _ _ _
    refine ⟨ho.1, ?_⟩
    rcases ho.2 with e | ⟨g, cp, cur, e1, e2, e3⟩
    · exact Or.inl e
    · exact Or.inr ⟨g, cp, cur, e1, Nat.le_trans HB.out.size e2, e3⟩
  clear hb2 ho
  go_wp2_with fail
  go_ret2
  exact ⟨_, rfl, HO.out, HB2.out⟩
set_option maxHeartbeats 1000000 in
set_option maxRecDepth 100000 in
theorem impl_RingLayers (A A' : Option Addr) (cap cap' : Nat) (xs L : List Int) (s : ByteArray) (w : World) (h : Ints w A xs) (hL : Ints w A' L) (hLl : L.length ≤ 1000) (hr : rvB xs s.data.toList = true) :
    Calls Try.prog 14 #[.slice A xs.length cap, .string s, .slice A' L.length cap'] w fun e w' => e = .returned (.bool (rightB L xs.length (plcL xs) (fdR xs s xs.length xs.length))) ∧ Below w.heap.size w w' := by
  have hrr := hr
  unfold rvB at hrr
  simp only [Bool.and_eq_true, decide_eq_true_eq] at hrr
  obtain ⟨⟨⟨h1, h2⟩, h3⟩, h5⟩ := hrr
  obtain ⟨l1, l6, hx⟩ := lvB_parts h1
  have hss : s.size = xs.length := fvB_size h3
  have HV := Lib.hid (impl_RingValid A cap xs s w h (by unfold maxLen; omega) (by unfold maxLen; omega))
  have HF := Lib.hid (impl_flatRing A cap xs s w h (by omega) (fun x hm => ⟨by have := (hx x hm).1; omega, (hx x hm).2⟩) hss)
  have HC := Lib.hid (fun (r : Nat) (W : World) (hF : Flat W r w.heap.size xs.length (plcL xs) (fdR xs s xs.length xs.length)) (hb : Below w.heap.size w W) => impl_right r w.heap.size xs.length cap' A' L (plcL xs) (fdR xs s xs.length xs.length) W hF (hL.below hb) hLl (by omega) (plcL_len xs) (by intro e; have := congrArg List.length e; rw [fdR_len, List.length_nil] at this; omega) (by rw [fdR_len]; omega) (fdR_mem (Nat.le_refl _)))
  rw [hr] at HV
  obtain ⟨z, hz⟩ : ∃ z, z = rightB L xs.length (plcL xs) (fdR xs s xs.length xs.length) := ⟨_, rfl⟩
  rw [← hz] at HC ⊢
  clear h1 h2 h3 h5 hx hr h hz hL
  go_enter Try.func14, Try.ntmps14
  go_wp2_with fail
  refine HV.out.mono ?_
  rintro e w' ⟨rfl, rfl⟩
  go_wp2_with fail
  refine HF.out.mono ?_
  rintro e w1 ⟨r, rfl, hF, hb1⟩
  have HFF := Lib.hid (HC.out r w1 hF hb1)
  have HB := Lib.hid hb1
  clear hF hb1 HF HC
  go_wp2_with fail
  refine HFF.out.mono ?_
  rintro e w2 ⟨rfl, hb2⟩
  have HB2 := Lib.hid (HB.out.trans (hb2.mono HB.out.size))
  clear hb2
  go_wp2_with fail
  go_ret
  exact ⟨rfl, HB2.out⟩
end Go.Proofs.Ytngpeehjjcgmmaa
namespace Go.Proofs.Ytngpeehjjcgmmaa
open Go.RowKit

/-- what a slice reads as, cell by cell -/
def RowV (w : World) (A : Option Addr) (L : List Value) : Prop :=
  L ≠ [] → ∃ b off, A = some ⟨b, off, none⟩ ∧ b < w.heap.size ∧ ∀ j u, L[j]? = some u → w.cell? ⟨b, off + j, none⟩ = some u
theorem RowV.nil (w : World) (A : Option Addr) : RowV w A [] := fun h => absurd rfl h
theorem RowV.below {w w' : World} {A : Option Addr} {L : List Value} (h : RowV w A L) (hb : Below w.heap.size w w') : RowV w' A L := by
  intro hn
  obtain ⟨b, off, e, hlt, hc⟩ := h hn
  exact ⟨b, off, e, Nat.lt_of_lt_of_le hlt hb.size, fun j u hj => (hb.cell (p := ⟨b, off + j, none⟩) hlt).trans (hc j u hj)⟩
theorem RowV.alloc {w : World} {A : Option Addr} {L : List Value} (h : RowV w A L) (o : Obj) : RowV (w.alloc o) A L :=
  h.below ((Below.refl _ _).alloc (Nat.le_refl _) o)
theorem RowV.of_own {w : World} {base : Nat} {e : TypeId} {z : Nat} {A : Option Addr} {n c : Nat} {L : List Value} (h : w.ownsRow base e z (.slice A n c) n L) : RowV w A L := by
  intro hn
  have hlen := h.1
  rcases h.2 with ⟨_, h0⟩ | ⟨g, cap, cur, hv, hb, hg, hnc, _, _, htake⟩
  · exfalso; apply hn; apply List.eq_nil_of_length_eq_zero; rw [hlen, h0]; simp
  · injection hv with hA
    subst hA
    refine ⟨g, 0, rfl, (Array.getElem?_eq_some_iff.1 hg).1, fun k x hx => ?_⟩
    have := h.cells (g := g) rfl k x hx
    rw [← this]
    congr 1
    unfold Addr.add
    split
    · next h0 => subst h0; simp
    · simp
theorem RowV.news {w : World} {A : Option Addr} {L : List Value} (h : RowV w A L) : ∀ a, A = some a → ∀ j u, L[j]? = some u → w.cell? (a.add j) = some u := by
  intro a ha j u hj
  obtain ⟨b, off, e, _, hc⟩ := h (show L ≠ [] from fun e => by rw [e] at hj; simp at hj)
  rw [ha] at e
  have e2 : a = ⟨b, off, none⟩ := Option.some.inj e
  rw [e2, Addr.add_lit]
  exact hc j u hj
theorem RowV.none_ {w : World} {L : List Value} (h : RowV w none L) : L = [] := by
  apply Classical.byContradiction
  intro hne
  obtain ⟨b, off, e, _⟩ := h hne
  cases e
theorem own_belowX {w w' : World} {B : Nat} {e : TypeId} {z n : Nat} {v : Value} {xs : List Value} (h : w.ownsRow B e z v n xs) (hb : Below w.heap.size w w') : w'.ownsRow B e z v n xs :=
  h.kept (row := none) ⟨hb.os, hb.tape, hb.output, hb.size, fun i hi _ => hb.block i hi⟩ (by cases hv : v.ownBlock <;> simp)
/-- the form of an own row -/
theorem own_formX {w : World} {B : Nat} {e : TypeId} {z n : Nat} {v : Value} {L : List Value} (h : w.ownsRow B e z v n L) : ∃ A c, v = .slice A n c ∧ RowV w A L ∧ n ≤ c ∧ c ≤ maxLen := by
  rcases h.2 with ⟨rfl, h0⟩ | ⟨g, cap, cur, rfl, hb, hg, hnc, hcm, _, _⟩
  · exact ⟨none, 0, by rw [h0], by rw [List.eq_nil_of_length_eq_zero (show L.length = 0 by rw [h.1, h0]; simp)]; exact RowV.nil _ _, by omega, by simp [maxLen]⟩
  · exact ⟨_, cap, rfl, RowV.of_own h, hnc, hcm⟩
def MovedX (W : World) (v v' : Value) : Prop := v'.ownBlock = v.ownBlock ∨ ∀ g, v'.ownBlock = some g → W.heap.size ≤ g
theorem RowV.lit (W : World) (L : List Value) (t : TypeId) : RowV (W.alloc (.cells L.toArray t)) (some ⟨W.heap.size, 0, none⟩) L := by
  intro _
  refine ⟨W.heap.size, 0, rfl, by simp, fun j u hj => ?_⟩
  have hK := Blk.new W t L.toArray
  rw [Nat.zero_add, hK.cell j]
  simpa using hj
end Go.Proofs.Ytngpeehjjcgmmaa
