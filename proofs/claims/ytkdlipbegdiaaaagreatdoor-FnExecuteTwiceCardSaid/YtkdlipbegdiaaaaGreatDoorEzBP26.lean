/- Parts laid flat: whether a place is inside a part, whether two folds cross. No condition but sizes. Parts laid flat: are layers right. No condition but sizes. -/
import Derived.Test.YtkdlipbegdiaaaaGreatDoorEzBP25
namespace Go.Proofs.YtkdlipbegdiaaaaGreatDoor
open Go.RowKit
/-- is a place inside of a part -/
def insB (ps : List Int) (p : Int) (k : Nat) : Bool := betB p (ps.getD k 0) (ps.getD (k + 1) 0)
/-- do two folds cross -/
def crossB (lv : List Int) (f g : Fd) : Bool := (f.2.2.1 == g.2.2.1) && (f.2.1 % 2 == g.2.1 % 2) && (betB (lv.getD g.1 0) (lv.getD f.1 0) (lv.getD f.2.1 0) != betB (lv.getD g.2.1 0) (lv.getD f.1 0) (lv.getD f.2.1 0))
theorem getD_of {xs : List Int} {k : Nat} (h : k < xs.length) : xs[k]? = some (xs.getD k 0) := by
  rw [List.getD_eq_getElem?_getD, List.getElem?_eq_getElem h]; rfl
set_option maxHeartbeats 1000000 in
set_option maxRecDepth 100000 in
theorem impl_inside (r B n k : Nat) (p : Int) (ps : List Int) (fs : List Fd) (w : World) (h : Flat w r B n ps fs) (hk : k + 1 < ps.length) (hl : ps.length ≤ 1000) :
    Calls Tryz.prog 95 #[ptr r, .int .i64 p, .int .i64 k] w fun e w' => e = .returned (.bool (insB ps p k)) ∧ ∃ m, w.drewN m = w' := by
  obtain ⟨Ap, cp, Vf, h1, h2, h3, h4⟩ := h
  have c1 : w.cell? ⟨r, 1, none⟩ = some (.slice Ap ps.length cp) := h1.cell 1
  obtain ⟨bp, op, rfl, hbp, hcp⟩ := (show Ints w Ap ps from by obtain ⟨_, _, e, hI, _, _⟩ := h2.form; cases e; exact hI) (by intro e; rw [e] at hk; simp at hk)
  have r1 := hcp k _ (getD_of (by omega))
  have r2 : w.cell? ⟨bp, op + (k + 1), none⟩ = _ := hcp (k + 1) _ (getD_of (by omega))
  obtain ⟨x, hx⟩ : ∃ x, x = ps.getD k 0 := ⟨_, rfl⟩
  obtain ⟨y, hy⟩ : ∃ y, y = ps.getD (k + 1) 0 := ⟨_, rfl⟩
  have HI : Hid (insB ps p k = betB p x y) := by show _ = _; unfold insB; rw [hx, hy]
  rw [← hx] at r1
  rw [← hy] at r2
  have k1 : (k : Int) < (ps.length : Int) := by omega
  have k2 : ((k + 1 : Nat) : Int) < (ps.length : Int) := by omega
  have k3 : (k : Int) + 1 < (ps.length : Int) := by omega
  have k4 : IntKind.i64.wrap ((k : Int) + 1) = (k : Int) + 1 := IntWalk.i64_in _ (by omega)
  have k5 : ((k : Int) + 1).toNat = k + 1 := by omega
  have k6 : (0 : Int) ≤ (k : Int) := by omega
  have k7 : (0 : Int) ≤ (k : Int) + 1 := by omega
  have HB := Lib.hid (fun W => impl_isBetween p x y W)
  clear h1 h2 h3 hcp hx hy
  go_enter Tryz.func95, Tryz.ntmps95
  go_wp2_with fail
  go_quiet ((go_at_call 94; exact quietl (HB.out _)))
  go_wp2_with fail
  go_ret
  exact ⟨ret_bool (by rw [HI.out]), _, rfl⟩
set_option maxHeartbeats 1000000 in
set_option maxRecDepth 100000 in
theorem impl_crossed (A : Option Addr) (cap a b a' b' : Nat) (p p' : Int) (z z' : Bool) (lv : List Int) (w : World) (h : Ints w A lv) (ha : a < lv.length) (hb : b < lv.length) (ha' : a' < lv.length) (hb' : b' < lv.length) (_hl : lv.length ≤ 1000) :
    Calls Tryz.prog 96 #[.agg #[.int .i64 a, .int .i64 b, .int .i64 p, .bool z], .agg #[.int .i64 a', .int .i64 b', .int .i64 p', .bool z'], .slice A lv.length cap] w fun e w' => e = .returned (.bool (crossB lv (a, b, p, z) (a', b', p', z'))) ∧ Below w.heap.size w w' := by
  obtain ⟨m1, m1'⟩ := mod2z b
  obtain ⟨m2, m2'⟩ := mod2z b'
  by_cases e1 : p = p'
  · subst e1
    have d1 : (p != p) = false := by simp
    by_cases e2 : b % 2 = b' % 2
    · obtain ⟨q, hq⟩ : ∃ q, q = b' % 2 := ⟨_, rfl⟩
      rw [e2, ← hq] at m1 m1'
      rw [← hq] at m2 m2'
      have d2 : ((q : Int) != (q : Int)) = false := by simp
      obtain ⟨c, off, rfl, hc, hcell⟩ := h (by intro e; rw [e] at ha; simp at ha)
      have hW : ∀ W : World, Below w.heap.size w W → ∀ k, k < lv.length → W.cell? ⟨c, off + k, none⟩ = some (.int .i64 (lv.getD k 0)) := fun W hbW k hk => (hbW.cell (p := ⟨c, off + k, none⟩) hc).trans (hcell k _ (getD_of hk))
      obtain ⟨v1, hv1⟩ : ∃ v, v = lv.getD a 0 := ⟨_, rfl⟩
      obtain ⟨v2, hv2⟩ : ∃ v, v = lv.getD b 0 := ⟨_, rfl⟩
      obtain ⟨v3, hv3⟩ : ∃ v, v = lv.getD a' 0 := ⟨_, rfl⟩
      obtain ⟨v4, hv4⟩ : ∃ v, v = lv.getD b' 0 := ⟨_, rfl⟩
      have HR : Hid (crossB lv (a, b, p, z) (a', b', p, z') = (betB v3 v1 v2 != betB v4 v1 v2)) := by
        show _ = _
        unfold crossB
        rw [hv1, hv2, hv3, hv4]
        simp [e2]
      have hb2 : Below w.heap.size w ((w.alloc (.cells #[.int .i64 a, .int .i64 b, .int .i64 p, .bool z] 81)).alloc (.cells #[.int .i64 a', .int .i64 b', .int .i64 p, .bool z'] 81)) := ((Below.refl _ _).alloc (Nat.le_refl _) _).alloc (by simp) _
      have r1 := hW _ hb2 a ha
      have r2 := hW _ hb2 b hb
      have r3 := hW _ hb2 a' ha'
      have r4 := hW _ hb2 b' hb'
      rw [← hv1] at r1
      rw [← hv2] at r2
      rw [← hv3] at r3
      rw [← hv4] at r4
      have n1 : (a : Int) < (lv.length : Int) := by omega
      have n2 : (b : Int) < (lv.length : Int) := by omega
      have n3 : (a' : Int) < (lv.length : Int) := by omega
      have n4 : (b' : Int) < (lv.length : Int) := by omega
      have HB := Lib.hid hb2
      have HT := Lib.hid (fun l W => impl_isBetween l v1 v2 W)
      clear hW hv1 hv2 hv3 hv4 hcell hb2 e2 hq
      go_enter Tryz.func96, Tryz.ntmps96
      go_wp2_with fail
      go_quiet (fail)
      go_wp2_with fail
      go_quiet ((go_at_call 94; exact (HT.out _ _).mono fun _ _ hh => ⟨hh.1, _, hh.2.symm⟩))
      go_wp2_with fail
      go_ret
      exact ⟨ret_bool (by rw [HR.out]; cases betB v3 v1 v2 <;> cases betB v4 v1 v2 <;> rfl), below_drewN (below_drewN HB.out _) _⟩
    · obtain ⟨q1, hq1⟩ : ∃ q, q = b % 2 := ⟨_, rfl⟩
      obtain ⟨q2, hq2⟩ : ∃ q, q = b' % 2 := ⟨_, rfl⟩
      have d2 : ((q1 : Int) != (q2 : Int)) = true := by rw [bne_iff_ne]; omega
      rw [← hq1] at m1 m1'
      rw [← hq2] at m2 m2'
      have HR : Hid (crossB lv (a, b, p, z) (a', b', p, z') = false) := by
        show _ = _
        unfold crossB
        simp [e2]
      clear e2 hq1 hq2
      go_enter Tryz.func96, Tryz.ntmps96
      go_wp2_with fail
      go_ret
      exact ⟨ret_bool (by rw [HR.out]), ((Below.refl _ _).alloc (Nat.le_refl _) _).alloc (by simp) _⟩
  · have d1 : (p != p') = true := by rw [bne_iff_ne]; exact e1
    have HR : Hid (crossB lv (a, b, p, z) (a', b', p', z') = false) := by
      show _ = _
      unfold crossB
      rw [show (p == p') = false from by rw [beq_eq_false_iff_ne]; exact e1]; rfl
    clear e1
    go_enter Tryz.func96, Tryz.ntmps96
    go_wp2_with fail
    go_ret
    exact ⟨ret_bool (by rw [HR.out]), ((Below.refl _ _).alloc (Nat.le_refl _) _).alloc (by simp) _⟩
end Go.Proofs.YtkdlipbegdiaaaaGreatDoor
namespace Go.Proofs.YtkdlipbegdiaaaaGreatDoor
open Go.RowKit
/-- may the part i lie where it lies, beside the fold f -/
def partOk (lv ps : List Int) (f : Fd) (i : Nat) : Bool := !(betB (lv.getD i 0) (lv.getD f.1 0) (lv.getD f.2.1 0) && insB ps f.2.2.1 i)
def partsTo (lv ps : List Int) (f : Fd) : Nat → Bool
  | 0 => true
  | i + 1 => partsTo lv ps f i && partOk lv ps f i
theorem partsTo_bad {lv ps : List Int} {f : Fd} {i n : Nat} (hi : i < n) (h : partOk lv ps f i = false) : partsTo lv ps f n = false := by
  induction n with
  | zero => omega
  | succ n ih =>
    rw [partsTo]
    by_cases e : i = n
    · subst e; rw [h, Bool.and_false]
    · rw [ih (by omega), Bool.false_and]
def pairOk (lv : List Int) (f g : Fd) : Bool := !(crossB lv f g || crossB lv g f)
def foldOk (lv ps : List Int) (n : Nat) (f : Fd) (rest : List Fd) : Bool := (decide (lv.getD f.1 0 < lv.getD f.2.1 0) == f.2.2.2) && partsTo lv ps f n && rest.all (pairOk lv f)
def rightGo (lv ps : List Int) (n : Nat) : List Fd → Bool
  | [] => true
  | f :: r => foldOk lv ps n f r && rightGo lv ps n r
/-- are the layers L right -/
def rightB (L : List Int) (n : Nat) (ps : List Int) (fs : List Fd) : Bool := okL L n && rightGo (lvTo L n n) ps n fs
/-- parts laid flat, to be read -/
structure FlatR (w : World) (r n : Nat) (ps : List Int) (fs : List Fd) (bp op cp bf of cf : Nat) : Prop where
  blk : Blk w r 67 #[.int .i64 n, .slice (some ⟨bp, op, none⟩) ps.length cp, .slice (some ⟨bf, of, none⟩) fs.length cf]
  lp : bp < w.heap.size
  lf : bf < w.heap.size
  cap : fs.length ≤ cf
  rf : ∀ k (hk : k < fs.length), w.cell? ⟨bf, of + k * 4, none⟩ = some (.int .i64 fs[k].1) ∧ w.cell? ⟨bf, of + k * 4 + 1, none⟩ = some (.int .i64 fs[k].2.1) ∧ w.cell? ⟨bf, of + k * 4 + 2, none⟩ = some (.int .i64 fs[k].2.2.1) ∧ w.cell? ⟨bf, of + k * 4 + 3, none⟩ = some (.bool fs[k].2.2.2)
theorem Flat.read {w : World} {r B n : Nat} {ps : List Int} {fs : List Fd} (h : Flat w r B n ps fs) (hp : ps ≠ []) (hf : fs ≠ []) : ∃ bp op cp bf of cf, FlatR w r n ps fs bp op cp bf of cf := by
  obtain ⟨Ap, cp, Vf, h1, h2, h3, h4⟩ := h
  obtain ⟨bp, op, rfl, hbp, hcp⟩ := (show Ints w Ap ps from by obtain ⟨_, _, e, hI, _, _⟩ := h2.form; cases e; exact hI) hp
  obtain ⟨bf, cf, rfl, _, hlt⟩ := World.ownsRow.form h3 (List.length_pos_iff.2 hf)
  have hcap : fs.length ≤ cf := by
    rcases h3.2 with ⟨e, _⟩ | ⟨g', cap', cur, e, _, _, hnc, _, _, _⟩
    · cases e
    · cases e; exact hnc
  refine ⟨bp, op, cp, bf, 0, cf, h1, hbp, hlt, hcap, fun k hk => ?_⟩
  have key : ∀ j, j < 4 → w.cell? ⟨bf, 0 + k * 4 + j, none⟩ = (fdV fs[k])[j]? := fun j hj => by
    have hg := fdL_get hk hj
    have hj' : (fdV fs[k])[j]? = some ((fdV fs[k])[j]'hj) := List.getElem?_eq_getElem hj
    have := h3.cells (g := bf) rfl (k * 4 + j) _ (hg.trans hj')
    rw [hj', ← this, Addr.add_lit, Nat.zero_add, Nat.zero_add]
  exact ⟨key 0 (by omega), key 1 (by omega), key 2 (by omega), key 3 (by omega)⟩
theorem FlatR.below {w w' : World} {r n : Nat} {ps : List Int} {fs : List Fd} {bp op cp bf of cf : Nat} (h : FlatR w r n ps fs bp op cp bf of cf) (hb : Below w.heap.size w w') : FlatR w' r n ps fs bp op cp bf of cf :=
  ⟨h.blk.below hb h.blk.lt, Nat.lt_of_lt_of_le h.lp hb.size, Nat.lt_of_lt_of_le h.lf hb.size, h.cap, fun k hk => by
    obtain ⟨a, b, c, d⟩ := h.rf k hk
    have key : ∀ j u, w.cell? ⟨bf, j, none⟩ = some u → w'.cell? ⟨bf, j, none⟩ = some u := fun j u hu => (hb.cell (p := ⟨bf, j, none⟩) h.lf).trans hu
    exact ⟨key _ _ a, key _ _ b, key _ _ c, key _ _ d⟩⟩
set_option maxHeartbeats 2000000 in
set_option maxRecDepth 100000 in
theorem impl_right (r B n cap : Nat) (A : Option Addr) (L ps : List Int) (fs : List Fd) (w : World) (h : Flat w r B n ps fs) (hI : Ints w A L) (hL : L.length ≤ 1000) (hn : n ≤ 100) (hp : ps.length = n + 1) (hf0 : fs ≠ []) (hf : fs.length ≤ 1000) (hfd : ∀ f ∈ fs, f.1 < n ∧ f.2.1 < n) :
    Calls Tryz.prog 65 #[ptr r, .slice A L.length cap] w fun e w' => e = .returned (.bool (rightB L n ps fs)) ∧ Below w.heap.size w w' := by
  obtain ⟨bp, op, cp, bf, of, cf, hR⟩ := h.read (by intro e; rw [e] at hp; simp at hp) hf0
  have c0 : w.cell? ⟨r, 0, none⟩ = some (.int .i64 n) := hR.blk.cell 0
  have HL := Lib.hid (impl_levelsOf A cap n L w hI hL hn)
  have HR := Lib.hid hR
  have HF := Lib.hid h
  have HP := Lib.hid hp
  have HFD := Lib.hid hfd
  obtain ⟨m, hm⟩ : ∃ m, m = fs.length := ⟨_, rfl⟩
  have HM := Lib.hid hm
  have hm1 : m ≤ 1000 := by omega
  clear hR hf0 hfd h hI hp hm hf
  go_enter Tryz.func65, Tryz.ntmps65
  go_wp2_with fail
  refine HL.out.mono ?_
  rintro e w1 ⟨v, rfl, hv, hb1⟩
  clear HL
  by_cases hok : okL L n = true
  · have HB1 := Lib.hid hb1
    have hv1 := hv hok
    obtain ⟨Al, cl, rfl, hIl, hl1, _⟩ := Own.form hv1
    have hlen := lvTo_len L n n
    obtain ⟨lv, hlv⟩ : ∃ lv, lv = lvTo L n n := ⟨_, rfl⟩
    have HRB : Hid (rightB L n ps fs = rightGo lv ps n fs) := by show _ = _; unfold rightB; rw [hok, hlv]; rfl
    rw [← hlv] at hIl hlen hl1 ⊢
    rw [hlen] at hl1
    have HIl := Lib.hid hIl
    have HLn := Lib.hid hlen
    have HF1 := Lib.hid (HF.out.below hb1)
    have HR1 := Lib.hid (HR.out.below hb1)
    have cf1 : w1.cell? ⟨r, 2, none⟩ = some (.slice (some ⟨bf, of, none⟩) m cf) := by rw [HM.out]; exact HR1.out.blk.cell 2
    rw [hok, hlen]
    clear hv hv1 hIl hlen hlv hb1 HF HR hok
    have HG : Hid (rightGo lv ps n fs = rightGo lv ps n (fs.drop 0)) := rfl
    have HB0 := Lib.hid (Below.refl w1.heap.size w1)
    go_wp2_with fail
    go_loopg [7, 8, 9, 10, 11, 12, 14, 31] (m + 1) (fun g s7 s8 s9 s10 s11 s12 s14 s31 wr => ∃ (k : Nat), s7 = s7 ∧ s8 = s8 ∧ s9 = s9 ∧ s10 = s10 ∧ s11 = s11 ∧ s12 = s12 ∧ s14 = s14 ∧ k ≤ m ∧ s31 = .int .i64 k ∧ m - k < g ∧ Hid (rightGo lv ps n fs = rightGo lv ps n (fs.drop k)) ∧ Hid (Below w1.heap.size w1 wr))
    case atStart => exact ⟨0, rfl, rfl, rfl, rfl, rfl, rfl, rfl, Nat.zero_le _, rfl, by omega, HG, HB0⟩
    case round =>
      clear HG HB0 cf1 c0
      obtain ⟨k, _, _, _, _, _, _, _, hk, rfl, hg, HG, HB⟩ := hrel
      cases gk with
      | zero => omega
      | succ g =>
      by_cases hlt : k < m
      · have hkf : k < fs.length := by rw [← HM.out]; exact hlt
        obtain ⟨x1, x2, x3, x4⟩ := (HR1.out.below HB.out).rf k hkf
        have hab := HFD.out fs[k] (List.getElem_mem hkf)
        have hdr := List.drop_eq_getElem_cons hkf
        have hLn2 := HLn.out
        obtain ⟨⟨a, b, p, z⟩, hfk⟩ : ∃ f, f = fs[k] := ⟨_, rfl⟩
        rw [← hfk] at x1 x2 x3 x4 hab hdr
        obtain ⟨ha, hb⟩ := hab
        simp only [] at x1 x2 x3 x4 ha hb
        have HG2 : Hid (rightB L n ps fs = (foldOk lv ps n (a, b, p, z) (fs.drop (k + 1)) && rightGo lv ps n (fs.drop (k + 1)))) := by
          show _ = _
          rw [HRB.out, HG.out, hdr]; rfl
        obtain ⟨lo, hlo⟩ : ∃ x, x = lv.getD a 0 := ⟨_, rfl⟩
        obtain ⟨up, hhi⟩ : ∃ x, x = lv.getD b 0 := ⟨_, rfl⟩
        have HLO := Lib.hid hlo
        have HHI := Lib.hid hhi
        have hlf := (HR1.out.below HB.out).lf
        have HZ := Lib.hid HB.out.size
        have k1 : (k : Int) < (m : Int) := by omega
        have k0 : (0 : Int) ≤ (k : Int) := by omega
        clear hkf hfk hdr hlo hhi HG
        obtain ⟨bl, ol, rfl, hbl, hcl⟩ := HIl.out (by intro e; rw [e] at hLn2; simp at hLn2; omega)
        have hlc : ∀ W : World, Below wr.heap.size wr W → ∀ i, i < n → W.cell? ⟨bl, ol + i, none⟩ = some (.int .i64 (lv.getD i 0)) := fun W hW i hi => (hW.cell (p := ⟨bl, ol + i, none⟩) (Nat.lt_of_lt_of_le hbl HB.out.size)).trans ((HB.out.cell (p := ⟨bl, ol + i, none⟩) hbl).trans (hcl i _ (getD_of (by omega))))
        have HLC := Lib.hid hlc
        clear hcl hlc
        go_wp2_with fail
        have hbA : Below wr.heap.size wr (wr.alloc (.cells #[.int .i64 a, .int .i64 b, .int .i64 p, .bool z] 81)) := (Below.refl _ _).alloc (Nat.le_refl _) _
        have hKA := Blk.new wr 81 #[.int .i64 a, .int .i64 b, .int .i64 p, .bool z]
        obtain ⟨H, hH⟩ : ∃ H, H = wr.heap.size := ⟨_, rfl⟩
        obtain ⟨wA, hwA⟩ : ∃ wA, wA = wr.alloc (.cells #[.int .i64 a, .int .i64 b, .int .i64 p, .bool z] 81) := ⟨_, rfl⟩
        rw [← hwA] at hbA hKA ⊢
        rw [← hH] at hKA ⊢
        have y0 : wA.cell? ⟨H, 0, none⟩ = some (.int .i64 a) := hKA.cell 0
        have y1 : wA.cell? ⟨H, 1, none⟩ = some (.int .i64 b) := hKA.cell 1
        have z1 := HLC.out wA hbA a ha
        have z2 := HLC.out wA hbA b hb
        rw [← HLO.out] at z1
        rw [← HHI.out] at z2
        have HBA := Lib.hid hbA
        have HKA := Lib.hid hKA
        have HWH := Lib.hid hH
        have a1 : (a : Int) < (n : Int) := by omega
        have b1 : (b : Int) < (n : Int) := by omega
        clear hbA hKA hwA hH x1 x2 x3 x4 hlf
        go_quiet (fail)
        have hbB : Below wr.heap.size wr (wA.drewN nq) := below_drewN HBA.out nq
        have hKB : Blk (wA.drewN nq) H 81 #[.int .i64 a, .int .i64 b, .int .i64 p, .bool z] := HKA.out.drewN nq
        obtain ⟨wB, hwB⟩ : ∃ wB, wB = wA.drewN nq := ⟨_, rfl⟩
        rw [← hwB] at hbB hKB ⊢
        have HBB := Lib.hid hbB
        have HKB := Lib.hid hKB
        have y2 : wB.cell? ⟨H, 2, none⟩ = some (.int .i64 p) := hKB.cell 2
        have y3 : wB.cell? ⟨H, 3, none⟩ = some (.bool z) := hKB.cell 3
        obtain ⟨d, hd⟩ : ∃ d, decide (lo < up) = d := ⟨_, rfl⟩
        have HD : Hid (decide (lv.getD a 0 < lv.getD b 0) = d) := by show _ = _; rw [← HLO.out, ← HHI.out]; exact hd
        clear y0 y1 z1 z2 hbB hKB hwB HBA HKA
        by_cases hdz : d = z
        · subst hdz
          have e1 : (d != d) = false := by simp
          have e2 : (d == d) = true := by simp
          have e3 : (!(d == d)) = false := by simp
          have HG3 : Hid (rightB L n ps fs = ((partsTo lv ps (a, b, p, d) n && (fs.drop (k + 1)).all (pairOk lv (a, b, p, d))) && rightGo lv ps n (fs.drop (k + 1)))) := by
            show _ = _
            rw [HG2.out]
            congr 1
            unfold foldOk
            rw [HD.out]
            cases d <;> rfl
          have HP0 : Hid (partsTo lv ps (a, b, p, d) 0 = true) := rfl
          go_wp2_with fail
          go_loopg [11, 12, 54] (n + 1) (fun gq s11 s12 s54 wq => ∃ (i u : Nat), s11 = s11 ∧ s12 = s12 ∧ i ≤ n ∧ s54 = .int .i64 i ∧ n - i < gq ∧ Hid (partsTo lv ps (a, b, p, d) i = true) ∧ wq = wB.drewN u)
          case atStart => exact ⟨0, 0, rfl, rfl, Nat.zero_le _, rfl, by omega, HP0, rfl⟩
          case round =>
            clear HP0
            obtain ⟨i, u, _, _, hi, rfl, hgq, HPi, rfl⟩ := hrel
            cases gk with
            | zero => omega
            | succ gq =>
            by_cases hin : i < n
            · have z3 : (wB.drewN u).cell? ⟨bl, ol + i, none⟩ = some (.int .i64 (lv.getD i 0)) := HLC.out wB HBB.out i hin
              have y2u : (wB.drewN u).cell? ⟨H, 2, none⟩ = some (.int .i64 p) := y2
              obtain ⟨lvi, hlvi⟩ : ∃ x, x = lv.getD i 0 := ⟨_, rfl⟩
              obtain ⟨bt, hbt⟩ : ∃ x, x = betB lvi lo up := ⟨_, rfl⟩
              obtain ⟨ins, hins⟩ : ∃ x, x = insB ps p i := ⟨_, rfl⟩
              have HPO : Hid (partOk lv ps (a, b, p, d) i = !(bt && ins)) := by
                show _ = _
                unfold partOk
                rw [hbt, hins, hlvi, HLO.out, HHI.out]
              have HQ1 : Hid (∀ W, Calls Tryz.prog 94 #[.int .i64 lvi, .int .i64 lo, .int .i64 up] W fun e w' => e = .returned (.bool bt) ∧ W = w') := fun W => by
                have := impl_isBetween lvi lo up W
                rwa [← hbt] at this
              have HQ2 : Hid (∀ v, Calls Tryz.prog 95 #[ptr r, .int .i64 p, .int .i64 i] (wB.drewN v) fun e w' => e = .returned (.bool ins) ∧ ∃ m, (wB.drewN v).drewN m = w') := fun v => by
                have := impl_inside r B n i p ps fs (wB.drewN v) (HF1.out.below (below_drewN (HB.out.trans (HBB.out.mono HB.out.size)) _)) (by rw [HP.out]; omega) (by rw [HP.out]; omega)
                rwa [← hins] at this
              rw [← hlvi] at z3
              have i1 : (i : Int) < (n : Int) := by omega
              have i0 : (0 : Int) ≤ (i : Int) := by omega
              have HIN := Lib.hid hin
              clear hlvi hbt hins hin
              cases bt with
              | true =>
                cases ins with
                | true =>
                  have HBad : Hid (rightB L n ps fs = false) := by
                    show _ = _
                    rw [HG3.out, partsTo_bad HIN.out (by rw [HPO.out]; rfl)]; rfl
                  go_wp2_with fail
                  refine (HQ1.out _).mono ?_
                  rintro e w5 ⟨rfl, rfl⟩
                  go_wp2_with fail
                  refine (HQ2.out _).mono ?_
                  rintro e w6 ⟨rfl, m6, rfl⟩
                  go_wp2_with fail
                  go_ret
                  exact ⟨ret_bool (by rw [HBad.out]), HB1.out.trans ((HB.out.trans (below_drewN (HBB.out.mono HB.out.size) _)).mono HB1.out.size)⟩
                | false =>
                  have HP1 : Hid (partsTo lv ps (a, b, p, d) (i + 1) = true) := by show _ = _; rw [partsTo, HPi.out, HPO.out]; rfl
                  go_wp2_with fail
                  refine (HQ1.out _).mono ?_
                  rintro e w5 ⟨rfl, rfl⟩
                  go_wp2_with fail
                  refine (HQ2.out _).mono ?_
                  rintro e w6 ⟨rfl, m6, rfl⟩
                  go_wp2_with fail
                  go_roundg gq
                  case measure => omega
                  case rel => exact ⟨i + 1, u + m6, trivial, trivial, by omega, by go_num, by omega, HP1, rfl⟩
              | false =>
                have HP1 : Hid (partsTo lv ps (a, b, p, d) (i + 1) = true) := by show _ = _; rw [partsTo, HPi.out, HPO.out]; rfl
                go_wp2_with fail
                refine (HQ1.out _).mono ?_
                rintro e w5 ⟨rfl, rfl⟩
                go_wp2_with fail
                go_roundg gq
                case measure => omega
                case rel => exact ⟨i + 1, u, trivial, trivial, by omega, by go_num, by omega, HP1, rfl⟩
            · obtain rfl : i = n := by omega
              have hbC : Below wr.heap.size wr (wB.drewN u) := below_drewN HBB.out u
              have hKC : Blk (wB.drewN u) H 81 #[.int .i64 a, .int .i64 b, .int .i64 p, .bool d] := HKB.out.drewN u
              obtain ⟨wC, hwC⟩ : ∃ wC, wC = wB.drewN u := ⟨_, rfl⟩
              rw [← hwC] at hbC hKC ⊢
              have HBC := Lib.hid (HB.out.trans (hbC.mono HB.out.size))
              have HKC := Lib.hid hKC
              have HG4 : Hid (rightB L i ps fs = ((fs.drop (k + 1)).all (pairOk lv (a, b, p, d)) && rightGo lv ps i (fs.drop (k + 1)))) := by
                show _ = _
                rw [HG3.out, HPi.out, Bool.true_and]
              have cfC : wC.cell? ⟨r, 2, none⟩ = some (.slice (some ⟨bf, of, none⟩) m cf) := by rw [HM.out]; exact (HR1.out.below HBC.out).blk.cell 2
              have q1 : IntKind.i64.wrap ((k : Int) + 1) = (k : Int) + 1 := IntWalk.i64_in _ (by omega)
              have q2 : ((k : Int) + 1).toNat = k + 1 := by omega
              have q3 : ¬ (k : Int) + 1 < 0 := by omega
              have q4 : k + 1 ≤ m := by omega
              have q5 : ¬ ((m : Int) < (k : Int) + 1) := by omega
              have hwrC := hbC.size
              have hHlt := hKC.lt
              clear hbC hKC hwC y2 y3 hgq hi
              have hmc : m ≤ cf := by rw [HM.out]; exact HR1.out.cap
              by_cases hcf : ¬ cf = k + 1
              · have hkm : k + 1 ≤ m := by omega
                go_wp2_with fail
                have HA0 : Hid ((fs.drop (k + 1)).all (pairOk lv (a, b, p, d)) = (fs.drop (k + 1 + 0)).all (pairOk lv (a, b, p, d))) := rfl
                have HBq0 := Lib.hid (Below.refl wC.heap.size wC)
                go_loopg [14, 79] (m + 1) (fun gq s14 s79 wr => ∃ (j : Nat), s14 = s14 ∧ j ≤ m - (k + 1) ∧ s79 = .int .i64 j ∧ m - j < gq ∧ Hid ((fs.drop (k + 1)).all (pairOk lv (a, b, p, d)) = (fs.drop (k + 1 + j)).all (pairOk lv (a, b, p, d))) ∧ Hid (Below wC.heap.size wC wr))
                case atStart => exact ⟨0, rfl, Nat.zero_le _, rfl, by omega, HA0, HBq0⟩
                case round =>
                  clear HA0 HBq0 cfC
                  obtain ⟨j, _, hj, rfl, hgq, HAj, HBq⟩ := hrel
                  cases gk with
                  | zero => omega
                  | succ gq =>
                  have HBw := Lib.hid (HBC.out.trans (HBq.out.mono HBC.out.size))
                  by_cases hjl : j < m - (k + 1)
                  · have hkf : k + 1 + j < fs.length := by rw [← HM.out]; omega
                    obtain ⟨x1, x2, x3, x4⟩ := (HR1.out.below HBw.out).rf (k + 1 + j) hkf
                    have hab := HFD.out fs[k + 1 + j] (List.getElem_mem hkf)
                    have hdr := List.drop_eq_getElem_cons hkf
                    obtain ⟨⟨a', b', p', z'⟩, hfk⟩ : ∃ f, f = fs[k + 1 + j] := ⟨_, rfl⟩
                    rw [← hfk] at x1 x2 x3 x4 hab hdr
                    obtain ⟨ha', hb'⟩ := hab
                    rw [show of + (k + 1 + j) * 4 = of + (k + 1) * 4 + j * 4 from by omega] at x1 x2 x3 x4
                    simp only [] at x1 x2 x3 x4 ha' hb'
                    have hlf := (HR1.out.below HBw.out).lf
                    have hKq := (HKC.out.below HBq.out hHlt).alloc (.cells #[.int .i64 a', .int .i64 b', .int .i64 p', .bool z'] 81)
                    have v0 : (wr.alloc (.cells #[.int .i64 a', .int .i64 b', .int .i64 p', .bool z'] 81)).cell? ⟨H, 0, none⟩ = some (.int .i64 a) := hKq.cell 0
                    have v1 : (wr.alloc (.cells #[.int .i64 a', .int .i64 b', .int .i64 p', .bool z'] 81)).cell? ⟨H, 1, none⟩ = some (.int .i64 b) := hKq.cell 1
                    have v2 : (wr.alloc (.cells #[.int .i64 a', .int .i64 b', .int .i64 p', .bool z'] 81)).cell? ⟨H, 2, none⟩ = some (.int .i64 p) := hKq.cell 2
                    have v3 : (wr.alloc (.cells #[.int .i64 a', .int .i64 b', .int .i64 p', .bool z'] 81)).cell? ⟨H, 3, none⟩ = some (.bool d) := hKq.cell 3
                    obtain ⟨q1', hq1'⟩ : ∃ x, x = crossB lv (a, b, p, d) (a', b', p', z') := ⟨_, rfl⟩
                    obtain ⟨q2', hq2'⟩ : ∃ x, x = crossB lv (a', b', p', z') (a, b, p, d) := ⟨_, rfl⟩
                    have HAL : Hid ((fs.drop (k + 1)).all (pairOk lv (a, b, p, d)) = (!(q1' || q2') && (fs.drop (k + 1 + (j + 1))).all (pairOk lv (a, b, p, d)))) := by
                      show _ = _
                      rw [HAj.out, hdr, List.all_cons]
                      unfold pairOk
                      rw [hq1', hq2']
                      rfl
                    have HC1 : Hid (∀ W : World, Below w1.heap.size w1 W → Calls Tryz.prog 96 #[.agg #[.int .i64 a, .int .i64 b, .int .i64 p, .bool d], .agg #[.int .i64 a', .int .i64 b', .int .i64 p', .bool z'], .slice (some ⟨bl, ol, none⟩) i cl] W fun e w' => e = .returned (.bool q1') ∧ Below W.heap.size W w') := fun W hW => by
                      have := impl_crossed (some ⟨bl, ol, none⟩) cl a b a' b' p p' d z' lv W (HIl.out.below hW) (by omega) (by omega) (by omega) (by omega) (by omega)
                      rw [HLn.out] at this
                      rw [hq1']
                      exact this
                    have HC2 : Hid (∀ W : World, Below w1.heap.size w1 W → Calls Tryz.prog 96 #[.agg #[.int .i64 a', .int .i64 b', .int .i64 p', .bool z'], .agg #[.int .i64 a, .int .i64 b, .int .i64 p, .bool d], .slice (some ⟨bl, ol, none⟩) i cl] W fun e w' => e = .returned (.bool q2') ∧ Below W.heap.size W w') := fun W hW => by
                      have := impl_crossed (some ⟨bl, ol, none⟩) cl a' b' a b p' p z' d lv W (HIl.out.below hW) (by omega) (by omega) (by omega) (by omega) (by omega)
                      rw [HLn.out] at this
                      rw [hq2']
                      exact this
                    have HKq := Lib.hid hKq
                    have HN := Lib.hid (Blk.new wr 81 #[.int .i64 a', .int .i64 b', .int .i64 p', .bool z'])
                    have HBn := Lib.hid (HBw.out.alloc HBw.out.size (.cells #[.int .i64 a', .int .i64 b', .int .i64 p', .bool z'] 81))
                    have j1 : (j : Int) < ((m - (k + 1) : Nat) : Int) := by omega
                    have j0 : (0 : Int) ≤ (j : Int) := by omega
                    have HJL := Lib.hid hjl
                    clear hkf hfk hdr hq1' hq2' hKq hjl q5
                    cases q1' with
                    | true =>
                      have HBad : Hid (rightB L i ps fs = false) := by
                        show _ = _
                        rw [HG4.out, HAL.out]; rfl
                      go_wp2_with fail
                      refine (HC1.out _ HBn.out).mono ?_
                      rintro e w5 ⟨rfl, hb5⟩
                      have HB5 := Lib.hid (HBn.out.trans (hb5.mono HBn.out.size))
                      clear hb5 x1 x2 x3 x4 v0 v1 v2 v3
                      go_wp2_with fail
                      go_ret
                      exact ⟨ret_bool (by rw [HBad.out]), HB1.out.trans (HB5.out.mono HB1.out.size)⟩
                    | false =>
                      go_wp2_with fail
                      refine (HC1.out _ HBn.out).mono ?_
                      rintro e w5 ⟨rfl, hb5⟩
                      have HB5 := Lib.hid (HBn.out.trans (hb5.mono HBn.out.size))
                      have hK5 := HKq.out.below hb5 HKq.out.lt
                      have hN5 := HN.out.below hb5 HN.out.lt
                      have t0 : w5.cell? ⟨H, 0, none⟩ = some (.int .i64 a) := hK5.cell 0
                      have t1 : w5.cell? ⟨H, 1, none⟩ = some (.int .i64 b) := hK5.cell 1
                      have t2 : w5.cell? ⟨H, 2, none⟩ = some (.int .i64 p) := hK5.cell 2
                      have t3 : w5.cell? ⟨H, 3, none⟩ = some (.bool d) := hK5.cell 3
                      have t4 : w5.cell? ⟨wr.heap.size, 0, none⟩ = some (.int .i64 a') := hN5.cell 0
                      have t5 : w5.cell? ⟨wr.heap.size, 1, none⟩ = some (.int .i64 b') := hN5.cell 1
                      have t6 : w5.cell? ⟨wr.heap.size, 2, none⟩ = some (.int .i64 p') := hN5.cell 2
                      have t7 : w5.cell? ⟨wr.heap.size, 3, none⟩ = some (.bool z') := hN5.cell 3
                      have HBq5 : Hid (Below wC.heap.size wC w5) := (HBq.out.alloc HBq.out.size (.cells #[.int .i64 a', .int .i64 b', .int .i64 p', .bool z'] 81)).trans (hb5.mono (Nat.le_trans HBq.out.size (by simp)))
                      clear hb5 hK5 hN5 x1 x2 x3 x4 v0 v1 v2 v3
                      cases q2' with
                      | true =>
                        have HBad : Hid (rightB L i ps fs = false) := by
                          show _ = _
                          rw [HG4.out, HAL.out]; rfl
                        go_wp2_with fail
                        refine (HC2.out _ HB5.out).mono ?_
                        rintro e w6 ⟨rfl, hb6⟩
                        have HB6 := Lib.hid (HB5.out.trans (hb6.mono HB5.out.size))
                        clear hb6
                        go_wp2_with fail
                        go_ret
                        exact ⟨ret_bool (by rw [HBad.out]), HB1.out.trans (HB6.out.mono HB1.out.size)⟩
                      | false =>
                        have HAj2 : Hid ((fs.drop (k + 1)).all (pairOk lv (a, b, p, d)) = (fs.drop (k + 1 + (j + 1))).all (pairOk lv (a, b, p, d))) := by
                          show _ = _
                          rw [HAL.out]; rfl
                        go_wp2_with fail
                        refine (HC2.out _ HB5.out).mono ?_
                        rintro e w6 ⟨rfl, hb6⟩
                        have HBq6 := Lib.hid (HBq5.out.trans (hb6.mono HBq5.out.size))
                        clear hb6
                        go_wp2_with fail
                        go_roundg gq
                        case measure => omega
                        case rel => exact ⟨j + 1, trivial, by have := HJL.out; omega, by go_num, by omega, HAj2, HBq6⟩
                  · obtain rfl : j = m - (k + 1) := by omega
                    have HG5 : Hid (rightB L i ps fs = rightGo lv ps i (fs.drop (k + 1))) := by
                      show _ = _
                      rw [HG4.out, HAj.out, List.drop_of_length_le (by rw [← HM.out]; omega)]; rfl
                    have HG6 : Hid (rightGo lv ps i fs = rightGo lv ps i (fs.drop (k + 1))) := HRB.out.symm.trans HG5.out
                    go_wp2_with fail
                    go_roundg g
                    case measure => omega
                    case rel => exact ⟨k + 1, trivial, trivial, trivial, trivial, trivial, trivial, trivial, by omega, by go_num, by omega, HG6, HBw⟩
              · have HKM : Hid (m = k + 1) := by show _ = _; omega
                obtain rfl : cf = k + 1 := by omega
                have HG6 : Hid (rightGo lv ps i fs = rightGo lv ps i (fs.drop (k + 1))) := by
                  show _ = _
                  rw [← HRB.out, HG4.out, List.drop_of_length_le (by rw [← HM.out, HKM.out]; omega)]; rfl
                clear hcf
                go_wp2_with fail
                go_loopg [14, 79] 1 (fun gq s14 s79 wr => s14 = s14 ∧ s79 = .int .i64 0 ∧ wr = wC)
                case atStart => exact ⟨rfl, rfl, rfl⟩
                case round =>
                  obtain ⟨_, rfl, rfl⟩ := hrel
                  have d9 : m - (k + 1) = 0 := by rw [HKM.out]; omega
                  have d8 : (((m - (k + 1) : Nat)) : Int) = 0 := by rw [d9]; rfl
                  go_wp2_with fail
                  go_roundg g
                  case measure => omega
                  case rel => exact ⟨k + 1, trivial, trivial, trivial, trivial, trivial, trivial, trivial, by omega, by go_num, by omega, HG6, HBC⟩
        · have e1 : (d != z) = true := by simpa using hdz
          have e2 : (d == z) = false := by simpa using hdz
          have e3 : (!(d == z)) = true := by rw [e2]; rfl
          have HBad : Hid (rightB L n ps fs = false) := by
            show _ = _
            rw [HG2.out]
            unfold foldOk
            rw [HD.out, e2]; rfl
          clear hdz
          go_wp2_with fail
          go_ret
          exact ⟨ret_bool (by rw [HBad.out]), HB1.out.trans ((HB.out.trans (HBB.out.mono HB.out.size)).mono HB1.out.size)⟩
      · obtain rfl : k = m := by omega
        have HFin : Hid (rightB L n ps fs = true) := by
          show _ = _
          rw [HRB.out, HG.out, HM.out, List.drop_length]; rfl
        go_wp2_with fail
        go_ret
        exact ⟨ret_bool (by rw [HFin.out]), HB1.out.trans (HB.out.mono HB1.out.size)⟩
  · have hok' : okL L n = false := by simpa using hok
    have HRB : Hid (rightB L n ps fs = false) := by show _ = _; unfold rightB; rw [hok']; rfl
    have HB1 := Lib.hid hb1
    rw [hok']
    clear hv hb1 hok hok'
    go_wp2_with fail
    go_ret
    exact ⟨ret_bool (by rw [HRB.out]), HB1.out⟩
end Go.Proofs.YtkdlipbegdiaaaaGreatDoor
