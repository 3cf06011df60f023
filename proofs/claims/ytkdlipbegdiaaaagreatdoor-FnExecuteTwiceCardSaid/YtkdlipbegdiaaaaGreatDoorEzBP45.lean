/- The reference's script: a line that asks. No condition but sizes. The reference's script: a line that sets angles or folds. No condition but sizes. -/
import Derived.Test.YtkdlipbegdiaaaaGreatDoorEzBP44
namespace Go.Proofs.YtkdlipbegdiaaaaGreatDoor
open Go.RowKit
/-- what a line hands back -/
def LineR (w : World) (s : Dk) (o : List UInt8) (e : Ending) (w' : World) : Prop :=
  ∃ A c, e = .returned (.tuple #[.agg #[.slice A s.1.length c, .string (btj s.2)], .string (btj (o ++ [10]))]) ∧ DkV w' A c s ∧ Below w.heap.size w w'
/-- the world behind the three cells of a line -/
structure LineW (w : World) (S : Array Value) (W : World) : Prop where
  size : W.heap.size = w.heap.size + 3
  bel : Below w.heap.size w W
  b2 : Blk W w.heap.size 53 S
  b4 : Blk W (w.heap.size + 1) 53 #[.slice none 0 0, .string ⟨#[]⟩]
  b6 : Blk W (w.heap.size + 2) 53 S
theorem LineW.new (w : World) (S : Array Value) : LineW w S (((w.alloc (.cells S 53)).alloc (.cells #[.slice none 0 0, .string ⟨#[]⟩] 53)).alloc (.cells S 53)) := by
  refine ⟨by simp, (((Below.refl _ _).alloc (Nat.le_refl _) _).alloc (by simp) _).alloc (by simp; omega) _, ((Blk.new w _ _).alloc _).alloc _, ?_, ?_⟩
  · have := (Blk.new (w.alloc (.cells S 53)) 53 #[.slice none 0 0, .string ⟨#[]⟩]).alloc (.cells S 53)
    simpa using this
  · have := Blk.new ((w.alloc (.cells S 53)).alloc (.cells #[.slice none 0 0, .string ⟨#[]⟩] 53)) 53 S
    simpa [Nat.add_assoc] using this
set_option maxHeartbeats 4000000 in
set_option maxRecDepth 100000 in
theorem spec_l7Line_ask (A : Option Addr) (c0 b off c : Nat) (s : Dk) (x : List UInt8) (r : List (List UInt8)) (w : World) (hs : DkOk s) (hV : DkV w A c0 s) (hW : WordsR w b off (x :: r)) (hc : (x :: r).length ≤ c) (hcm : c ≤ maxLen) (hr : r.length ≤ 300) (hy : ∀ y ∈ r, y.length ≤ 300)
    (h0 : cmdIs 0 x r.length = false) (h1 : cmdIs 1 x r.length = false) :
    Calls Tryz.prog 31 #[.agg #[.slice A s.1.length c0, .string (btj s.2)], .slice (some ⟨b, off, none⟩) (r.length + 1) c] w (LineR w s (askT s x r)) := by
  have HA := Lib.hid (fun (W : World) (hb : Below w.heap.size w W) => spec_l7Ask A c0 b off c s x r W hs (hV.below hb) (hW.below hb) hc hcm hr hy)
  have n0 : w.cell? ⟨b, off, none⟩ = some (.string (btj x)) := hW.2 0 _ rfl
  have hbl := hW.1
  have HV := Lib.hid hV
  obtain ⟨o, ho⟩ : ∃ o, o = askT s x r := ⟨_, rfl⟩
  rw [← ho] at HA ⊢
  have kz : (0 : Int) < (r.length : Int) + 1 := by omega
  have kz1 : (0 : Int) ≤ (r.length : Int) := by omega
  have hT : Hid ((x == [97, 110, 103, 108, 101, 115]) = false ∨ (x = [97, 110, 103, 108, 101, 115] ∧ r = [])) := by
    by_cases e : x = [97, 110, 103, 108, 101, 115]
    · refine Or.inr ⟨e, ?_⟩
      unfold cmdIs at h0
      rw [e, decide_eq_true (show r.length ≤ cmdMost 0 from Nat.le_trans hr (by decide))] at h0
      cases r with
      | nil => rfl
      | cons y q => 
        rw [decide_eq_true (show cmdLeast 0 ≤ (y :: q).length from by simp [cmdLeast])] at h0
        simp [cmdName] at h0
    · exact Or.inl (by rw [beq_eq_false_iff_ne]; exact e)
  have hF : Hid ((x == [102, 111, 108, 100, 115]) = false ∨ (x = [102, 111, 108, 100, 115] ∧ r.length ≠ 1)) := by
    by_cases e : x = [102, 111, 108, 100, 115]
    · refine Or.inr ⟨e, ?_⟩
      intro h
      unfold cmdIs at h1
      rw [e, h] at h1
      exact absurd h1 (by decide)
    · exact Or.inl (by rw [beq_eq_false_iff_ne]; exact e)
  unfold maxLen at hcm
  have HL := Lib.hid (LineW.new w #[.slice A s.1.length c0, .string (btj s.2)])
  clear hs hV hW ho hy h0 h1 hc
  go_enter Tryz.func31, Tryz.ntmps31
  go_upto_region 2 with (fail)
  obtain ⟨W, hW⟩ : ∃ W, W = ((w.alloc (.cells #[.slice A s.1.length c0, .string (btj s.2)] 53)).alloc (.cells #[.slice none 0 0, .string ⟨#[]⟩] 53)).alloc (.cells #[.slice A s.1.length c0, .string (btj s.2)] 53) := ⟨_, rfl⟩
  rw [← hW] at HL ⊢
  have n1 : W.cell? ⟨b, off, none⟩ = some (.string (btj x)) := (HL.out.bel.cell (p := ⟨b, off, none⟩) hbl).trans n0
  have q20 : W.cell? ⟨w.heap.size, 0, none⟩ = some (.slice A s.1.length c0) := HL.out.b2.cell 0
  have q21 : W.cell? ⟨w.heap.size, 1, none⟩ = some (.string (btj s.2)) := HL.out.b2.cell 1
  have HB := Lib.hid HL.out.bel
  have HB4 := Lib.hid HL.out.b4
  have hz := HL.out.size
  have HA2 := Lib.hid (HA.out W HL.out.bel)
  have HZ : Hid (W.heap.size = w.heap.size + 3) := hz
  have fin : ∀ (W' : World), Below W.heap.size W W' → True := fun _ _ => trivial
  obtain ⟨t2, ht2⟩ : ∃ t2, t2 = w.heap.size := ⟨_, rfl⟩
  have HT2 := Lib.hid ht2
  have e4 : w.heap.size + 1 = t2 + 1 := by rw [ht2]
  rw [← ht2] at q20 q21 HB4 hz ⊢
  have hl2 : t2 < W.heap.size := by omega
  have hl4 : t2 + 1 < W.heap.size := by omega
  clear hW ht2 e4 hz n0 fin HL HA2
  have q40 : W.cell? ⟨t2 + 1, 0, none⟩ = some (.slice none 0 0) := HB4.out.cell 0
  have q41 : W.cell? ⟨t2 + 1, 1, none⟩ = some (.string ⟨#[]⟩) := HB4.out.cell 1
  have f40 := HB4.out.frozen 0
  have f41 := HB4.out.frozen 1
  have HHX : Hid (∀ W', Below W.heap.size W W' → W'.cell? ⟨t2, 0, none⟩ = some (.slice A s.1.length c0) ∧ W'.cell? ⟨t2, 1, none⟩ = some (.string (btj s.2)) ∧ W'.cell? ⟨t2 + 1, 0, none⟩ = some (.slice none 0 0) ∧ W'.cell? ⟨t2 + 1, 1, none⟩ = some (.string ⟨#[]⟩) ∧ W'.frozen? ⟨t2 + 1, 0, none⟩ = false ∧ W'.frozen? ⟨t2 + 1, 1, none⟩ = false) :=
    (fun W' hb => ⟨(hb.cell (p := ⟨t2, 0, none⟩) hl2).trans q20, (hb.cell (p := ⟨t2, 1, none⟩) hl2).trans q21, (HB4.out.below hb hl4).cell 0, (HB4.out.below hb hl4).cell 1, (HB4.out.below hb hl4).frozen 0, (HB4.out.below hb hl4).frozen 1⟩ : ∀ W', Below W.heap.size W W' → _)
  rcases hT.out with t0 | ⟨rfl, rfl⟩
  · rcases hF.out with t1 | ⟨rfl, t1⟩
    · clear hT hF
      go_wp2_with fail
      go_region_law ((go_simp; go_at_call 56; refine (HA.out _ (below_drewN HB.out _)).mono ?_; rintro e w6 ⟨rfl, hbx⟩; obtain ⟨g20, g21, g40, g41, e40, e41⟩ := HHX.out _ ((below_drewN (Below.refl _ _) _).trans hbx)))
      all_goals
        have hk6 := HB4.out.below ((below_drewN (Below.refl W.heap.size W) 1).trans hbx) hl4
        have hk7 : Blk ((w6.setCell ⟨t2 + 1, 0, none⟩ (.slice A s.1.length c0)).setCell ⟨t2 + 1, 1, none⟩ (.string (btj s.2))) (t2 + 1) 53 #[.slice A s.1.length c0, .string (btj s.2)] := by
          simpa using (hk6.set_ 0 (.slice A s.1.length c0)).set_ 1 (.string (btj s.2))
        have hb6 := HB.out.trans (((below_drewN (Below.refl W.heap.size W) 1).trans hbx).mono HB.out.size)
        have hb7 : Below w.heap.size w ((w6.setCell ⟨t2 + 1, 0, none⟩ (.slice A s.1.length c0)).setCell ⟨t2 + 1, 1, none⟩ (.string (btj s.2))) :=
          (hb6.trans (below_set w6 0 (.slice A s.1.length c0) (by rw [HT2.out]; omega))).trans (below_set _ 1 (.string (btj s.2)) (by rw [HT2.out]; omega))
        obtain ⟨W7, hW7⟩ : ∃ W7, W7 = (w6.setCell ⟨t2 + 1, 0, none⟩ (.slice A s.1.length c0)).setCell ⟨t2 + 1, 1, none⟩ (.string (btj s.2)) := ⟨_, rfl⟩
        rw [← hW7] at hk7 hb7 ⊢
        have z0 : W7.cell? ⟨t2 + 1, 0, none⟩ = some (.slice A s.1.length c0) := hk7.cell 0
        have z1 : W7.cell? ⟨t2 + 1, 1, none⟩ = some (.string (btj s.2)) := hk7.cell 1
        have HB7 := Lib.hid hb7
        clear hW7 hk7 hb7 hb6 hk6 hbx g20 g21 g40 g41 e40 e41 q20 q21 q40 q41 f40 f41
        go_wp2_with fail
        refine bodyPost_ret (v := .tuple #[.agg #[.slice A s.1.length c0, .string (btj s.2)], .string (btj (o ++ [10]))]) (by simp [results, Tryz.results31, go_sem, z0, z1]) rfl ?_
        exact ⟨A, c0, rfl, HV.out.below HB7.out, HB7.out⟩
    · have k1 : ((r.length : Int) + 1 == 2) = false := by rw [beq_eq_false_iff_ne]; omega
      clear hT hF t1
      go_wp2_with fail
      go_region_law ((go_simp; go_at_call 56; refine (HA.out _ (below_drewN HB.out _)).mono ?_; rintro e w6 ⟨rfl, hbx⟩; obtain ⟨g20, g21, g40, g41, e40, e41⟩ := HHX.out _ ((below_drewN (Below.refl _ _) _).trans hbx)))
      all_goals
        have hk6 := HB4.out.below ((below_drewN (Below.refl W.heap.size W) 1).trans hbx) hl4
        have hk7 : Blk ((w6.setCell ⟨t2 + 1, 0, none⟩ (.slice A s.1.length c0)).setCell ⟨t2 + 1, 1, none⟩ (.string (btj s.2))) (t2 + 1) 53 #[.slice A s.1.length c0, .string (btj s.2)] := by
          simpa using (hk6.set_ 0 (.slice A s.1.length c0)).set_ 1 (.string (btj s.2))
        have hb6 := HB.out.trans (((below_drewN (Below.refl W.heap.size W) 1).trans hbx).mono HB.out.size)
        have hb7 : Below w.heap.size w ((w6.setCell ⟨t2 + 1, 0, none⟩ (.slice A s.1.length c0)).setCell ⟨t2 + 1, 1, none⟩ (.string (btj s.2))) :=
          (hb6.trans (below_set w6 0 (.slice A s.1.length c0) (by rw [HT2.out]; omega))).trans (below_set _ 1 (.string (btj s.2)) (by rw [HT2.out]; omega))
        obtain ⟨W7, hW7⟩ : ∃ W7, W7 = (w6.setCell ⟨t2 + 1, 0, none⟩ (.slice A s.1.length c0)).setCell ⟨t2 + 1, 1, none⟩ (.string (btj s.2)) := ⟨_, rfl⟩
        rw [← hW7] at hk7 hb7 ⊢
        have z0 : W7.cell? ⟨t2 + 1, 0, none⟩ = some (.slice A s.1.length c0) := hk7.cell 0
        have z1 : W7.cell? ⟨t2 + 1, 1, none⟩ = some (.string (btj s.2)) := hk7.cell 1
        have HB7 := Lib.hid hb7
        clear hW7 hk7 hb7 hb6 hk6 hbx g20 g21 g40 g41 e40 e41 q20 q21 q40 q41 f40 f41
        go_wp2_with fail
        refine bodyPost_ret (v := .tuple #[.agg #[.slice A s.1.length c0, .string (btj s.2)], .string (btj (o ++ [10]))]) (by simp [results, Tryz.results31, go_sem, z0, z1]) rfl ?_
        exact ⟨A, c0, rfl, HV.out.below HB7.out, HB7.out⟩
  · clear hT hF
    go_wp2_with fail
    go_region_law ((go_simp; go_at_call 56; refine (HA.out _ (below_drewN HB.out _)).mono ?_; rintro e w6 ⟨rfl, hbx⟩; obtain ⟨g20, g21, g40, g41, e40, e41⟩ := HHX.out _ ((below_drewN (Below.refl _ _) _).trans hbx)))
    all_goals
      have hk6 := HB4.out.below ((below_drewN (Below.refl W.heap.size W) 1).trans hbx) hl4
      have hk7 : Blk ((w6.setCell ⟨t2 + 1, 0, none⟩ (.slice A s.1.length c0)).setCell ⟨t2 + 1, 1, none⟩ (.string (btj s.2))) (t2 + 1) 53 #[.slice A s.1.length c0, .string (btj s.2)] := by
        simpa using (hk6.set_ 0 (.slice A s.1.length c0)).set_ 1 (.string (btj s.2))
      have hb6 := HB.out.trans (((below_drewN (Below.refl W.heap.size W) 1).trans hbx).mono HB.out.size)
      have hb7 : Below w.heap.size w ((w6.setCell ⟨t2 + 1, 0, none⟩ (.slice A s.1.length c0)).setCell ⟨t2 + 1, 1, none⟩ (.string (btj s.2))) :=
        (hb6.trans (below_set w6 0 (.slice A s.1.length c0) (by rw [HT2.out]; omega))).trans (below_set _ 1 (.string (btj s.2)) (by rw [HT2.out]; omega))
      obtain ⟨W7, hW7⟩ : ∃ W7, W7 = (w6.setCell ⟨t2 + 1, 0, none⟩ (.slice A s.1.length c0)).setCell ⟨t2 + 1, 1, none⟩ (.string (btj s.2)) := ⟨_, rfl⟩
      rw [← hW7] at hk7 hb7 ⊢
      have z0 : W7.cell? ⟨t2 + 1, 0, none⟩ = some (.slice A s.1.length c0) := hk7.cell 0
      have z1 : W7.cell? ⟨t2 + 1, 1, none⟩ = some (.string (btj s.2)) := hk7.cell 1
      have HB7 := Lib.hid hb7
      clear hW7 hk7 hb7 hb6 hk6 hbx g20 g21 g40 g41 e40 e41 q20 q21 q40 q41 f40 f41
      go_wp2_with fail
      refine bodyPost_ret (v := .tuple #[.agg #[.slice A s.1.length c0, .string (btj s.2)], .string (btj (o ++ [10]))]) (by simp [results, Tryz.results31, go_sem, z0, z1]) rfl ?_
      exact ⟨A, c0, rfl, HV.out.below HB7.out, HB7.out⟩
end Go.Proofs.YtkdlipbegdiaaaaGreatDoor
namespace Go.Proofs.YtkdlipbegdiaaaaGreatDoor
open Go.RowKit
theorem below_set2 {B t : Nat} (w : World) (u v : Value) (h : B ≤ t) : Below B w ((w.setCell ⟨t, 0, none⟩ u).setCell ⟨t, 1, none⟩ v) := (below_set w 0 u h).trans (below_set _ 1 v h)
theorem grown_set2 (w : World) (t : Nat) (u v : Value) : w.grownBy ((w.setCell ⟨t, 0, none⟩ u).setCell ⟨t, 1, none⟩ v) (some t) := (grown_setE w t 0 u).trans (grown_setE _ t 1 v)
theorem blk_set2 {w : World} {t : Nat} {a b u v : Value} (h : Blk w t 53 #[a, b]) : Blk ((w.setCell ⟨t, 0, none⟩ u).setCell ⟨t, 1, none⟩ v) t 53 #[u, v] := by
  simpa using (h.set_ 0 u).set_ 1 v
set_option maxHeartbeats 4000000 in
set_option maxRecDepth 100000 in
theorem spec_l7Line_angles (A : Option Addr) (c0 b off c : Nat) (s : Dk) (y : List UInt8) (q : List (List UInt8)) (w : World) (hV : DkV w A c0 s) (hW : WordsR w b off ([97, 110, 103, 108, 101, 115] :: y :: q)) (hc : q.length + 2 ≤ c) (_hcm : c ≤ maxLen) (hr : q.length ≤ 300) (s' : Dk) (o : List UInt8)
    (hsel : (avB (numsV (y :: q)) = true ∧ s' = (numsV (y :: q), []) ∧ o = okT) ∨ (avB (numsV (y :: q)) = false ∧ s' = s ∧ o = noT)) :
    Calls Tryz.prog 31 #[.agg #[.slice A s.1.length c0, .string (btj s.2)], .slice (some ⟨b, off, none⟩) (q.length + 2) c] w (LineR w s' o) := by
  have n0 : w.cell? ⟨b, off, none⟩ = some (.string ⟨#[97, 110, 103, 108, 101, 115]⟩) := hW.2 0 _ rfl
  have hbl := hW.1
  have hSt : Strs w (some ⟨b, off + 1, none⟩) (y :: q) := fun _ => ⟨b, off + 1, rfl, hbl, fun k x hx => by
    have := hW.2 (k + 1) x (by simpa using hx)
    rw [show off + (k + 1) = off + 1 + k from by omega] at this
    exact this⟩
  have HN := Lib.hid (fun (W : World) (hb : Below w.heap.size w W) => spec_l7Numbers (some ⟨b, off + 1, none⟩) (c - 1) (y :: q) W (hSt.below hb) (by simp; omega))
  have HV := Lib.hid hV
  have k3 : (2 : Int) ≤ (q.length : Int) + 2 := by omega
  have k3' : decide ((2 : Int) ≤ (q.length : Int) + 2) = true := by rw [decide_eq_true_eq]; omega
  have k4 : (1 : Int) ≤ (q.length : Int) + 2 := by omega
  have k6 : (0 : Int) < (q.length : Int) + 2 := by omega
  have k7 : ¬ (c = 1) := by omega
  have k8 : 1 ≤ c := by omega
  have hnl : (numsV (y :: q)).length = q.length + 1 := by rw [numsV_len]; rfl
  obtain ⟨xs, hxs⟩ : ∃ xs, xs = numsV (y :: q) := ⟨_, rfl⟩
  rw [← hxs] at HN hnl hsel
  have HS := Lib.hid hsel
  have HL := Lib.hid (LineW.new w #[.slice A s.1.length c0, .string (btj s.2)])
  simp only [List.length_cons] at HN
  have HNL := Lib.hid hnl
  unfold maxLen at _hcm
  clear hV hW hSt hxs hc hnl hsel
  go_enter Tryz.func31, Tryz.ntmps31
  go_upto_region 2 with (fail)
  obtain ⟨W, hW⟩ : ∃ W, W = ((w.alloc (.cells #[.slice A s.1.length c0, .string (btj s.2)] 53)).alloc (.cells #[.slice none 0 0, .string ⟨#[]⟩] 53)).alloc (.cells #[.slice A s.1.length c0, .string (btj s.2)] 53) := ⟨_, rfl⟩
  rw [← hW] at HL ⊢
  have n1 : W.cell? ⟨b, off, none⟩ = some (.string ⟨#[97, 110, 103, 108, 101, 115]⟩) := (HL.out.bel.cell (p := ⟨b, off, none⟩) hbl).trans n0
  have HB := Lib.hid HL.out.bel
  have HK2 := Lib.hid HL.out.b2
  have HK4 := Lib.hid HL.out.b4
  have HK6 := Lib.hid HL.out.b6
  have hz := HL.out.size
  have hbt : b < w.heap.size := hbl
  obtain ⟨t2, ht2⟩ : ∃ t2, t2 = w.heap.size := ⟨_, rfl⟩
  have HT2 := Lib.hid ht2
  rw [← ht2] at HK2 HK4 HK6 hz ⊢
  replace HK6 : Hid (Blk W (t2 + 1 + 1) 53 #[.slice A s.1.length c0, .string (btj s.2)]) := HK6
  have hl2 : t2 < W.heap.size := by omega
  have hl4 : t2 + 1 < W.heap.size := by omega
  have hl6 : t2 + 1 + 1 < W.heap.size := by omega
  clear hW ht2 hz n0 HL
  go_wp2_with fail
  refine (HN.out W HB.out).mono ?_
  rintro e w1 ⟨v1, rfl, ho1, hb1⟩
  obtain ⟨A1, c1, rfl, hi1, hc1, hm1⟩ := Own.form ho1
  have hk6 := HK6.out.below hb1 hl6
  have hk2 := HK2.out.below hb1 hl2
  have hk4 := HK4.out.below hb1 hl4
  have f60 : w1.cell? ⟨t2 + 1 + 1, 0, none⟩ = some (.slice A s.1.length c0) := hk6.cell 0
  have f61 : w1.cell? ⟨t2 + 1 + 1, 1, none⟩ = some (.string (btj s.2)) := hk6.cell 1
  have z60 : w1.frozen? ⟨t2 + 1 + 1, 0, none⟩ = false := hk6.frozen 0
  have z61 : w1.frozen? ⟨t2 + 1 + 1, 1, none⟩ = false := hk6.frozen 1
  have hG := grown_set2 w1 (t2 + 1 + 1) (.slice A1 xs.length c1) (.string ⟨#[]⟩)
  have hk6b : Blk ((w1.setCell ⟨t2 + 1 + 1, 0, none⟩ (.slice A1 xs.length c1)).setCell ⟨t2 + 1 + 1, 1, none⟩ (.string ⟨#[]⟩)) (t2 + 1 + 1) 53 #[.slice A1 xs.length c1, .string ⟨#[]⟩] := blk_set2 hk6
  have hk2b := hk2.grown hG (fun e => by have := Option.some.inj e; omega)
  have hk4b := hk4.grown hG (fun e => by have := Option.some.inj e; omega)
  have ho2 := ho1.kept hG (Or.inr (fun e => by have := (ho1.lt _ e).1; omega))
  have hbb : Below w.heap.size w ((w1.setCell ⟨t2 + 1 + 1, 0, none⟩ (.slice A1 xs.length c1)).setCell ⟨t2 + 1 + 1, 1, none⟩ (.string ⟨#[]⟩)) := (HB.out.trans (hb1.mono HB.out.size)).trans (below_set2 w1 _ _ (by rw [HT2.out]; omega))
  clear hG hk2 hk4 hk6
  have HX := Lib.hid (And.intro hk6b (And.intro hk2b (And.intro hk4b (And.intro ho2 hbb))))
  clear hk6b hk2b hk4b ho2 hbb
  have HC1 := Lib.hid hc1
  have HM1 := Lib.hid hm1
  clear hc1 hm1 hi1 ho1 hb1
  go_upto_region 6 with (fail)
  obtain ⟨W5, hW5⟩ : ∃ W5, W5 = (w1.setCell ⟨t2 + 1 + 1, 0, none⟩ (.slice A1 xs.length c1)).setCell ⟨t2 + 1 + 1, 1, none⟩ (.string ⟨#[]⟩) := ⟨_, rfl⟩
  rw [← hW5] at HX ⊢
  clear hW5 f60 f61 z60 z61
  have f70 : W5.cell? ⟨t2 + 1 + 1, 0, none⟩ = some (.slice A1 xs.length c1) := HX.out.1.cell 0
  have f71 : W5.cell? ⟨t2 + 1 + 1, 1, none⟩ = some (.string ⟨#[]⟩) := HX.out.1.cell 1
  have f20 : W5.cell? ⟨t2, 0, none⟩ = some (.slice A s.1.length c0) := HX.out.2.1.cell 0
  have f21 : W5.cell? ⟨t2, 1, none⟩ = some (.string (btj s.2)) := HX.out.2.1.cell 1
  have f40 : W5.cell? ⟨t2 + 1, 0, none⟩ = some (.slice none 0 0) := HX.out.2.2.1.cell 0
  have f41 : W5.cell? ⟨t2 + 1, 1, none⟩ = some (.string ⟨#[]⟩) := HX.out.2.2.1.cell 1
  have z40 : W5.frozen? ⟨t2 + 1, 0, none⟩ = false := HX.out.2.2.1.frozen 0
  have z41 : W5.frozen? ⟨t2 + 1, 1, none⟩ = false := HX.out.2.2.1.frozen 1
  have HAV := Lib.hid (spec_AnglesValid A1 c1 xs W5 (Ints.of_own HX.out.2.2.2.1) (by have := HNL.out; unfold maxLen; omega))
  rcases HS.out with ⟨hv, rfl, rfl⟩ | ⟨hv, rfl, rfl⟩
  · rw [hv] at HAV
    clear hv HS
    go_wp2_with fail
    refine HAV.out.mono ?_
    rintro e _ ⟨rfl, rfl⟩
    have hk7 : Blk ((W5.setCell ⟨t2 + 1, 0, none⟩ (.slice A1 xs.length c1)).setCell ⟨t2 + 1, 1, none⟩ (.string ⟨#[]⟩)) (t2 + 1) 53 #[.slice A1 xs.length c1, .string ⟨#[]⟩] := blk_set2 HX.out.2.2.1
    have HB7 : Hid (Below w.heap.size w ((W5.setCell ⟨t2 + 1, 0, none⟩ (.slice A1 xs.length c1)).setCell ⟨t2 + 1, 1, none⟩ (.string ⟨#[]⟩))) := HX.out.2.2.2.2.trans (below_set2 W5 _ _ (by rw [HT2.out]; omega))
    have HI7 := Lib.hid (Ints.of_own (HX.out.2.2.2.1.kept (grown_set2 W5 (t2 + 1) (.slice A1 xs.length c1) (.string ⟨#[]⟩)) (Or.inr (fun e => by have := (HX.out.2.2.2.1.lt _ e).1; omega))))
    have z0 := hk7.cell 0
    have z1 := hk7.cell 1
    replace z0 : _ = some (Value.slice A1 xs.length c1) := z0
    replace z1 : _ = some (Value.string ⟨#[]⟩) := z1
    clear hk7
    go_wp2_with fail
    refine bodyPost_ret (v := .tuple #[.agg #[.slice A1 xs.length c1, .string ⟨#[]⟩], .string (btj (okT ++ [10]))]) (by simp [results, Tryz.results31, go_sem, z0, z1]; rfl) rfl ?_
    exact ⟨A1, c1, rfl, ⟨HI7.out, HC1.out, HM1.out⟩, HB7.out⟩
  · rw [hv] at HAV
    clear hv HS
    go_wp2_with fail
    refine HAV.out.mono ?_
    rintro e _ ⟨rfl, rfl⟩
    have hk7 : Blk ((W5.setCell ⟨t2 + 1, 0, none⟩ (.slice A s'.1.length c0)).setCell ⟨t2 + 1, 1, none⟩ (.string (btj s'.2))) (t2 + 1) 53 #[.slice A s'.1.length c0, .string (btj s'.2)] := blk_set2 HX.out.2.2.1
    have HB7 : Hid (Below w.heap.size w ((W5.setCell ⟨t2 + 1, 0, none⟩ (.slice A s'.1.length c0)).setCell ⟨t2 + 1, 1, none⟩ (.string (btj s'.2)))) := HX.out.2.2.2.2.trans (below_set2 W5 _ _ (by rw [HT2.out]; omega))
    have z0 := hk7.cell 0
    have z1 := hk7.cell 1
    replace z0 : _ = some (Value.slice A s'.1.length c0) := z0
    replace z1 : _ = some (Value.string (btj s'.2)) := z1
    clear hk7
    go_wp2_with fail
    refine bodyPost_ret (v := .tuple #[.agg #[.slice A s'.1.length c0, .string (btj s'.2)], .string (btj (noT ++ [10]))]) (by simp [results, Tryz.results31, go_sem, z0, z1]; rfl) rfl ?_
    exact ⟨A, c0, rfl, HV.out.below HB7.out, HB7.out⟩
theorem blk_drewN {w : World} {t : Nat} {ty : TypeId} {S : Array Value} (h : Blk w t ty S) (n : Nat) : Blk (w.drewN n) t ty S := h
set_option maxHeartbeats 4000000 in
set_option maxRecDepth 100000 in
theorem spec_l7Line_folds (A : Option Addr) (c0 b off c : Nat) (s : Dk) (y : List UInt8) (w : World) (hs : s.1.length ≤ 10) (hV : DkV w A c0 s) (hW : WordsR w b off [[102, 111, 108, 100, 115], y]) (_hc : 2 ≤ c) (_hcm : c ≤ maxLen) (hy : y.length ≤ 300) (s' : Dk) (o : List UInt8)
    (hsel : (s.1 ≠ [] ∧ fvB y s.1.length = true ∧ s' = (s.1, y) ∧ o = okT) ∨ ((s.1 = [] ∨ fvB y s.1.length = false) ∧ s' = s ∧ o = noT)) :
    Calls Tryz.prog 31 #[.agg #[.slice A s.1.length c0, .string (btj s.2)], .slice (some ⟨b, off, none⟩) 2 c] w (LineR w s' o) := by
  have n0 : w.cell? ⟨b, off, none⟩ = some (.string ⟨#[102, 111, 108, 100, 115]⟩) := hW.2 0 _ rfl
  have n1 : w.cell? ⟨b, off + 1, none⟩ = some (.string (btj y)) := hW.2 1 _ rfl
  have hbl := hW.1
  have HV := Lib.hid hV
  have HS := Lib.hid hsel
  have HFV := Lib.hid (fun W : World => spec_FoldsValid (btj y) s.1.length W (by simp [ByteArray.size]; unfold maxLen; omega))
  have e5 : (btj y).data.toList = y := by simp
  rw [e5] at HFV
  have HL := Lib.hid (LineW.new w #[.slice A s.1.length c0, .string (btj s.2)])
  unfold maxLen at _hcm
  clear hV hW hsel e5
  go_enter Tryz.func31, Tryz.ntmps31
  go_upto_region 2 with (fail)
  obtain ⟨W, hW⟩ : ∃ W, W = ((w.alloc (.cells #[.slice A s.1.length c0, .string (btj s.2)] 53)).alloc (.cells #[.slice none 0 0, .string ⟨#[]⟩] 53)).alloc (.cells #[.slice A s.1.length c0, .string (btj s.2)] 53) := ⟨_, rfl⟩
  rw [← hW] at HL ⊢
  have m0 : W.cell? ⟨b, off, none⟩ = some (.string ⟨#[102, 111, 108, 100, 115]⟩) := (HL.out.bel.cell (p := ⟨b, off, none⟩) hbl).trans n0
  have m1 : W.cell? ⟨b, off + 1, none⟩ = some (.string (btj y)) := (HL.out.bel.cell (p := ⟨b, off + 1, none⟩) hbl).trans n1
  have HB := Lib.hid HL.out.bel
  have HK2 := Lib.hid HL.out.b2
  have HK4 := Lib.hid HL.out.b4
  have HK6 := Lib.hid HL.out.b6
  have hz := HL.out.size
  obtain ⟨t2, ht2⟩ : ∃ t2, t2 = w.heap.size := ⟨_, rfl⟩
  have HT2 := Lib.hid ht2
  rw [← ht2] at HK2 HK4 HK6 hz ⊢
  replace HK6 : Hid (Blk W (t2 + 1 + 1) 53 #[.slice A s.1.length c0, .string (btj s.2)]) := HK6
  have hl2 : t2 < W.heap.size := by omega
  have hl4 : t2 + 1 < W.heap.size := by omega
  have hl6 : t2 + 1 + 1 < W.heap.size := by omega
  have f61 : W.cell? ⟨t2 + 1 + 1, 1, none⟩ = some (.string (btj s.2)) := HK6.out.cell 1
  have z61 : W.frozen? ⟨t2 + 1 + 1, 1, none⟩ = false := HK6.out.frozen 1
  have k6 : Blk (W.setCell ⟨t2 + 1 + 1, 1, none⟩ (.string (btj y))) (t2 + 1 + 1) 53 #[.slice A s.1.length c0, .string (btj y)] := by
    simpa using HK6.out.set_ 1 (.string (btj y))
  have hG := grown_setE W (t2 + 1 + 1) 1 (.string (btj y))
  have hk2b := HK2.out.grown hG (fun e => by have := Option.some.inj e; omega)
  have hk4b := HK4.out.grown hG (fun e => by have := Option.some.inj e; omega)
  have hbb : Below w.heap.size w (W.setCell ⟨t2 + 1 + 1, 1, none⟩ (.string (btj y))) := HB.out.trans (below_set W 1 _ (by rw [HT2.out]; omega))
  have HX := Lib.hid (And.intro k6 (And.intro hk2b (And.intro hk4b hbb)))
  clear hW ht2 hz n0 n1 HL k6 hG hk2b hk4b hbb HK2 HK4 HK6
  go_upto_region 9 with (fail)
  obtain ⟨W5, hW5⟩ : ∃ W5, W5 = W.setCell ⟨t2 + 1 + 1, 1, none⟩ (.string (btj y)) := ⟨_, rfl⟩
  have f71w : W5.cell? ⟨b, off + 1, none⟩ = some (.string (btj y)) := by
    rw [hW5]; exact ((below_set (B := w.heap.size) W (g := t2 + 1 + 1) 1 (.string (btj y)) (by rw [HT2.out]; omega)).cell (p := ⟨b, off + 1, none⟩) hbl).trans m1
  rw [← hW5] at HX ⊢
  clear hW5 f61 z61 m0 m1
  have f20 : W5.cell? ⟨t2, 0, none⟩ = some (.slice A s.1.length c0) := HX.out.2.1.cell 0
  rcases Nat.eq_zero_or_pos s.1.length with h0 | hp
  · have e0 : s.1 = [] := List.eq_nil_of_length_eq_zero h0
    rcases HS.out with ⟨h, _⟩ | ⟨_, rfl, rfl⟩
    · exact absurd e0 h
    rw [h0] at f20
    clear HS h0 e0 HFV
    go_quiet (fail)
    generalize hW6 : W5.drewN _ = W6
    replace HX : Hid (Blk W6 (t2 + 1 + 1) 53 #[.slice A s'.1.length c0, .string (btj y)] ∧ Blk W6 t2 53 #[.slice A s'.1.length c0, .string (btj s'.2)] ∧ Blk W6 (t2 + 1) 53 #[.slice none 0 0, .string ⟨#[]⟩] ∧ Below w.heap.size w W6) := by
      rw [← hW6]
      exact ⟨blk_drewN HX.out.1 _, blk_drewN HX.out.2.1 _, blk_drewN HX.out.2.2.1 _, below_drewN HX.out.2.2.2 _⟩
    clear hW6 f20 f71w
    have f70 : W6.cell? ⟨t2 + 1 + 1, 0, none⟩ = some (.slice A s'.1.length c0) := HX.out.1.cell 0
    have f71 : W6.cell? ⟨t2 + 1 + 1, 1, none⟩ = some (.string (btj y)) := HX.out.1.cell 1
    have f20 : W6.cell? ⟨t2, 0, none⟩ = some (.slice A s'.1.length c0) := HX.out.2.1.cell 0
    have f21 : W6.cell? ⟨t2, 1, none⟩ = some (.string (btj s'.2)) := HX.out.2.1.cell 1
    have f40 : W6.cell? ⟨t2 + 1, 0, none⟩ = some (.slice none 0 0) := HX.out.2.2.1.cell 0
    have f41 : W6.cell? ⟨t2 + 1, 1, none⟩ = some (.string ⟨#[]⟩) := HX.out.2.2.1.cell 1
    have z40 : W6.frozen? ⟨t2 + 1, 0, none⟩ = false := HX.out.2.2.1.frozen 0
    have z41 : W6.frozen? ⟨t2 + 1, 1, none⟩ = false := HX.out.2.2.1.frozen 1
    have hkn : Blk ((W6.setCell ⟨t2 + 1, 0, none⟩ (.slice A s'.1.length c0)).setCell ⟨t2 + 1, 1, none⟩ (.string (btj s'.2))) (t2 + 1) 53 #[.slice A s'.1.length c0, .string (btj s'.2)] := blk_set2 HX.out.2.2.1
    have hky : Blk ((W6.setCell ⟨t2 + 1, 0, none⟩ (.slice A s'.1.length c0)).setCell ⟨t2 + 1, 1, none⟩ (.string (btj y))) (t2 + 1) 53 #[.slice A s'.1.length c0, .string (btj y)] := blk_set2 HX.out.2.2.1
    have HKN : Hid (((W6.setCell ⟨t2 + 1, 0, none⟩ (.slice A s'.1.length c0)).setCell ⟨t2 + 1, 1, none⟩ (.string (btj s'.2))).cell? ⟨t2 + 1, 0, none⟩ = some (.slice A s'.1.length c0) ∧ ((W6.setCell ⟨t2 + 1, 0, none⟩ (.slice A s'.1.length c0)).setCell ⟨t2 + 1, 1, none⟩ (.string (btj s'.2))).cell? ⟨t2 + 1, 1, none⟩ = some (.string (btj s'.2))) := ⟨hkn.cell 0, hkn.cell 1⟩
    have HKY : Hid (((W6.setCell ⟨t2 + 1, 0, none⟩ (.slice A s'.1.length c0)).setCell ⟨t2 + 1, 1, none⟩ (.string (btj y))).cell? ⟨t2 + 1, 0, none⟩ = some (.slice A s'.1.length c0) ∧ ((W6.setCell ⟨t2 + 1, 0, none⟩ (.slice A s'.1.length c0)).setCell ⟨t2 + 1, 1, none⟩ (.string (btj y))).cell? ⟨t2 + 1, 1, none⟩ = some (.string (btj y))) := ⟨hky.cell 0, hky.cell 1⟩
    have HBN : ∀ v, Below w.heap.size w ((W6.setCell ⟨t2 + 1, 0, none⟩ (.slice A s'.1.length c0)).setCell ⟨t2 + 1, 1, none⟩ v) := fun v => HX.out.2.2.2.trans (below_set2 W6 _ _ (by rw [HT2.out]; omega))
    have HBN' := Lib.hid HBN
    clear hkn hky HBN
    go_wp2_with fail
    refine bodyPost_ret (v := .tuple #[.agg #[.slice A s'.1.length c0, .string (btj s'.2)], .string (btj (noT ++ [10]))]) (by simp [results, Tryz.results31, go_sem, HKN.out.1, HKN.out.2]; rfl) rfl ?_
    exact ⟨A, c0, rfl, HV.out.below (HBN'.out _), HBN'.out _⟩
  · have k0 : (0 : Int) < (s.1.length : Int) := by omega
    rcases HS.out with ⟨_, hf, rfl, rfl⟩ | ⟨h, rfl, rfl⟩
    · rw [hf] at HFV
      clear HS hf
      go_quiet ((go_at_call 45; exact quietl (HFV.out _)))
      generalize hW6 : W5.drewN _ = W6
      replace HX : Hid (Blk W6 (t2 + 1 + 1) 53 #[.slice A s.1.length c0, .string (btj y)] ∧ Blk W6 t2 53 #[.slice A s.1.length c0, .string (btj s.2)] ∧ Blk W6 (t2 + 1) 53 #[.slice none 0 0, .string ⟨#[]⟩] ∧ Below w.heap.size w W6) := by
        rw [← hW6]
        exact ⟨blk_drewN HX.out.1 _, blk_drewN HX.out.2.1 _, blk_drewN HX.out.2.2.1 _, below_drewN HX.out.2.2.2 _⟩
      clear hW6 f20 f71w
      have f70 : W6.cell? ⟨t2 + 1 + 1, 0, none⟩ = some (.slice A s.1.length c0) := HX.out.1.cell 0
      have f71 : W6.cell? ⟨t2 + 1 + 1, 1, none⟩ = some (.string (btj y)) := HX.out.1.cell 1
      have f20 : W6.cell? ⟨t2, 0, none⟩ = some (.slice A s.1.length c0) := HX.out.2.1.cell 0
      have f21 : W6.cell? ⟨t2, 1, none⟩ = some (.string (btj s.2)) := HX.out.2.1.cell 1
      have f40 : W6.cell? ⟨t2 + 1, 0, none⟩ = some (.slice none 0 0) := HX.out.2.2.1.cell 0
      have f41 : W6.cell? ⟨t2 + 1, 1, none⟩ = some (.string ⟨#[]⟩) := HX.out.2.2.1.cell 1
      have z40 : W6.frozen? ⟨t2 + 1, 0, none⟩ = false := HX.out.2.2.1.frozen 0
      have z41 : W6.frozen? ⟨t2 + 1, 1, none⟩ = false := HX.out.2.2.1.frozen 1
      have hkn : Blk ((W6.setCell ⟨t2 + 1, 0, none⟩ (.slice A s.1.length c0)).setCell ⟨t2 + 1, 1, none⟩ (.string (btj s.2))) (t2 + 1) 53 #[.slice A s.1.length c0, .string (btj s.2)] := blk_set2 HX.out.2.2.1
      have hky : Blk ((W6.setCell ⟨t2 + 1, 0, none⟩ (.slice A s.1.length c0)).setCell ⟨t2 + 1, 1, none⟩ (.string (btj y))) (t2 + 1) 53 #[.slice A s.1.length c0, .string (btj y)] := blk_set2 HX.out.2.2.1
      have HKN : Hid (((W6.setCell ⟨t2 + 1, 0, none⟩ (.slice A s.1.length c0)).setCell ⟨t2 + 1, 1, none⟩ (.string (btj s.2))).cell? ⟨t2 + 1, 0, none⟩ = some (.slice A s.1.length c0) ∧ ((W6.setCell ⟨t2 + 1, 0, none⟩ (.slice A s.1.length c0)).setCell ⟨t2 + 1, 1, none⟩ (.string (btj s.2))).cell? ⟨t2 + 1, 1, none⟩ = some (.string (btj s.2))) := ⟨hkn.cell 0, hkn.cell 1⟩
      have HKY : Hid (((W6.setCell ⟨t2 + 1, 0, none⟩ (.slice A s.1.length c0)).setCell ⟨t2 + 1, 1, none⟩ (.string (btj y))).cell? ⟨t2 + 1, 0, none⟩ = some (.slice A s.1.length c0) ∧ ((W6.setCell ⟨t2 + 1, 0, none⟩ (.slice A s.1.length c0)).setCell ⟨t2 + 1, 1, none⟩ (.string (btj y))).cell? ⟨t2 + 1, 1, none⟩ = some (.string (btj y))) := ⟨hky.cell 0, hky.cell 1⟩
      have HBN : ∀ v, Below w.heap.size w ((W6.setCell ⟨t2 + 1, 0, none⟩ (.slice A s.1.length c0)).setCell ⟨t2 + 1, 1, none⟩ v) := fun v => HX.out.2.2.2.trans (below_set2 W6 _ _ (by rw [HT2.out]; omega))
      have HBN' := Lib.hid HBN
      clear hkn hky HBN
      go_wp2_with fail
      refine bodyPost_ret (v := .tuple #[.agg #[.slice A s.1.length c0, .string (btj y)], .string (btj (okT ++ [10]))]) (by simp [results, Tryz.results31, go_sem, HKY.out.1, HKY.out.2]; rfl) rfl ?_
      exact ⟨A, c0, rfl, HV.out.below (HBN'.out _), HBN'.out _⟩
    · have hf : fvB y s'.1.length = false := by
        rcases h with h | h
        · rw [h] at hp; exact absurd hp (by simp)
        · exact h
      rw [hf] at HFV
      clear HS hf h
      go_quiet ((go_at_call 45; exact quietl (HFV.out _)))
      generalize hW6 : W5.drewN _ = W6
      replace HX : Hid (Blk W6 (t2 + 1 + 1) 53 #[.slice A s'.1.length c0, .string (btj y)] ∧ Blk W6 t2 53 #[.slice A s'.1.length c0, .string (btj s'.2)] ∧ Blk W6 (t2 + 1) 53 #[.slice none 0 0, .string ⟨#[]⟩] ∧ Below w.heap.size w W6) := by
        rw [← hW6]
        exact ⟨blk_drewN HX.out.1 _, blk_drewN HX.out.2.1 _, blk_drewN HX.out.2.2.1 _, below_drewN HX.out.2.2.2 _⟩
      clear hW6 f20 f71w
      have f70 : W6.cell? ⟨t2 + 1 + 1, 0, none⟩ = some (.slice A s'.1.length c0) := HX.out.1.cell 0
      have f71 : W6.cell? ⟨t2 + 1 + 1, 1, none⟩ = some (.string (btj y)) := HX.out.1.cell 1
      have f20 : W6.cell? ⟨t2, 0, none⟩ = some (.slice A s'.1.length c0) := HX.out.2.1.cell 0
      have f21 : W6.cell? ⟨t2, 1, none⟩ = some (.string (btj s'.2)) := HX.out.2.1.cell 1
      have f40 : W6.cell? ⟨t2 + 1, 0, none⟩ = some (.slice none 0 0) := HX.out.2.2.1.cell 0
      have f41 : W6.cell? ⟨t2 + 1, 1, none⟩ = some (.string ⟨#[]⟩) := HX.out.2.2.1.cell 1
      have z40 : W6.frozen? ⟨t2 + 1, 0, none⟩ = false := HX.out.2.2.1.frozen 0
      have z41 : W6.frozen? ⟨t2 + 1, 1, none⟩ = false := HX.out.2.2.1.frozen 1
      have hkn : Blk ((W6.setCell ⟨t2 + 1, 0, none⟩ (.slice A s'.1.length c0)).setCell ⟨t2 + 1, 1, none⟩ (.string (btj s'.2))) (t2 + 1) 53 #[.slice A s'.1.length c0, .string (btj s'.2)] := blk_set2 HX.out.2.2.1
      have hky : Blk ((W6.setCell ⟨t2 + 1, 0, none⟩ (.slice A s'.1.length c0)).setCell ⟨t2 + 1, 1, none⟩ (.string (btj y))) (t2 + 1) 53 #[.slice A s'.1.length c0, .string (btj y)] := blk_set2 HX.out.2.2.1
      have HKN : Hid (((W6.setCell ⟨t2 + 1, 0, none⟩ (.slice A s'.1.length c0)).setCell ⟨t2 + 1, 1, none⟩ (.string (btj s'.2))).cell? ⟨t2 + 1, 0, none⟩ = some (.slice A s'.1.length c0) ∧ ((W6.setCell ⟨t2 + 1, 0, none⟩ (.slice A s'.1.length c0)).setCell ⟨t2 + 1, 1, none⟩ (.string (btj s'.2))).cell? ⟨t2 + 1, 1, none⟩ = some (.string (btj s'.2))) := ⟨hkn.cell 0, hkn.cell 1⟩
      have HKY : Hid (((W6.setCell ⟨t2 + 1, 0, none⟩ (.slice A s'.1.length c0)).setCell ⟨t2 + 1, 1, none⟩ (.string (btj y))).cell? ⟨t2 + 1, 0, none⟩ = some (.slice A s'.1.length c0) ∧ ((W6.setCell ⟨t2 + 1, 0, none⟩ (.slice A s'.1.length c0)).setCell ⟨t2 + 1, 1, none⟩ (.string (btj y))).cell? ⟨t2 + 1, 1, none⟩ = some (.string (btj y))) := ⟨hky.cell 0, hky.cell 1⟩
      have HBN : ∀ v, Below w.heap.size w ((W6.setCell ⟨t2 + 1, 0, none⟩ (.slice A s'.1.length c0)).setCell ⟨t2 + 1, 1, none⟩ v) := fun v => HX.out.2.2.2.trans (below_set2 W6 _ _ (by rw [HT2.out]; omega))
      have HBN' := Lib.hid HBN
      clear hkn hky HBN
      go_wp2_with fail
      refine bodyPost_ret (v := .tuple #[.agg #[.slice A s'.1.length c0, .string (btj s'.2)], .string (btj (noT ++ [10]))]) (by simp [results, Tryz.results31, go_sem, HKN.out.1, HKN.out.2]; rfl) rfl ?_
      exact ⟨A, c0, rfl, HV.out.below (HBN'.out _), HBN'.out _⟩
end Go.Proofs.YtkdlipbegdiaaaaGreatDoor
