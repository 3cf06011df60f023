/- The program's words of so many folds: the closures that fold, all words, sorted. No condition but sizes. -/
import Derived.Test.YtfhogdbhfbnocaaWordB
import Derived.Test.YtfhogdbhfbnocaaSorted
namespace Go.Proofs.Ytfhogdbhfbnocaa
open Go.RowKit

set_option maxHeartbeats 1000000 in
theorem impl_folding (s : ByteArray) (m : UInt8) (g : Nat) (w : World) (hs : s.size ≤ 100) (hg : w.cell? ⟨g, 0, none⟩ = some (.string (bts [m]))) (hgl : g < w.heap.size) :
    Calls Try.prog 42 #[.string s, .pointer (some ⟨g, 0, none⟩)] w fun e w' => e = .returned (.string (bts (s.data.toList ++ m :: othL s.data.toList))) ∧ Below w.heap.size w w' := by
  have ho : (othL s.data.toList).length = s.size := by rw [othL_len, size_list]
  obtain ⟨t, ht⟩ : ∃ t, t = bts (othL s.data.toList) := ⟨_, rfl⟩
  have hts : t.size = s.size := by rw [ht]; show (List.toArray _).size = _; simp [ho]
  have a1 : ∀ W, (Op.stringOp .add s (bts [m])).run Try.prog W = .ok (.string (s ++ bts [m])) W := fun W => run_string_add_sum W _ _ (by show s.size + 1 ≤ _; omega)
  have hs1 : (s ++ bts [m]).size = s.size + 1 := by rw [ByteArray.size_append]; rfl
  have a2 : ∀ W, (Op.stringOp .add (s ++ bts [m]) t).run Try.prog W = .ok (.string (s ++ bts [m] ++ t)) W := fun W => run_string_add_sum W _ _ (by rw [hs1, hts]; omega)
  have hr : s ++ bts [m] ++ t = bts (s.data.toList ++ m :: othL s.data.toList) := by
    rw [ht]
    have e : s = bts s.data.toList := rfl
    rw [e]
    show bts _ ++ bts _ ++ bts _ = _
    rw [ByteArray.mk_append_mk, ByteArray.mk_append_mk]
    congr 1
    simp
  have HT := Lib.hid ht
  have HR := Lib.hid hr
  clear ho ht hts hs1 hr
  go_enter Try.func42, Try.ntmps42
  go_wp2_with fail
  go_region_held3 (fun W => W.cell? ⟨g, 0, none⟩ = some (.string (bts [m])))
    (first | exact hg | exact (hbx.cell (p := ⟨g, 0, none⟩) (by simpa using hgl)).trans hg)
    ((go_simp; go_at_call 29; refine (impl_otherSide s _ (by omega)).mono ?_; rw [← HT.out]; rintro e w1 ⟨rfl, hbx⟩))
  all_goals
    go_wp2_with fail
    go_ret
    exact ⟨by rw [HR.out]; rfl, below_from (below_drewN (Below.refl _ _) 1) hbx (Nat.le_refl _)⟩
/-- what a function that folds is -/
def FoldV (w : World) (m : UInt8) (v : Value) (g : Nat) : Prop := v = .func (.func 42) #[] #[.pointer (some ⟨g, 0, none⟩)] ∧ g < w.heap.size ∧ w.cell? ⟨g, 0, none⟩ = some (.string (bts [m]))
set_option maxHeartbeats 400000 in
theorem impl_ahead (m : UInt8) (w : World) :
    Calls Try.prog 41 #[.string (bts [m])] w fun e w' => (∃ v g, e = .returned v ∧ FoldV w' m v g) ∧ Below w.heap.size w w' := by
  go_enter Try.func41, Try.ntmps41
  go_wp2_with fail
  go_ret
  exact ⟨⟨_, w.heap.size, rfl, rfl, by simp, by simp⟩, (Below.refl _ _).alloc (Nat.le_refl _) _⟩
set_option maxHeartbeats 400000 in
theorem impl_foldR (w : World) :
    Calls Try.prog 32 #[.int .u8 82] w fun e w' => (∃ v g, e = .returned v ∧ FoldV w' 86 v g) ∧ Below w.heap.size w w' := by
  go_enter Try.func32, Try.ntmps32
  go_wp2_with fail
  refine (impl_ahead 86 w).mono ?_
  rintro e w1 ⟨⟨v, g, rfl, hv⟩, hb⟩
  go_wp2_with fail
  go_ret
  exact ⟨⟨_, g, rfl, hv⟩, hb⟩
set_option maxHeartbeats 400000 in
theorem impl_foldr (w : World) :
    Calls Try.prog 32 #[.int .u8 114] w fun e w' => (∃ v g, e = .returned v ∧ FoldV w' 77 v g) ∧ Below w.heap.size w w' := by
  go_enter Try.func32, Try.ntmps32
  go_wp2_with fail
  refine (impl_ahead 77 w).mono ?_
  rintro e w1 ⟨⟨v, g, rfl, hv⟩, hb⟩
  go_wp2_with fail
  go_ret
  exact ⟨⟨_, g, rfl, hv⟩, hb⟩
def stepI (w : Tx) : List Tx := [w ++ 86 :: othL w, w ++ 77 :: othL w]
theorem wlI_succ (n : Nat) : wlI (n + 1) = (wlI n).flatMap stepI := rfl
theorem stepI_take {L : List Tx} {k : Nat} (hk : k < L.length) : (L.take (k + 1)).flatMap stepI = (L.take k).flatMap stepI ++ [L[k] ++ 86 :: othL L[k], L[k] ++ 77 :: othL L[k]] := by
  rw [List.take_succ_eq_append_getElem hk, List.flatMap_append]
  simp [stepI]
theorem flat_len (L : List Tx) : (L.flatMap stepI).length = 2 * L.length := by
  induction L with
  | nil => rfl
  | cons x l ih => rw [List.flatMap_cons, List.length_append, ih]; simp [stepI]; omega
theorem wlI_small {n : Nat} (hn : n ≤ 6) : (wlI n).length ≤ 64 := by
  rw [wlI_len]
  exact Nat.le_trans (Nat.pow_le_pow_right (by omega) hn) (by decide)
theorem wlI_short {n : Nat} (hn : n ≤ 6) {x : Tx} (h : x ∈ wlI n) : x.length ≤ 63 := by
  have h1 := wlI_size h
  have h2 : 2 ^ n ≤ 2 ^ 6 := Nat.pow_le_pow_right (by omega) hn
  have h3 : 2 ^ 6 = 64 := by decide
  omega
theorem ownS_pair (W : World) (a b : Tx) : Strs (W.alloc (.cells #[encStr a, encStr b] 9)) (some ⟨W.heap.size, 0, none⟩) [a, b] := by
  intro _
  refine ⟨W.heap.size, 0, rfl, by simp, fun k x hk => ?_⟩
  match k, hk with
  | 0, hk => cases hk; simp
  | 1, hk => cases hk; simp
set_option maxHeartbeats 2000000 in
set_option maxRecDepth 100000 in
theorem impl_wordsOf (n : Nat) (w : World) (hn : n ≤ 6) :
    Calls Try.prog 20 #[.int .i64 n] w fun e w' => ∃ g cap, e = .returned (.slice (some ⟨g, 0, none⟩) (srt (wlI n)).length cap) ∧ OwnS w' w.heap.size (.slice (some ⟨g, 0, none⟩) (srt (wlI n)).length cap) (srt (wlI n)) ∧ Below w.heap.size w w' := by
  go_enter Try.func20, Try.ntmps20
  obtain ⟨w1, hw1⟩ : ∃ w1, w1 = w.alloc (.cells #[.string { data := #[] }] 9) := ⟨_, rfl⟩
  have HB1 : Hid (Below w.heap.size w w1) := by show Below _ _ _; rw [hw1]; exact (Below.refl _ _).alloc (Nat.le_refl _) _
  have HO1 : Hid (OwnS w1 w.heap.size (.slice (some ⟨w.heap.size, 0, none⟩) 1 1) (wlI 0)) := by
    show OwnS _ _ _ _
    rw [hw1]
    exact World.ownsRow_lit w #[.string { data := #[] }] 1 (Nat.le_refl _) (by unfold maxLen; omega) rfl
  have HW1 := Lib.hid hw1
  clear hw1
  go_wp2_with fail
  rw [← HW1.out]
  go_loopg [3, 4, 6, 9] (n + 1) (fun gg s3 s4 s6 s9 wr => ∃ (j : Nat), s4 = s4 ∧ s6 = s6 ∧ j ≤ n ∧ s9 = .int .i64 j ∧ n - j < gg ∧ Hid (Below w.heap.size w wr) ∧ Hid (OwnS wr w.heap.size s3 (wlI j)))
  case atStart => exact ⟨0, rfl, rfl, Nat.zero_le _, rfl, by omega, HB1, HO1⟩
  case round =>
    clear HB1 HO1 HW1
    obtain ⟨j, _, _, hj, rfl, hg, HB, HO⟩ := hrel
    cases gk with
    | zero => omega
    | succ g1 =>
    obtain ⟨wo, hwo⟩ : ∃ wo, wo = wr := ⟨_, rfl⟩
    subst hwo
    obtain ⟨A, c, rfl, hS, hLc, hcm⟩ := HO.out.form
    by_cases hlt : j < n
    · obtain ⟨L, hL⟩ : ∃ L, L = wlI j := ⟨_, rfl⟩
      have hll : L.length ≤ 64 := by rw [hL]; exact wlI_small (by omega)
      have hls : ∀ x ∈ L, x.length ≤ 63 := fun x hx => wlI_short (n := j) (by omega) (by rw [← hL]; exact hx)
      rw [← hL] at hS hLc ⊢
      have HL := Lib.hid hL
      have HLs := Lib.hid hls
      have HS := Lib.hid hS
      obtain ⟨i0, hi, hz0, hz1, hz2⟩ := info_parts Try.infoStr
      obtain ⟨w2, hrun, hown2, hg2⟩ := run_make_own (P := Try.prog) wo wo.heap.size 35 9 i0 (.string ByteArray.empty) 1 Try.underlying35 hi hz0 hz1 .i64 .i64 (2 * L.length) (by rw [hz2]; omega) (by unfold maxLen; omega) (Nat.le_refl _)
      have hb2 : Below wo.heap.size wo w2 := (Below.refl _ _).grown hg2 (Nat.le_refl _) (by intro k hk; cases hk)
      have HRun : Hid ((Instr.makeSlice 35 (.int .i64 0) (.int .i64 (2 * (L.length : Int)))).run Try.prog wo = .ok (.slice (some ⟨wo.heap.size, 0, none⟩) 0 (2 * L.length)) w2) := by
        show _ = _
        have := hrun
        simpa using this
      have HO2 : Hid (OwnS w2 wo.heap.size (.slice (some ⟨wo.heap.size, 0, none⟩) 0 (2 * L.length)) ((L.take 0).flatMap stepI)) := hown2
      have HB2 := Lib.hid hb2
      have kw : IntKind.i64.wrap (2 * (L.length : Int)) = 2 * (L.length : Int) := IntWalk.i64_in _ (by omega)
      clear hL hls hS hi hz0 hz1 hz2 hrun hown2 hg2 hb2 HO
      go_wp2_with fail
      rw [HRun.out]
      clear HRun
      go_wp2_with fail
      go_loopg [4, 6, 17] (L.length + 1) (fun gg s4 s6 s17 wr => ∃ (k : Nat), s6 = s6 ∧ k ≤ L.length ∧ s17 = .int .i64 k ∧ L.length - k < gg ∧ Hid (Below wo.heap.size wo wr) ∧ Hid (OwnS wr wo.heap.size s4 ((L.take k).flatMap stepI)))
      case atStart => exact ⟨0, rfl, Nat.zero_le _, rfl, by omega, HB2, HO2⟩
      case round =>
        clear HB2 HO2
        obtain ⟨k, _, hk, rfl, hg, HBs, HOs⟩ := hrel
        cases gk with
        | zero => omega
        | succ g2 =>
        by_cases hkl : k < L.length
        · obtain ⟨b, off, rfl, hb, hc⟩ := HS.out.below HBs.out (by intro e; rw [e] at hkl; simp at hkl)
          have r1 := hc k L[k] (List.getElem?_eq_getElem hkl)
          have hxl := HLs.out L[k] (List.getElem_mem hkl)
          obtain ⟨x, hx⟩ : ∃ x, x = L[k] := ⟨_, rfl⟩
          have hst := stepI_take hkl
          rw [← hx] at r1 hxl hst
          have k1 : (k : Int) < (L.length : Int) := by omega
          have k0 : (0 : Int) ≤ (k : Int) := by omega
          have hxs : (bts x).size ≤ 100 := by show (List.toArray x).size ≤ 100; simp; omega
          have HST := Lib.hid hst
          clear hc hst hx
          go_wp2_with fail
          refine (impl_foldR wr).mono ?_
          rintro e w3 ⟨⟨v3, g3, rfl, rfl, hg3, hc3⟩, hb3⟩
          have HB3 := Lib.hid (below_from HBs.out hb3 HBs.out.size)
          go_wp2_with fail
          refine (impl_folding (bts x) 86 g3 w3 hxs hc3 hg3).mono ?_
          rintro e w4 ⟨rfl, hb4⟩
          have HB4 := Lib.hid (below_from HB3.out hb4 HB3.out.size)
          go_wp2_with fail
          refine (impl_foldr w4).mono ?_
          rintro e w5 ⟨⟨v5, g5, rfl, rfl, hg5, hc5⟩, hb5⟩
          have HB5 := Lib.hid (below_from HB4.out hb5 HB4.out.size)
          go_wp2_with fail
          refine (impl_folding (bts x) 77 g5 w5 hxs hc5 hg5).mono ?_
          rintro e w6 ⟨rfl, hb6⟩
          have HB6 := Lib.hid (below_from HB5.out hb6 HB5.out.size)
          have hbs6 : Below wr.heap.size wr w6 := below_from (below_from (below_from hb3 hb4 hb3.size) hb5 (hb3.trans (hb4.mono hb3.size)).size) hb6 ((hb3.trans (hb4.mono hb3.size)).trans (hb5.mono (hb3.trans (hb4.mono hb3.size)).size)).size
          have hown6 := own_belowS HOs.out hbs6
          have hln : ((L.take k).flatMap stepI).length ≤ 128 := by rw [flat_len, List.length_take]; omega
          have hown6b := own_belowS hown6 ((Below.refl w6.heap.size w6).alloc (Nat.le_refl _) (.cells #[encStr (x ++ 86 :: othL x), encStr (x ++ 77 :: othL x)] 9))
          have hzz : wo.heap.size ≤ (w6.alloc (.cells #[encStr (x ++ 86 :: othL x), encStr (x ++ 77 :: othL x)] 9)).heap.size := Nat.le_trans HB6.out.size (by simp)
          have HOB := Lib.hid hown6b
          have HPP := Lib.hid (ownS_pair w6 (x ++ 86 :: othL x) (x ++ 77 :: othL x))
          clear hown6 hown6b hb3 hb4 hb5 hb6 hbs6 hc3 hc5 HBs HOs HB3 HB4 HB5
          go_wp2_with (at_builtin; go_loud (refine wpList_appS (by rfl) _ _ (by rfl) wo.heap.size _ ((L.take k).flatMap stepI) [x ++ 86 :: othL x, x ++ 77 :: othL x] _ _ (by rfl) 2 rfl (by rfl) HOB.out HPP.out hzz (by show _ + 2 ≤ _; omega) ?_))
          intro v7 w7 hown7 hgr7 hb7
          rw [← HST.out] at hown7
          have HO7 := Lib.hid hown7
          have HB7 := Lib.hid ((HB6.out.alloc HB6.out.size _).trans hb7)
          clear hown7 hgr7 hb7
          go_wp2_with fail
          go_roundg g2
          case measure => omega
          case rel => exact ⟨k + 1, trivial, by omega, by go_num, by omega, HB7, HO7⟩
        · obtain rfl : k = L.length := by omega
          have h1 := HOs.out
          rw [List.take_length] at h1
          have h2 : L.flatMap stepI = wlI (j + 1) := by rw [wlI_succ, HL.out]
          rw [h2] at h1
          have HO3 := Lib.hid (own_lowS (B' := w.heap.size) h1 fun g hg => Nat.le_trans HB.out.size (World.ownsRow.lt h1 g hg).1)
          clear h1 h2
          have HB3 := Lib.hid (below_from HB.out HBs.out HB.out.size)
          clear HBs HOs
          go_wp2_with fail
          go_roundg g1
          case measure => omega
          case rel => exact ⟨j + 1, trivial, trivial, by omega, by go_num, by omega, HB3, HO3⟩
    · obtain rfl : j = n := by omega
      have hL1 : 1 ≤ (wlI j).length := by rw [wlI_len]; exact Nat.two_pow_pos j
      obtain ⟨g0, e0⟩ := ownS_addr HO.out hL1
      cases e0
      have hlm : (wlI j).length ≤ 1000000 := Nat.le_trans (wlI_small hn) (by decide)
      have HS := Lib.hid (slices_Sort wo w.heap.size g0 c (wlI j) HO.out hlm)
      clear HO hS
      go_wp2_with fail
      refine HS.out.mono ?_
      rintro e w2 ⟨rfl, ho2, hb2⟩
      have b2 := HB.out.trans hb2
      have HO2 := Lib.hid ho2
      clear hb2 ho2
      go_wp2_with fail
      go_ret
      exact ⟨g0, c, by rw [(srt_perm (wlI j)).length_eq]; rfl, HO2.out, b2⟩
end Go.Proofs.Ytfhogdbhfbnocaa
