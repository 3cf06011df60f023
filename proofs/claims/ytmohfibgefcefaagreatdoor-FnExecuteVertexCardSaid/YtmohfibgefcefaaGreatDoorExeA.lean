/- The desk's kinds of lines. No condition. -/
import Derived.Test.YtmohfibgefcefaaGreatDoorBase
import Derived.Deep.RegionHeld3
import Derived.Test.YtmohfibgefcefaaGreatDoorShelfE
import Derived.Test.YtmohfibgefcefaaGreatDoorSplit
namespace Go.Proofs.YtmohfibgefcefaaGreatDoor
open Go.RowKit

/-- the cells of the kinds of lines -/
def cmdCells : Array Value := #[
  .string ⟨#[97, 110, 103, 108, 101, 115]⟩, .int .i64 1, .int .i64 301, .func (.func 132) #[] #[],
  .string ⟨#[102, 111, 108, 100, 115]⟩, .int .i64 1, .int .i64 1, .func (.func 133) #[] #[],
  .string ⟨#[109, 97, 110, 121]⟩, .int .i64 0, .int .i64 0, .func (.func 134) #[] #[],
  .string ⟨#[102, 105, 114, 115, 116]⟩, .int .i64 0, .int .i64 0, .func (.func 135) #[] #[],
  .string ⟨#[116, 101, 115, 116]⟩, .int .i64 0, .int .i64 0, .func (.func 136) #[] #[],
  .string ⟨#[99, 114, 105, 109, 112]⟩, .int .i64 1, .int .i64 1, .func (.func 137) #[] #[],
  .string ⟨#[115, 116, 114, 105, 112]⟩, .int .i64 2, .int .i64 301, .func (.func 138) #[] #[],
  .string ⟨#[115, 116, 97, 99, 107]⟩, .int .i64 1, .int .i64 1, .func (.func 139) #[] #[],
  .string ⟨#[119, 111, 114, 100]⟩, .int .i64 1, .int .i64 1, .func (.func 140) #[] #[],
  .string ⟨#[115, 116, 97, 109, 112, 115]⟩, .int .i64 1, .int .i64 1, .func (.func 141) #[] #[]]
set_option maxHeartbeats 1000000 in
set_option maxRecDepth 100000 in
theorem impl_deskCommands (w : World) :
    Calls Tryz.prog 111 #[] w fun e w' => e = .returned (.slice (some ⟨w.heap.size, 0, none⟩) 10 10) ∧ w' = w.alloc (.cells cmdCells 137) := by
  go_enter Tryz.func111, Tryz.ntmps111
  go_wp2_with fail
  go_ret
  exact ⟨rfl, rfl⟩
set_option maxHeartbeats 4000000 in
set_option maxRecDepth 100000 in
theorem impl_do_stack (td : Nat) (arg : List UInt8) (m : Int) (out : ByteArray) (ok : Bool) (w : World) (hm : w.cell? ⟨0, 0, none⟩ = some (.int .i64 m)) (_h0 : 0 < w.heap.size) (ha : (32 : UInt8) ∉ arg) (hl : arg.length ≤ 300)
    (HC : ∀ (b : Nat) (W : World), Below w.heap.size w W → W.cell? ⟨b, 1, none⟩ = some (.string (btj arg)) → Calls Tryz.prog 139 #[.pointer (some ⟨td, 0, none⟩), .slice (some ⟨b, 1, none⟩) 1 1] W fun e w' => e = .returned (.tuple #[.string out, .bool ok]) ∧ Below W.heap.size W w') :
    Calls Tryz.prog 78 #[.pointer (some ⟨td, 0, none⟩), .string (btj (joinC 32 [[115, 116, 97, 99, 107], arg]))] w fun e w' => e = .returned (.string (if ok then out else ⟨#[110, 111]⟩)) ∧ Below w.heap.size w w' := by
  have hx : ∀ x ∈ [[115, 116, 97, 99, 107], arg], (32 : UInt8) ∉ x := by
    intro x hx
    simp only [List.mem_cons, List.not_mem_nil, or_false] at hx
    rcases hx with rfl | rfl
    · decide
    · exact ha
  obtain ⟨L, hL⟩ : ∃ L, L = btj (joinC 32 [[115, 116, 97, 99, 107], arg]) := ⟨_, rfl⟩
  have hLs : L.size < 4294967281 := by
    rw [hL]
    show (List.toArray _).size < _
    simp [joinC]; omega
  have hcnt := count_join 32 [[115, 116, 97, 99, 107], arg] (by simp) hx
  have hspl := split_join 32 [[115, 116, 97, 99, 107], arg] (by simp) hx
  rw [← hL] at hcnt hspl
  have hc1 : Lib.countB L (btj [32]) = 1 := by simp at hcnt; omega
  rw [hc1] at hspl
  have HSP : Hid (∀ W : World, W.cell? ⟨0, 0, none⟩ = some (.int .i64 m) → Calls Tryz.prog 36 #[.string L, .string ⟨#[32]⟩] W fun e w' => e = .returned (.slice (some ⟨W.heap.size, 0, none⟩) 2 2) ∧ w' = W.alloc (.cells #[.string ⟨#[115, 116, 97, 99, 107]⟩, .string (btj arg)] 9)) := by
    show ∀ W : World, _
    intro W hW
    have := Tryz.strings_Split L (btj [32]) m W hLs hW (Nat.le_refl 1)
    rw [hc1, hspl] at this
    exact this
  have hsf : ∀ (a : Addr) (f : Fn) (x y : Array Value) (m : Mode) (W : World), (store a (.func f x y) m).run Tryz.prog W = stored Tryz.prog W a (.func f x y) m := fun a f x y m W => run_store _ W a _ m rfl
  have HCC := Lib.hid HC
  rw [← hL]
  clear hx hL hcnt hspl hc1 hLs HC
  go_enter Tryz.func78, Tryz.ntmps78
  go_wp2_with fail
  refine (HSP.out w hm).mono ?_
  rintro e w1 ⟨rfl, hw1⟩
  have HB1 : Hid (Below w.heap.size w w1) := by show Below _ _ _; rw [hw1]; exact (Below.refl _ _).alloc (Nat.le_refl _) _
  have HK1 : Hid (Blk w1 w.heap.size 9 #[.string ⟨#[115, 116, 97, 99, 107]⟩, .string (btj arg)]) := by show Blk _ _ _ _; rw [hw1]; exact Blk.new w _ _
  clear hw1
  go_wp2_with fail
  refine (impl_deskCommands w1).mono ?_
  rintro e w2 ⟨rfl, hw2⟩
  have hb2 : Below w1.heap.size w1 w2 := by rw [hw2]; exact (Below.refl _ _).alloc (Nat.le_refl _) _
  have HB2 := Lib.hid (HB1.out.trans (hb2.mono HB1.out.size))
  have HK2 := Lib.hid (HK1.out.below hb2 HK1.out.lt)
  have HKC : Hid (Blk w2 w1.heap.size 137 cmdCells) := by show Blk _ _ _ _; rw [hw2]; exact Blk.new w1 _ _
  obtain ⟨b, hb⟩ : ∃ b, b = w.heap.size := ⟨_, rfl⟩
  obtain ⟨cb, hcb⟩ : ∃ cb, cb = w1.heap.size := ⟨_, rfl⟩
  rw [← hb] at HK2 ⊢
  rw [← hcb] at HKC ⊢
  clear hw2 hb2 HB1 HK1 hb hcb
  go_wp2_with fail
  go_loopg [8, 18] 11 (fun gg s8 s18 wr => ∃ (k : Nat), s8 = s8 ∧ k ≤ 7 ∧ s18 = .int .i64 k ∧ 10 - k < gg ∧ Hid (Below w2.heap.size w2 wr))
  case atStart => exact ⟨0, rfl, by omega, rfl, by omega, Below.refl _ _⟩
  case round =>
    obtain ⟨k, _, hk, rfl, hg, HB⟩ := hrel
    cases gk with
    | zero => omega
    | succ g1 =>
    have hkc := HKC.out.below HB.out HKC.out.lt
    have hk2 := HK2.out.below HB.out HK2.out.lt
    have n0 : wr.cell? ⟨b, 0, none⟩ = some (.string ⟨#[115, 116, 97, 99, 107]⟩) := hk2.cell 0
    have n1 : wr.cell? ⟨b, 1, none⟩ = some (.string (btj arg)) := hk2.cell 1
    have hbl := hk2.lt
    have hcl := hkc.lt
    have HK3 := Lib.hid hk2
    have hcases : k = 0 ∨ k = 1 ∨ k = 2 ∨ k = 3 ∨ k = 4 ∨ k = 5 ∨ k = 6 ∨ k = 7 := by omega
    rcases hcases with rfl | rfl | rfl | rfl | rfl | rfl | rfl | rfl
    · have c0 := hkc.cell 0
      have c1 := hkc.cell 1
      have c2 := hkc.cell 2
      have c3 := hkc.cell 3
      simp only [cmdCells] at c0 c1 c2 c3
      simp at c0 c1 c2 c3
      clear hkc hk2
      go_wp2_with fail
      go_quiet (fail)
      go_wp2_with fail
      go_roundg g1
      case measure => omega
      case rel => exact ⟨1, trivial, by omega, by go_num, by omega, below_drewN (HB.out.alloc HB.out.size _) _⟩
    · have c0 := hkc.cell 4
      have c1 := hkc.cell 5
      have c2 := hkc.cell 6
      have c3 := hkc.cell 7
      simp only [cmdCells] at c0 c1 c2 c3
      simp at c0 c1 c2 c3
      clear hkc hk2
      go_wp2_with fail
      go_quiet (fail)
      go_wp2_with fail
      go_roundg g1
      case measure => omega
      case rel => exact ⟨2, trivial, by omega, by go_num, by omega, below_drewN (HB.out.alloc HB.out.size _) _⟩
    · have c0 := hkc.cell 8
      have c1 := hkc.cell 9
      have c2 := hkc.cell 10
      have c3 := hkc.cell 11
      simp only [cmdCells] at c0 c1 c2 c3
      simp at c0 c1 c2 c3
      clear hkc hk2
      go_wp2_with fail
      go_quiet (fail)
      go_wp2_with fail
      go_roundg g1
      case measure => omega
      case rel => exact ⟨3, trivial, by omega, by go_num, by omega, below_drewN (HB.out.alloc HB.out.size _) _⟩
    · have c0 := hkc.cell 12
      have c1 := hkc.cell 13
      have c2 := hkc.cell 14
      have c3 := hkc.cell 15
      simp only [cmdCells] at c0 c1 c2 c3
      simp at c0 c1 c2 c3
      clear hkc hk2
      go_wp2_with fail
      go_quiet (fail)
      go_wp2_with fail
      go_roundg g1
      case measure => omega
      case rel => exact ⟨4, trivial, by omega, by go_num, by omega, below_drewN (HB.out.alloc HB.out.size _) _⟩
    · have c0 := hkc.cell 16
      have c1 := hkc.cell 17
      have c2 := hkc.cell 18
      have c3 := hkc.cell 19
      simp only [cmdCells] at c0 c1 c2 c3
      simp at c0 c1 c2 c3
      clear hkc hk2
      go_wp2_with fail
      go_quiet (fail)
      go_wp2_with fail
      go_roundg g1
      case measure => omega
      case rel => exact ⟨5, trivial, by omega, by go_num, by omega, below_drewN (HB.out.alloc HB.out.size _) _⟩
    · have c0 := hkc.cell 20
      have c1 := hkc.cell 21
      have c2 := hkc.cell 22
      have c3 := hkc.cell 23
      simp only [cmdCells] at c0 c1 c2 c3
      simp at c0 c1 c2 c3
      clear hkc hk2
      go_wp2_with fail
      go_quiet (fail)
      go_wp2_with fail
      go_roundg g1
      case measure => omega
      case rel => exact ⟨6, trivial, by omega, by go_num, by omega, below_drewN (HB.out.alloc HB.out.size _) _⟩
    · have c0 := hkc.cell 24
      have c1 := hkc.cell 25
      have c2 := hkc.cell 26
      have c3 := hkc.cell 27
      simp only [cmdCells] at c0 c1 c2 c3
      simp at c0 c1 c2 c3
      clear hkc hk2
      go_wp2_with fail
      go_quiet (fail)
      go_wp2_with fail
      go_roundg g1
      case measure => omega
      case rel => exact ⟨7, trivial, by omega, by go_num, by omega, below_drewN (HB.out.alloc HB.out.size _) _⟩
    · have c0 := hkc.cell 28
      have c1 := hkc.cell 29
      have c2 := hkc.cell 30
      have c3 := hkc.cell 31
      simp only [cmdCells] at c0 c1 c2 c3
      simp at c0 c1 c2 c3
      clear hkc hk2
      go_wp2_with fail
      go_quiet (fail)
      go_wp2_with fail
      obtain ⟨wv, hwv⟩ : ∃ x, x = (wr.alloc (.cells #[.string ⟨#[115, 116, 97, 99, 107]⟩, .int .i64 1, .int .i64 1, .func (.func 139) #[] #[]] 137)).drewN nq := ⟨_, rfl⟩
      have hbv : Below wr.heap.size wr wv := by rw [hwv]; exact below_drewN ((Below.refl _ _).alloc (Nat.le_refl _) _) _
      have hkv : Blk wv wr.heap.size 137 #[.string ⟨#[115, 116, 97, 99, 107]⟩, .int .i64 1, .int .i64 1, .func (.func 139) #[] #[]] := by rw [hwv]; exact (Blk.new wr _ _).drewN _
      have k3 : wv.cell? ⟨wr.heap.size, 3, none⟩ = some (.func (.func 139) #[] #[]) := hkv.cell 3
      have m1 := (hbv.cell (p := ⟨b, 1, none⟩) hbl).trans n1
      have hlv := hkv.lt
      have hbw : Below w.heap.size w wv := (HB2.out.trans (HB.out.mono HB2.out.size)).trans (hbv.mono (Nat.le_trans HB2.out.size HB.out.size))
      have HBW := Lib.hid hbw
      have HM1 := Lib.hid m1
      obtain ⟨q, hq⟩ : ∃ q, q = wr.heap.size := ⟨_, rfl⟩
      rw [← hwv, ← hq]
      rw [← hq] at k3 hlv
      clear hwv hbv hkv hbw m1 hq c0 c1 c2 c3 n0 n1
      go_region_held3 (fun W => W.cell? ⟨q, 3, none⟩ = some (.func (.func 139) #[] #[]))
        (first | exact k3 | exact (hbx.cell (p := ⟨q, 3, none⟩) (by simpa using hlv)).trans k3)
        ((go_simp; go_at_call 139; refine (HCC.out b _ (below_drewN HBW.out _) HM1.out).mono ?_; rintro e w6 ⟨rfl, hbx⟩))
      all_goals
        have HB6 := Lib.hid ((below_drewN HBW.out 1).trans (hbx.mono HBW.out.size))
        clear hbx
        cases ok with
        | true =>
          go_wp2_with fail
          go_ret
          exact ⟨rfl, HB6.out⟩
        | false =>
          go_wp2_with fail
          go_ret
          exact ⟨rfl, HB6.out⟩
end Go.Proofs.YtmohfibgefcefaaGreatDoor
