/- Texts joined by a byte and split at it. No program, no condition. The desk's kinds of lines. No condition. The desk's word line. No condition but sizes. A line answered: the deferred closure of 'answer'. No condition but sizes. -/
import Derived.Lib.SplitLaws
import Derived.Lib.CountLaws
import Derived.Lib.Split
import Derived.Test.YtmohfibgefcefaaGreatDoorBase
import Derived.Deep.RegionHeld3
import Derived.Test.YtmohfibgefcefaaGreatDoorFnExecuteSheetP48
import Derived.Defers
import Derived.Recover
namespace Go.Proofs.YtmohfibgefcefaaGreatDoor
open Go

/-- a text out of its bytes -/
abbrev btj (cs : List UInt8) : ByteArray := ⟨cs.toArray⟩
/-- pieces with a byte between them -/
def joinC (c : UInt8) : List (List UInt8) → List UInt8
  | [] => []
  | [x] => x
  | x :: y :: r => x ++ c :: joinC c (y :: r)
theorem index_none {a : List UInt8} {c : UInt8} (h : c ∉ a) : Lib.index a [c] = -1 := by
  induction a with
  | nil => rfl
  | cons b l ih =>
    have h1 : c ≠ b := fun e => h (by simp [e])
    have h2 : c ∉ l := fun e => h (by simp [e])
    have hp : [c].isPrefixOf (b :: l) = false := by simp [List.isPrefixOf, h1]
    unfold Lib.index
    rw [hp, ih h2]; rfl
theorem index_first {a r : List UInt8} {c : UInt8} (h : c ∉ a) : Lib.index (a ++ c :: r) [c] = (a.length : Int) := by
  induction a with
  | nil =>
    show Lib.index (c :: r) [c] = 0
    unfold Lib.index
    have hp : [c].isPrefixOf (c :: r) = true := by simp [List.isPrefixOf]
    rw [hp]; rfl
  | cons b l ih =>
    have h1 : c ≠ b := fun e => h (by simp [e])
    have h2 : c ∉ l := fun e => h (by simp [e])
    have hp : [c].isPrefixOf (b :: (l ++ c :: r)) = false := by simp [List.isPrefixOf, h1]
    show Lib.index (b :: (l ++ c :: r)) [c] = _
    unfold Lib.index
    rw [hp, ih h2]
    have hne : ((l.length : Int) == -1) = false := by rw [beq_eq_false_iff_ne]; omega
    simp only [Bool.false_eq_true, if_false, hne, List.length_cons]
    omega
theorem indexB_none {a : List UInt8} {c : UInt8} (h : c ∉ a) : Lib.indexB (btj a) (btj [c]) = -1 := index_none h
theorem indexB_first {a r : List UInt8} {c : UInt8} (h : c ∉ a) : Lib.indexB (btj (a ++ c :: r)) (btj [c]) = (a.length : Int) := index_first h
theorem ext_head (a r : List UInt8) : (btj (a ++ r)).extract 0 a.length = btj a := by
  apply ByteArray.ext; apply Array.ext'
  rw [ByteArray.data_extract, Array.toList_extract, List.extract_eq_take_drop]
  show ((a ++ r).drop 0).take (a.length - 0) = a
  simp
theorem ext_tail (a r : List UInt8) (c : UInt8) : (btj (a ++ c :: r)).extract (a.length + 1) (btj (a ++ c :: r)).size = btj r := by
  apply ByteArray.ext; apply Array.ext'
  rw [ByteArray.data_extract, Array.toList_extract, List.extract_eq_take_drop]
  have hs : (btj (a ++ c :: r)).size = a.length + 1 + r.length := by show (List.toArray _).size = _; simp; omega
  rw [hs]
  show ((a ++ c :: r).drop (a.length + 1)).take (a.length + 1 + r.length - (a.length + 1)) = r
  rw [List.drop_append, List.drop_of_length_le (by omega)]
  simp
theorem count_join (c : UInt8) (xs : List (List UInt8)) (h0 : xs ≠ []) (hx : ∀ x ∈ xs, c ∉ x) : Lib.countB (btj (joinC c xs)) (btj [c]) + 1 = xs.length := by
  induction xs with
  | nil => exact absurd rfl h0
  | cons x r ih =>
    cases r with
    | nil =>
      show Lib.countB (btj x) (btj [c]) + 1 = 1
      rw [Lib.countB_miss _ _ (indexB_none (hx x (by simp)))]
    | cons y r =>
      show Lib.countB (btj (x ++ c :: joinC c (y :: r))) (btj [c]) + 1 = _
      rw [Lib.countB_hit _ (btj [c]) x.length (show 1 ≤ (btj [c]).size from Nat.le_refl 1) (indexB_first (hx x (by simp)))]
      have e : (btj [c]).size = 1 := rfl
      rw [e, ext_tail]
      have := ih (by simp) (fun z hz => hx z (by simp at hz ⊢; exact Or.inr hz))
      simp only [List.length_cons] at this ⊢
      omega
theorem split_join (c : UInt8) (xs : List (List UInt8)) (h0 : xs ≠ []) (hx : ∀ x ∈ xs, c ∉ x) : Lib.splitB (btj [c]) 0 (Lib.countB (btj (joinC c xs)) (btj [c])) (btj (joinC c xs)) = xs.map btj := by
  induction xs with
  | nil => exact absurd rfl h0
  | cons x r ih =>
    cases r with
    | nil =>
      show Lib.splitB _ 0 _ (btj x) = [btj x]
      rw [Lib.splitB_miss _ _ _ _ (indexB_none (hx x (by simp)))]
    | cons y r =>
      have hi := indexB_first (r := joinC c (y :: r)) (hx x (by simp))
      have hc : Lib.countB (btj (joinC c (x :: y :: r))) (btj [c]) = Lib.countB (btj (joinC c (y :: r))) (btj [c]) + 1 := by
        show Lib.countB (btj (x ++ c :: joinC c (y :: r))) (btj [c]) = _
        rw [Lib.countB_hit _ (btj [c]) x.length (show 1 ≤ (btj [c]).size from Nat.le_refl 1) hi]
        have e : (btj [c]).size = 1 := rfl
        rw [e, ext_tail]; omega
      rw [hc]
      show Lib.splitB _ 0 (_ + 1) (btj (x ++ c :: joinC c (y :: r))) = _
      rw [Lib.splitB_hit _ _ _ _ x.length hi]
      have e : (btj [c]).size = 1 := rfl
      rw [e, ext_tail, Nat.add_zero, ext_head, ih (by simp) (fun z hz => hx z (by simp at hz ⊢; exact Or.inr hz))]
      rfl
end Go.Proofs.YtmohfibgefcefaaGreatDoor
namespace Go.Proofs.YtmohfibgefcefaaGreatDoor
open Go.RowKit

/-- the cells of the kinds of lines -/
def cmdCells : Array Value := #[
  .string ⟨#[97, 110, 103, 108, 101, 115]⟩, .int .i64 1, .int .i64 301, .func (.func 132) #[] #[],
  .string ⟨#[102, 111, 108, 100, 115]⟩, .int .i64 1, .int .i64 1, .func (.func 133) #[] #[],
  .string ⟨#[109, 97, 110, 121]⟩, .int .i64 0, .int .i64 0, .func (.func 134) #[] #[],
  .string ⟨#[102, 105, 114, 115, 116]⟩, .int .i64 0, .int .i64 0, .func (.func 135) #[] #[],
  .string ⟨#[116, 101, 115, 116]⟩, .int .i64 0, .int .i64 0, .func (.func 136) #[] #[],
  .string ⟨#[99, 114, 105, 109, 112]⟩, .int .i64 1, .int .i64 1, .func (.func 137) #[] #[],
  .string ⟨#[115, 116, 114, 105, 112]⟩, .int .i64 2, .int .i64 301, .func (.func 138) #[] #[],
  .string ⟨#[115, 116, 97, 99, 107]⟩, .int .i64 1, .int .i64 1, .func (.func 139) #[] #[],
  .string ⟨#[119, 111, 114, 100]⟩, .int .i64 1, .int .i64 1, .func (.func 140) #[] #[],
  .string ⟨#[115, 116, 97, 109, 112, 115]⟩, .int .i64 1, .int .i64 1, .func (.func 141) #[] #[]]
set_option maxHeartbeats 1000000 in
set_option maxRecDepth 100000 in
theorem impl_deskCommands (w : World) :
    Calls Tryz.prog 111 #[] w fun e w' => e = .returned (.slice (some ⟨w.heap.size, 0, none⟩) 10 10) ∧ w' = w.alloc (.cells cmdCells 137) := by
  go_enter Tryz.func111, Tryz.ntmps111
  go_wp2_with fail
  go_ret
  exact ⟨rfl, rfl⟩
set_option maxHeartbeats 4000000 in
set_option maxRecDepth 100000 in
theorem impl_do_stack (td : Nat) (arg : List UInt8) (m : Int) (out : ByteArray) (ok : Bool) (w : World) (hm : w.cell? ⟨0, 0, none⟩ = some (.int .i64 m)) (_h0 : 0 < w.heap.size) (ha : (32 : UInt8) ∉ arg) (hl : arg.length ≤ 300)
    (HC : ∀ (b : Nat) (W : World), Below w.heap.size w W → W.cell? ⟨b, 1, none⟩ = some (.string (btj arg)) → Calls Tryz.prog 139 #[.pointer (some ⟨td, 0, none⟩), .slice (some ⟨b, 1, none⟩) 1 1] W fun e w' => e = .returned (.tuple #[.string out, .bool ok]) ∧ Below W.heap.size W w') :
    Calls Tryz.prog 78 #[.pointer (some ⟨td, 0, none⟩), .string (btj (joinC 32 [[115, 116, 97, 99, 107], arg]))] w fun e w' => e = .returned (.string (if ok then out else ⟨#[110, 111]⟩)) ∧ Below w.heap.size w w' := by
  have hx : ∀ x ∈ [[115, 116, 97, 99, 107], arg], (32 : UInt8) ∉ x := by
    intro x hx
    simp only [List.mem_cons, List.not_mem_nil, or_false] at hx
    rcases hx with rfl | rfl
    · decide
    · exact ha
  obtain ⟨L, hL⟩ : ∃ L, L = btj (joinC 32 [[115, 116, 97, 99, 107], arg]) := ⟨_, rfl⟩
  have hLs : L.size < 4294967281 := by
    rw [hL]
    show (List.toArray _).size < _
    simp [joinC]; omega
  have hcnt := count_join 32 [[115, 116, 97, 99, 107], arg] (by simp) hx
  have hspl := split_join 32 [[115, 116, 97, 99, 107], arg] (by simp) hx
  rw [← hL] at hcnt hspl
  have hc1 : Lib.countB L (btj [32]) = 1 := by simp at hcnt; omega
  rw [hc1] at hspl
  have HSP : Hid (∀ W : World, W.cell? ⟨0, 0, none⟩ = some (.int .i64 m) → Calls Tryz.prog 36 #[.string L, .string ⟨#[32]⟩] W fun e w' => e = .returned (.slice (some ⟨W.heap.size, 0, none⟩) 2 2) ∧ w' = W.alloc (.cells #[.string ⟨#[115, 116, 97, 99, 107]⟩, .string (btj arg)] 9)) := by
    show ∀ W : World, _
    intro W hW
    have := Tryz.strings_Split L (btj [32]) m W hLs hW (Nat.le_refl 1)
    rw [hc1, hspl] at this
    exact this
  have hsf : ∀ (a : Addr) (f : Fn) (x y : Array Value) (m : Mode) (W : World), (store a (.func f x y) m).run Tryz.prog W = stored Tryz.prog W a (.func f x y) m := fun a f x y m W => run_store _ W a _ m rfl
  have HCC := Lib.hid HC
  rw [← hL]
  clear hx hL hcnt hspl hc1 hLs HC
  go_enter Tryz.func78, Tryz.ntmps78
  go_wp2_with fail
  refine (HSP.out w hm).mono ?_
  rintro e w1 ⟨rfl, hw1⟩
  have HB1 : Hid (Below w.heap.size w w1) := by show Below _ _ _; rw [hw1]; exact (Below.refl _ _).alloc (Nat.le_refl _) _
  have HK1 : Hid (Blk w1 w.heap.size 9 #[.string ⟨#[115, 116, 97, 99, 107]⟩, .string (btj arg)]) := by show Blk _ _ _ _; rw [hw1]; exact Blk.new w _ _
  clear hw1
  go_wp2_with fail
  refine (impl_deskCommands w1).mono ?_
  rintro e w2 ⟨rfl, hw2⟩
  have hb2 : Below w1.heap.size w1 w2 := by rw [hw2]; exact (Below.refl _ _).alloc (Nat.le_refl _) _
  have HB2 := Lib.hid (HB1.out.trans (hb2.mono HB1.out.size))
  have HK2 := Lib.hid (HK1.out.below hb2 HK1.out.lt)
  have HKC : Hid (Blk w2 w1.heap.size 137 cmdCells) := by show Blk _ _ _ _; rw [hw2]; exact Blk.new w1 _ _
  obtain ⟨b, hb⟩ : ∃ b, b = w.heap.size := ⟨_, rfl⟩
  obtain ⟨cb, hcb⟩ : ∃ cb, cb = w1.heap.size := ⟨_, rfl⟩
  rw [← hb] at HK2 ⊢
  rw [← hcb] at HKC ⊢
  clear hw2 hb2 HB1 HK1 hb hcb
  go_wp2_with fail
  go_loopg [8, 18] 11 (fun gg s8 s18 wr => ∃ (k : Nat), s8 = s8 ∧ k ≤ 7 ∧ s18 = .int .i64 k ∧ 10 - k < gg ∧ Hid (Below w2.heap.size w2 wr))
  case atStart => exact ⟨0, rfl, by omega, rfl, by omega, Below.refl _ _⟩
  case round =>
    obtain ⟨k, _, hk, rfl, hg, HB⟩ := hrel
    cases gk with
    | zero => omega
    | succ g1 =>
    have hkc := HKC.out.below HB.out HKC.out.lt
    have hk2 := HK2.out.below HB.out HK2.out.lt
    have n0 : wr.cell? ⟨b, 0, none⟩ = some (.string ⟨#[115, 116, 97, 99, 107]⟩) := hk2.cell 0
    have n1 : wr.cell? ⟨b, 1, none⟩ = some (.string (btj arg)) := hk2.cell 1
    have hbl := hk2.lt
    have hcl := hkc.lt
    have HK3 := Lib.hid hk2
    have hcases : k = 0 ∨ k = 1 ∨ k = 2 ∨ k = 3 ∨ k = 4 ∨ k = 5 ∨ k = 6 ∨ k = 7 := by omega
    rcases hcases with rfl | rfl | rfl | rfl | rfl | rfl | rfl | rfl
    · have c0 := hkc.cell 0
      have c1 := hkc.cell 1
      have c2 := hkc.cell 2
      have c3 := hkc.cell 3
      simp only [cmdCells] at c0 c1 c2 c3
      simp at c0 c1 c2 c3
      clear hkc hk2
      go_wp2_with fail
      go_quiet (fail)
      go_wp2_with fail
      go_roundg g1
      case measure => omega
      case rel => exact ⟨1, trivial, by omega, by go_num, by omega, below_drewN (HB.out.alloc HB.out.size _) _⟩
    · have c0 := hkc.cell 4
      have c1 := hkc.cell 5
      have c2 := hkc.cell 6
      have c3 := hkc.cell 7
      simp only [cmdCells] at c0 c1 c2 c3
      simp at c0 c1 c2 c3
      clear hkc hk2
      go_wp2_with fail
      go_quiet (fail)
      go_wp2_with fail
      go_roundg g1
      case measure => omega
      case rel => exact ⟨2, trivial, by omega, by go_num, by omega, below_drewN (HB.out.alloc HB.out.size _) _⟩
    · have c0 := hkc.cell 8
      have c1 := hkc.cell 9
      have c2 := hkc.cell 10
      have c3 := hkc.cell 11
      simp only [cmdCells] at c0 c1 c2 c3
      simp at c0 c1 c2 c3
      clear hkc hk2
      go_wp2_with fail
      go_quiet (fail)
      go_wp2_with fail
      go_roundg g1
      case measure => omega
      case rel => exact ⟨3, trivial, by omega, by go_num, by omega, below_drewN (HB.out.alloc HB.out.size _) _⟩
    · have c0 := hkc.cell 12
      have c1 := hkc.cell 13
      have c2 := hkc.cell 14
      have c3 := hkc.cell 15
      simp only [cmdCells] at c0 c1 c2 c3
      simp at c0 c1 c2 c3
      clear hkc hk2
      go_wp2_with fail
      go_quiet (fail)
      go_wp2_with fail
      go_roundg g1
      case measure => omega
      case rel => exact ⟨4, trivial, by omega, by go_num, by omega, below_drewN (HB.out.alloc HB.out.size _) _⟩
    · have c0 := hkc.cell 16
      have c1 := hkc.cell 17
      have c2 := hkc.cell 18
      have c3 := hkc.cell 19
      simp only [cmdCells] at c0 c1 c2 c3
      simp at c0 c1 c2 c3
      clear hkc hk2
      go_wp2_with fail
      go_quiet (fail)
      go_wp2_with fail
      go_roundg g1
      case measure => omega
      case rel => exact ⟨5, trivial, by omega, by go_num, by omega, below_drewN (HB.out.alloc HB.out.size _) _⟩
    · have c0 := hkc.cell 20
      have c1 := hkc.cell 21
      have c2 := hkc.cell 22
      have c3 := hkc.cell 23
      simp only [cmdCells] at c0 c1 c2 c3
      simp at c0 c1 c2 c3
      clear hkc hk2
      go_wp2_with fail
      go_quiet (fail)
      go_wp2_with fail
      go_roundg g1
      case measure => omega
      case rel => exact ⟨6, trivial, by omega, by go_num, by omega, below_drewN (HB.out.alloc HB.out.size _) _⟩
    · have c0 := hkc.cell 24
      have c1 := hkc.cell 25
      have c2 := hkc.cell 26
      have c3 := hkc.cell 27
      simp only [cmdCells] at c0 c1 c2 c3
      simp at c0 c1 c2 c3
      clear hkc hk2
      go_wp2_with fail
      go_quiet (fail)
      go_wp2_with fail
      go_roundg g1
      case measure => omega
      case rel => exact ⟨7, trivial, by omega, by go_num, by omega, below_drewN (HB.out.alloc HB.out.size _) _⟩
    · have c0 := hkc.cell 28
      have c1 := hkc.cell 29
      have c2 := hkc.cell 30
      have c3 := hkc.cell 31
      simp only [cmdCells] at c0 c1 c2 c3
      simp at c0 c1 c2 c3
      clear hkc hk2
      go_wp2_with fail
      go_quiet (fail)
      go_wp2_with fail
      obtain ⟨wv, hwv⟩ : ∃ x, x = (wr.alloc (.cells #[.string ⟨#[115, 116, 97, 99, 107]⟩, .int .i64 1, .int .i64 1, .func (.func 139) #[] #[]] 137)).drewN nq := ⟨_, rfl⟩
      have hbv : Below wr.heap.size wr wv := by rw [hwv]; exact below_drewN ((Below.refl _ _).alloc (Nat.le_refl _) _) _
      have hkv : Blk wv wr.heap.size 137 #[.string ⟨#[115, 116, 97, 99, 107]⟩, .int .i64 1, .int .i64 1, .func (.func 139) #[] #[]] := by rw [hwv]; exact (Blk.new wr _ _).drewN _
      have k3 : wv.cell? ⟨wr.heap.size, 3, none⟩ = some (.func (.func 139) #[] #[]) := hkv.cell 3
      have m1 := (hbv.cell (p := ⟨b, 1, none⟩) hbl).trans n1
      have hlv := hkv.lt
      have hbw : Below w.heap.size w wv := (HB2.out.trans (HB.out.mono HB2.out.size)).trans (hbv.mono (Nat.le_trans HB2.out.size HB.out.size))
      have HBW := Lib.hid hbw
      have HM1 := Lib.hid m1
      obtain ⟨q, hq⟩ : ∃ q, q = wr.heap.size := ⟨_, rfl⟩
      rw [← hwv, ← hq]
      rw [← hq] at k3 hlv
      clear hwv hbv hkv hbw m1 hq c0 c1 c2 c3 n0 n1
      go_region_held3 (fun W => W.cell? ⟨q, 3, none⟩ = some (.func (.func 139) #[] #[]))
        (first | exact k3 | exact (hbx.cell (p := ⟨q, 3, none⟩) (by simpa using hlv)).trans k3)
        ((go_simp; go_at_call 139; refine (HCC.out b _ (below_drewN HBW.out _) HM1.out).mono ?_; rintro e w6 ⟨rfl, hbx⟩))
      all_goals
        have HB6 := Lib.hid ((below_drewN HBW.out 1).trans (hbx.mono HBW.out.size))
        clear hbx
        cases ok with
        | true =>
          go_wp2_with fail
          go_ret
          exact ⟨rfl, HB6.out⟩
        | false =>
          go_wp2_with fail
          go_ret
          exact ⟨rfl, HB6.out⟩
end Go.Proofs.YtmohfibgefcefaaGreatDoor
namespace Go.Proofs.YtmohfibgefcefaaGreatDoor
open Go.RowKit

set_option maxHeartbeats 4000000 in
set_option maxRecDepth 100000 in
theorem impl_do_word (td : Nat) (arg : List UInt8) (m : Int) (out : ByteArray) (ok : Bool) (w : World) (hm : w.cell? ⟨0, 0, none⟩ = some (.int .i64 m)) (_h0 : 0 < w.heap.size) (ha : (32 : UInt8) ∉ arg) (hl : arg.length ≤ 300)
    (HC : ∀ (b : Nat) (W : World), Below w.heap.size w W → W.cell? ⟨b, 1, none⟩ = some (.string (btj arg)) → Calls Tryz.prog 140 #[.pointer (some ⟨td, 0, none⟩), .slice (some ⟨b, 1, none⟩) 1 1] W fun e w' => e = .returned (.tuple #[.string out, .bool ok]) ∧ Below W.heap.size W w') :
    Calls Tryz.prog 78 #[.pointer (some ⟨td, 0, none⟩), .string (btj (joinC 32 [[119, 111, 114, 100], arg]))] w fun e w' => e = .returned (.string (if ok then out else ⟨#[110, 111]⟩)) ∧ Below w.heap.size w w' := by
  have hx : ∀ x ∈ [[119, 111, 114, 100], arg], (32 : UInt8) ∉ x := by
    intro x hx
    simp only [List.mem_cons, List.not_mem_nil, or_false] at hx
    rcases hx with rfl | rfl
    · decide
    · exact ha
  obtain ⟨L, hL⟩ : ∃ L, L = btj (joinC 32 [[119, 111, 114, 100], arg]) := ⟨_, rfl⟩
  have hLs : L.size < 4294967281 := by
    rw [hL]
    show (List.toArray _).size < _
    simp [joinC]; omega
  have hcnt := count_join 32 [[119, 111, 114, 100], arg] (by simp) hx
  have hspl := split_join 32 [[119, 111, 114, 100], arg] (by simp) hx
  rw [← hL] at hcnt hspl
  have hc1 : Lib.countB L (btj [32]) = 1 := by simp at hcnt; omega
  rw [hc1] at hspl
  have HSP : Hid (∀ W : World, W.cell? ⟨0, 0, none⟩ = some (.int .i64 m) → Calls Tryz.prog 36 #[.string L, .string ⟨#[32]⟩] W fun e w' => e = .returned (.slice (some ⟨W.heap.size, 0, none⟩) 2 2) ∧ w' = W.alloc (.cells #[.string ⟨#[119, 111, 114, 100]⟩, .string (btj arg)] 9)) := by
    show ∀ W : World, _
    intro W hW
    have := Tryz.strings_Split L (btj [32]) m W hLs hW (Nat.le_refl 1)
    rw [hc1, hspl] at this
    exact this
  have hsf : ∀ (a : Addr) (f : Fn) (x y : Array Value) (m : Mode) (W : World), (store a (.func f x y) m).run Tryz.prog W = stored Tryz.prog W a (.func f x y) m := fun a f x y m W => run_store _ W a _ m rfl
  have HCC := Lib.hid HC
  rw [← hL]
  clear hx hL hcnt hspl hc1 hLs HC
  go_enter Tryz.func78, Tryz.ntmps78
  go_wp2_with fail
  refine (HSP.out w hm).mono ?_
  rintro e w1 ⟨rfl, hw1⟩
  have HB1 : Hid (Below w.heap.size w w1) := by show Below _ _ _; rw [hw1]; exact (Below.refl _ _).alloc (Nat.le_refl _) _
  have HK1 : Hid (Blk w1 w.heap.size 9 #[.string ⟨#[119, 111, 114, 100]⟩, .string (btj arg)]) := by show Blk _ _ _ _; rw [hw1]; exact Blk.new w _ _
  clear hw1
  go_wp2_with fail
  refine (impl_deskCommands w1).mono ?_
  rintro e w2 ⟨rfl, hw2⟩
  have hb2 : Below w1.heap.size w1 w2 := by rw [hw2]; exact (Below.refl _ _).alloc (Nat.le_refl _) _
  have HB2 := Lib.hid (HB1.out.trans (hb2.mono HB1.out.size))
  have HK2 := Lib.hid (HK1.out.below hb2 HK1.out.lt)
  have HKC : Hid (Blk w2 w1.heap.size 137 cmdCells) := by show Blk _ _ _ _; rw [hw2]; exact Blk.new w1 _ _
  obtain ⟨b, hb⟩ : ∃ b, b = w.heap.size := ⟨_, rfl⟩
  obtain ⟨cb, hcb⟩ : ∃ cb, cb = w1.heap.size := ⟨_, rfl⟩
  rw [← hb] at HK2 ⊢
  rw [← hcb] at HKC ⊢
  clear hw2 hb2 HB1 HK1 hb hcb
  go_wp2_with fail
  go_loopg [8, 18] 11 (fun gg s8 s18 wr => ∃ (k : Nat), s8 = s8 ∧ k ≤ 8 ∧ s18 = .int .i64 k ∧ 10 - k < gg ∧ Hid (Below w2.heap.size w2 wr))
  case atStart => exact ⟨0, rfl, by omega, rfl, by omega, Below.refl _ _⟩
  case round =>
    obtain ⟨k, _, hk, rfl, hg, HB⟩ := hrel
    cases gk with
    | zero => omega
    | succ g1 =>
    have hkc := HKC.out.below HB.out HKC.out.lt
    have hk2 := HK2.out.below HB.out HK2.out.lt
    have n0 : wr.cell? ⟨b, 0, none⟩ = some (.string ⟨#[119, 111, 114, 100]⟩) := hk2.cell 0
    have n1 : wr.cell? ⟨b, 1, none⟩ = some (.string (btj arg)) := hk2.cell 1
    have hbl := hk2.lt
    have hcl := hkc.lt
    have HK3 := Lib.hid hk2
    have hcases : k = 0 ∨ k = 1 ∨ k = 2 ∨ k = 3 ∨ k = 4 ∨ k = 5 ∨ k = 6 ∨ k = 7 ∨ k = 8 := by omega
    rcases hcases with rfl | rfl | rfl | rfl | rfl | rfl | rfl | rfl | rfl
    · have c0 := hkc.cell 0
      have c1 := hkc.cell 1
      have c2 := hkc.cell 2
      have c3 := hkc.cell 3
      simp only [cmdCells] at c0 c1 c2 c3
      simp at c0 c1 c2 c3
      clear hkc hk2
      go_wp2_with fail
      go_quiet (fail)
      go_wp2_with fail
      go_roundg g1
      case measure => omega
      case rel => exact ⟨1, trivial, by omega, by go_num, by omega, below_drewN (HB.out.alloc HB.out.size _) _⟩
    · have c0 := hkc.cell 4
      have c1 := hkc.cell 5
      have c2 := hkc.cell 6
      have c3 := hkc.cell 7
      simp only [cmdCells] at c0 c1 c2 c3
      simp at c0 c1 c2 c3
      clear hkc hk2
      go_wp2_with fail
      go_quiet (fail)
      go_wp2_with fail
      go_roundg g1
      case measure => omega
      case rel => exact ⟨2, trivial, by omega, by go_num, by omega, below_drewN (HB.out.alloc HB.out.size _) _⟩
    · have c0 := hkc.cell 8
      have c1 := hkc.cell 9
      have c2 := hkc.cell 10
      have c3 := hkc.cell 11
      simp only [cmdCells] at c0 c1 c2 c3
      simp at c0 c1 c2 c3
      clear hkc hk2
      go_wp2_with fail
      go_quiet (fail)
      go_wp2_with fail
      go_roundg g1
      case measure => omega
      case rel => exact ⟨3, trivial, by omega, by go_num, by omega, below_drewN (HB.out.alloc HB.out.size _) _⟩
    · have c0 := hkc.cell 12
      have c1 := hkc.cell 13
      have c2 := hkc.cell 14
      have c3 := hkc.cell 15
      simp only [cmdCells] at c0 c1 c2 c3
      simp at c0 c1 c2 c3
      clear hkc hk2
      go_wp2_with fail
      go_quiet (fail)
      go_wp2_with fail
      go_roundg g1
      case measure => omega
      case rel => exact ⟨4, trivial, by omega, by go_num, by omega, below_drewN (HB.out.alloc HB.out.size _) _⟩
    · have c0 := hkc.cell 16
      have c1 := hkc.cell 17
      have c2 := hkc.cell 18
      have c3 := hkc.cell 19
      simp only [cmdCells] at c0 c1 c2 c3
      simp at c0 c1 c2 c3
      clear hkc hk2
      go_wp2_with fail
      go_quiet (fail)
      go_wp2_with fail
      go_roundg g1
      case measure => omega
      case rel => exact ⟨5, trivial, by omega, by go_num, by omega, below_drewN (HB.out.alloc HB.out.size _) _⟩
    · have c0 := hkc.cell 20
      have c1 := hkc.cell 21
      have c2 := hkc.cell 22
      have c3 := hkc.cell 23
      simp only [cmdCells] at c0 c1 c2 c3
      simp at c0 c1 c2 c3
      clear hkc hk2
      go_wp2_with fail
      go_quiet (fail)
      go_wp2_with fail
      go_roundg g1
      case measure => omega
      case rel => exact ⟨6, trivial, by omega, by go_num, by omega, below_drewN (HB.out.alloc HB.out.size _) _⟩
    · have c0 := hkc.cell 24
      have c1 := hkc.cell 25
      have c2 := hkc.cell 26
      have c3 := hkc.cell 27
      simp only [cmdCells] at c0 c1 c2 c3
      simp at c0 c1 c2 c3
      clear hkc hk2
      go_wp2_with fail
      go_quiet (fail)
      go_wp2_with fail
      go_roundg g1
      case measure => omega
      case rel => exact ⟨7, trivial, by omega, by go_num, by omega, below_drewN (HB.out.alloc HB.out.size _) _⟩
    · have c0 := hkc.cell 28
      have c1 := hkc.cell 29
      have c2 := hkc.cell 30
      have c3 := hkc.cell 31
      simp only [cmdCells] at c0 c1 c2 c3
      simp at c0 c1 c2 c3
      clear hkc hk2
      go_wp2_with fail
      go_quiet (fail)
      go_wp2_with fail
      go_roundg g1
      case measure => omega
      case rel => exact ⟨8, trivial, by omega, by go_num, by omega, below_drewN (HB.out.alloc HB.out.size _) _⟩
    · have c0 := hkc.cell 32
      have c1 := hkc.cell 33
      have c2 := hkc.cell 34
      have c3 := hkc.cell 35
      simp only [cmdCells] at c0 c1 c2 c3
      simp at c0 c1 c2 c3
      clear hkc hk2
      go_wp2_with fail
      go_quiet (fail)
      go_wp2_with fail
      obtain ⟨wv, hwv⟩ : ∃ x, x = (wr.alloc (.cells #[.string ⟨#[119, 111, 114, 100]⟩, .int .i64 1, .int .i64 1, .func (.func 140) #[] #[]] 137)).drewN nq := ⟨_, rfl⟩
      have hbv : Below wr.heap.size wr wv := by rw [hwv]; exact below_drewN ((Below.refl _ _).alloc (Nat.le_refl _) _) _
      have hkv : Blk wv wr.heap.size 137 #[.string ⟨#[119, 111, 114, 100]⟩, .int .i64 1, .int .i64 1, .func (.func 140) #[] #[]] := by rw [hwv]; exact (Blk.new wr _ _).drewN _
      have k3 : wv.cell? ⟨wr.heap.size, 3, none⟩ = some (.func (.func 140) #[] #[]) := hkv.cell 3
      have m1 := (hbv.cell (p := ⟨b, 1, none⟩) hbl).trans n1
      have hlv := hkv.lt
      have hbw : Below w.heap.size w wv := (HB2.out.trans (HB.out.mono HB2.out.size)).trans (hbv.mono (Nat.le_trans HB2.out.size HB.out.size))
      have HBW := Lib.hid hbw
      have HM1 := Lib.hid m1
      obtain ⟨q, hq⟩ : ∃ q, q = wr.heap.size := ⟨_, rfl⟩
      rw [← hwv, ← hq]
      rw [← hq] at k3 hlv
      clear hwv hbv hkv hbw m1 hq c0 c1 c2 c3 n0 n1
      go_region_held3 (fun W => W.cell? ⟨q, 3, none⟩ = some (.func (.func 140) #[] #[]))
        (first | exact k3 | exact (hbx.cell (p := ⟨q, 3, none⟩) (by simpa using hlv)).trans k3)
        ((go_simp; go_at_call 140; refine (HCC.out b _ (below_drewN HBW.out _) HM1.out).mono ?_; rintro e w6 ⟨rfl, hbx⟩))
      all_goals
        have HB6 := Lib.hid ((below_drewN HBW.out 1).trans (hbx.mono HBW.out.size))
        clear hbx
        cases ok with
        | true =>
          go_wp2_with fail
          go_ret
          exact ⟨rfl, HB6.out⟩
        | false =>
          go_wp2_with fail
          go_ret
          exact ⟨rfl, HB6.out⟩
end Go.Proofs.YtmohfibgefcefaaGreatDoor
namespace Go.Proofs.YtmohfibgefcefaaGreatDoor
open Go.RowKit Go.Extern.Stop Go.Stop Go.Extern

theorem grown_setE (w : World) (g i : Nat) (v : Value) : w.grownBy (w.setCell ⟨g, i, none⟩ v) (some g) :=
  ⟨rfl, rfl, rfl, by simp, fun n hn hne => heap_setCell_other w ⟨g, i, none⟩ n v (by intro e; apply hne; exact congrArg some e)⟩
set_option maxRecDepth 100000 in
set_option maxHeartbeats 2000000 in
/-- the deferred closure behind a line that was done: recover finds nothing, and nothing turns -/
theorem answer_idle (p : Addr) (w : World) :
    CallsD Tryz.prog 77 #[.pointer (some p)] .returning w fun e u' w' => e = .returned (.tuple #[]) ∧ u' = .returning ∧ Below w.heap.size w w' := by
  have hta : ∀ W : World, (Instr.typeAssert .nilIface 20 107 true).run Tryz.prog W = .ok (.tuple #[.agg #[.string ⟨#[]⟩], .bool false]) W := fun _ => by kernel_rfl
  refine callsD_of_wpS Tryz.func77 rfl fun c₀ cs hu => ?_
  apply wpS_seq
  apply wpS_region
  simp [wpOpsS, go_sem, recoverD, hu, hta, Tryz.ntmps77, Exit.thenS]
  apply wpS_seq
  apply wpS_region
  simp [wpOpsS, go_sem, Exit.thenS]
  refine wpS_cond (t := false) (by simp [Act.eval, Array.replicate]) ?_
  simp only [Bool.false_eq_true, if_false]
  refine wpS_of_wp (wp_skip ?_)
  cases c₀
  simp_all [bodyPostS, results, Tryz.results77]
  exact (Below.refl _ _).alloc (Nat.le_refl _) _
set_option maxRecDepth 100000 in
set_option maxHeartbeats 2000000 in
theorem impl_answer (td : Nat) (L out : ByteArray) (w : World) (HD : ∀ W : World, Below w.heap.size w W → Calls Tryz.prog 78 #[.pointer (some ⟨td, 0, none⟩), .string L] W fun e w' => e = .returned (.string out) ∧ Below W.heap.size W w') :
    Calls Tryz.prog 37 #[.pointer (some ⟨td, 0, none⟩), .string L] w fun e w' => e = .returned (.string out) ∧ Below w.heap.size w w' := by
  have hmf : ∀ (fn : Fn) (first cap : Array Value) (w : World), (Instr.makeFunc fn first cap).run Tryz.prog w = .ok (.func fn first cap) w := fun _ _ _ _ => rfl
  have HDD := Lib.hid HD
  clear HD
  go_enter_defers Tryz.func37, Tryz.ntmps37
  go_wp2_with fail
  refine (HDD.out _ ((Below.refl _ _).alloc (Nat.le_refl _) _)).mono ?_
  rintro e w2 ⟨rfl, hb2⟩
  have hk := (Blk.new w 9 #[.string ⟨#[]⟩]).below hb2 (Blk.new w 9 #[.string ⟨#[]⟩]).lt
  have c0 : w2.cell? ⟨w.heap.size, 0, none⟩ = some (.string ⟨#[]⟩) := hk.cell 0
  have f0 := hk.frozen 0
  have HB2 : Hid (Below w.heap.size w w2) := ((Below.refl w.heap.size w).alloc (Nat.le_refl _) _).trans (hb2.mono (by simp))
  have HK := Lib.hid hk
  clear hb2 hk
  go_wp2_with fail
  have hk3 : Blk (w2.setCell ⟨w.heap.size, 0, none⟩ (.string out)) w.heap.size 9 #[.string out] := by simpa using HK.out.set_ 0 (.string out)
  refine leaves_cons (f := 77) (args := #[.pointer (some ⟨w.heap.size, 0, none⟩)]) (by simp) (by simp [go_sem]) ?_
  refine (answer_idle ⟨w.heap.size, 0, none⟩ _).mono ?_
  rintro e u' w'' ⟨rfl, rfl, hb⟩
  have c9 : w''.cell? ⟨w.heap.size, 0, none⟩ = some (.string out) := (hk3.below hb hk3.lt).cell 0
  have hfin : Below w.heap.size w w'' := (HB2.out.grown (grown_setE w2 w.heap.size 0 (.string out)) HB2.out.size (fun g e => by cases e; exact Nat.le_refl _)).trans (hb.mono (by simpa using HB2.out.size))
  simp [Leaves, settle, results, Tryz.results37, go_sem, c9]
  exact hfin
end Go.Proofs.YtmohfibgefcefaaGreatDoor
