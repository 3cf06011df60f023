/- The program's 'list': the angles and folds of a ring from its first crease on. No condition but sizes. -/
import Derived.Test.YtmohfibgefcefaaGreatDoorRingF
import Derived.Test.YtmohfibgefcefaaGreatDoorBytes
import Derived.Test.YtmohfibgefcefaaGreatDoorText
namespace Go.Proofs.YtmohfibgefcefaaGreatDoor
open Go.RowKit

def angTo (x : Nat → Int) (k : Nat) : List Int := (List.range k).map x
def folTo (f : Nat → Nat) (k : Nat) : List UInt8 := (List.range k).map fun i => UInt8.ofNat (f i)
theorem angTo_succ (x : Nat → Int) (k : Nat) : angTo x (k + 1) = angTo x k ++ [x k] := by simp [angTo, List.range_succ]
theorem folTo_succ (f : Nat → Nat) (k : Nat) : folTo f (k + 1) = folTo f k ++ [UInt8.ofNat (f k)] := by simp [folTo, List.range_succ]
theorem angTo_len (x : Nat → Int) (k : Nat) : (angTo x k).length = k := by simp [angTo]
theorem folTo_len (f : Nat → Nat) (k : Nat) : (folTo f k).length = k := by simp [folTo]
theorem angleAt_angTo (x : Nat → Int) {n k : Nat} (h : k < n) : angleAt (angTo x n) k = x k := by
  simp [angleAt, angTo, List.getD_eq_getElem?_getD, h]
theorem byteAt_folTo (f : Nat → Nat) {n k : Nat} (h : k < n) (hf : f k < 256) : byteAt ⟨(folTo f n).toArray⟩ k = f k := by
  simp [byteAt, folTo, List.getD_eq_getElem?_getD, h]
  omega

set_option maxHeartbeats 2000000 in
set_option maxRecDepth 100000 in
theorem list_any (w : World) (p n : Nat) (b : Nat → Nat) (x : Nat → Int) (f : Nat → Nat) (h : Ring w p n b x f) (hn0 : 0 < n) (hn : n ≤ 100) (hf : ∀ k, f k < 256) :
    Calls Tryz.prog 62 #[ptr p] w fun e w' => ∃ v, e = .returned (.tuple #[v, .string ⟨(folTo f n).toArray⟩]) ∧ Own w' w.heap.size v (angTo x n) ∧ Below w.heap.size w w' := by
  obtain ⟨i0, hi, hz0, hz1, hz2⟩ := info_parts Tryz.infoInt
  obtain ⟨j0, hj, hy0, hy1, hy2⟩ := info_parts Tryz.infoByte
  have c1 := h.many
  go_enter Tryz.func62, Tryz.ntmps62
  go_wp2_with (at_make; go_loud (refine wpList_make_own _ rfl _ _ 35 rfl w.heap.size 3 i0 (.int .i64 0) 1 Tryz.underlying35 hi hz0 hz1 .i64 .i64 _ n (by rfl) (by rfl) (by rfl) (by rw [hz2]; omega) (by unfold maxLen; omega) (Nat.le_refl _) ?_))
  intro w1 hown1 hg1
  have hb1 : Below w.heap.size w w1 := (Below.refl _ _).grown hg1 (Nat.le_refl _) (by intro k hk; cases hk)
  have hs1 : w.heap.size < w1.heap.size := (hown1.lt _ rfl).2
  have r1 := (h.below hb1).many
  go_wp2_with (at_make; go_loud (refine wpList_make_own _ rfl _ _ 22 rfl (w.heap.size + 1) 5 j0 (.int .u8 0) 1 Tryz.underlying22 hj hy0 hy1 .i64 .i64 _ n (by rfl) (by rfl) (by rfl) (by rw [hy2]; omega) (by unfold maxLen; omega) (by omega) ?_))
  intro w2 hown2 hg2
  have hb2 : Below w.heap.size w w2 := hb1.grown hg2 hb1.size (by intro k hk; cases hk)
  have r2 := (h.below hb2).first
  have hown1' : Own w2 w.heap.size (.slice (some ⟨w.heap.size, 0, none⟩) 0 n) (angTo x 0) := hown1.kept hg2 (Or.inr (by simp [Value.ownBlock]))
  have hown2' : OwnB w2 w.heap.size (.slice (some ⟨w1.heap.size, 0, none⟩) 0 n) (folTo f 0) := by
    obtain ⟨k1, k2⟩ := hown2
    refine ⟨k1, ?_⟩
    rcases k2 with h0 | ⟨g, cap, cur, e, hb, rest⟩
    · exact Or.inl h0
    · exact Or.inr ⟨g, cap, cur, e, by omega, rest⟩
  clear hi hz0 hz1 hz2 hj hy0 hy1 hy2 hown1 hown2 hg1 hg2 hb1 r1 c1
  go_wp2_with fail
  go_loopg [4, 5, 6, 7] (n + 1) (fun g s4 s5 s6 s7 wr => ∃ k, k ≤ n ∧ s7 = .int .i64 k ∧ s6 = ptr (b (if k = n then 0 else k)) ∧ n - k < g ∧ Own wr w.heap.size s4 (angTo x k) ∧ OwnB wr w.heap.size s5 (folTo f k) ∧ Below w.heap.size w wr)
  case atStart => exact ⟨0, Nat.zero_le _, rfl, by rw [if_neg (by omega)], by omega, hown1', hown2', hb2⟩
  case round =>
    obtain ⟨k, hk, rfl, rfl, hg, hownI, hownB, hbel⟩ := hrel
    have R := h.below hbel
    have d1 := R.many
    have hsz := hbel.size
    have lI := angTo_len x k
    have lB := folTo_len f k
    have HLI := Lib.hid lI
    have HLB := Lib.hid lB
    clear lI lB hown1' hown2' hb2 r2 hs1
    cases gk with
    | zero => omega
    | succ g =>
    by_cases hlt : k < n
    · rw [if_neg (Nat.ne_of_lt hlt)]
      have HC := Lib.hid (show b (if k + 1 = n then 0 else k + 1) = b (nxt n k) from rfl)
      have d2 := R.angle hlt
      go_wp2_with (at_builtin; go_loud (refine wpList_push (W := wr) rfl _ _ rfl w.heap.size _ _ (x k) (by rfl) (by rfl) hownI hsz (by rw [HLI.out]; omega) ?_))
      intro v' w3 hownI2 hgr hb3
      have hbel3 := hbel.trans hb3
      have R3 := h.below hbel3
      have hownB3 := hownB.kept hgr (own_ne hownB hownI (by decide))
      have hsz3 := hbel3.size
      have d3 := R3.fold hlt
      have hzb : ((UInt8.ofNat (f k)).toNat : Int) = (f k : Int) := by have := hf k; simp; omega
      have HZ := Lib.hid hzb
      clear hownI hownB hgr hb3 d2 d1 hzb
      go_wp2_with (at_builtin; go_loud (refine wpList_pushB (W := w3) rfl _ _ rfl w.heap.size _ _ (UInt8.ofNat (f k)) _ HZ.out (by rfl) (by rfl) hownB3 hsz3 (by rw [HLB.out]; omega) ?_))
      intro v'' w4 hownB4 hgr4 hb4
      have hownI4 := hownI2.kept hgr4 (own_ne hownI2 hownB3 (by decide))
      have hbel4 := hbel3.trans hb4
      have R4 := h.below hbel4
      have d4 := R4.next hlt
      clear hownI2 hownB3 hgr4 hb4 hbel3 d3
      go_wp2_with fail
      go_roundg g
      case measure => omega
      case rel => exact ⟨k + 1, by omega, by go_num, by rw [HC.out], by omega, by rw [angTo_succ]; exact hownI4, by rw [folTo_succ]; exact hownB4, hbel4⟩
    · obtain rfl : k = n := by omega
      go_wp2_with fail
      have hst : ∀ m, (convert 22 9 _).run Tryz.prog (wr.drewN m) = .ok (.string ⟨(folTo f k).toArray⟩) (wr.drewN m) := fun m => run_ownB_string (w := wr.drewN m) hownB
      go_quiet (fail)
      go_wp2_with fail
      go_ret2
      exact ⟨_, rfl, hownI, below_drewN hbel _⟩

end Go.Proofs.YtmohfibgefcefaaGreatDoor
