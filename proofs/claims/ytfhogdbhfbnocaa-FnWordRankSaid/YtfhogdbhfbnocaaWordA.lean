/- Words of folds: texts, their letters exchanged, the tests of texts; the program's and the reference's. No condition but sizes. -/
import Derived.Test.YtfhogdbhfbnocaaBase
import Derived.Test.YtfhogdbhfbnocaaPlain
import Derived.Test.YtfhogdbhfbnocaaApp
import Derived.Laws.OwnMore
import Derived.Lib.ConvBytes
namespace Go.Proofs.Ytfhogdbhfbnocaa
open Go.RowKit
theorem size_list (s : ByteArray) : s.data.toList.length = s.size := Array.length_toList
/-- a text out of its bytes -/
abbrev bts (cs : List UInt8) : ByteArray := ⟨cs.toArray⟩
theorem bts_list (cs : List UInt8) : (bts cs).data.toList = cs := rfl
/-- a letter exchanged -/
def swB (c : UInt8) : UInt8 := if c = 77 then 86 else if c = 86 then 77 else c
theorem swB_mv {c : UInt8} (h : mvB c = true) : mvB (swB c) = true := by
  unfold swB
  by_cases h1 : c = 77
  · rw [if_pos h1]; rfl
  · by_cases h2 : c = 86
    · rw [if_neg h1, if_pos h2]; rfl
    · rw [if_neg h1, if_neg h2]; exact h
theorem swB_swB (c : UInt8) : swB (swB c) = c := by
  unfold swB
  by_cases h1 : c = 77
  · rw [h1]; rfl
  · by_cases h2 : c = 86
    · rw [h2]; rfl
    · simp [h1, h2]
/-- a text with all letters exchanged -/
def swT (s : ByteArray) : ByteArray := bts (s.data.toList.map swB)
theorem swT_size (s : ByteArray) : (swT s).size = s.size := by
  show (List.toArray _).size = _
  rw [List.size_toArray, List.length_map]; exact size_list s
/-- the byte k of a text, and what is left behind it -/
theorem byte_drop {s : ByteArray} {k : Nat} (h : k < s.size) : s.data.toList.drop k = s[k] :: s.data.toList.drop (k + 1) := by
  have hl : k < s.data.toList.length := by simpa using h
  rw [List.drop_eq_getElem_cons hl]; rfl

def allMV : List UInt8 → Bool
  | [] => true
  | c :: r => if mvB c then allMV r else false
theorem allMV_eq (l : List UInt8) : l.all mvB = allMV l := by
  induction l with
  | nil => rfl
  | cons c r ih => simp only [List.all_cons, allMV, ih]; cases mvB c <;> rfl

theorem fvB_iff (cs : List UInt8) (n : Int) : fvB cs n = true ↔ (cs.length : Int) = n ∧ ∀ c ∈ cs, mvB c = true := by
  unfold fvB
  simp only [Bool.and_eq_true, decide_eq_true_eq, List.all_eq_true]

theorem below_set (w : World) {B g : Nat} (i : Nat) (v : Value) (h : B ≤ g) : Below B w (w.setCell ⟨g, i, none⟩ v) :=
  ⟨rfl, rfl, rfl, by simp, fun n hn => heap_setCell_other w ⟨g, i, none⟩ n v (by show n ≠ g; omega)⟩
def inB (n lo hi : Int) : Bool := decide (lo ≤ n) && decide (n ≤ hi)
theorem inB_yes {n lo hi : Int} (h1 : lo ≤ n) (h2 : n ≤ hi) : inB n lo hi = true := by unfold inB; simp [h1, h2]
theorem inB_low {n lo hi : Int} (h1 : n < lo) : inB n lo hi = false := by unfold inB; simp; intro h; omega
theorem inB_high {n lo hi : Int} (h1 : hi < n) : inB n lo hi = false := by unfold inB; simp; intro _; omega

/-- the bytes bs at the head of a block that the call made -/
structure BRow (w : World) (B b : Nat) (bs : List UInt8) : Prop where
  lo : B ≤ b
  row : ∃ cs : Array Value, w.heap[b]? = some (.cells cs 5 (cs.size, cs.size + 1)) ∧ bs.length ≤ cs.size ∧ ∀ (j : Nat) (c : UInt8), bs[j]? = some c → cs[j]? = some (Value.int .u8 (c.toNat : Int))
theorem BRow.cell {w : World} {B b : Nat} {bs : List UInt8} (h : BRow w B b bs) {j : Nat} (hj : j < bs.length) : w.cell? ⟨b, j, none⟩ = some (.int .u8 (bs[j].toNat : Int)) := by
  obtain ⟨cs, h1, h2, h3⟩ := h.row
  rw [cell_of_row w b j cs 5 _ h1]
  exact h3 j _ (List.getElem?_eq_getElem hj)
theorem BRow.frozen {w : World} {B b : Nat} {bs : List UInt8} (h : BRow w B b bs) {j : Nat} (hj : j < bs.length) : w.frozen? ⟨b, j, none⟩ = false := by
  obtain ⟨cs, h1, h2, h3⟩ := h.row
  simp [World.frozen?, h1]
  omega
theorem BRow.set {w : World} {B b : Nat} {bs : List UInt8} (h : BRow w B b bs) (j : Nat) (c : UInt8) : BRow (w.setCell ⟨b, j, none⟩ (.int .u8 (c.toNat : Int))) B b (bs.set j c) := by
  obtain ⟨cs, h1, h2, h3⟩ := h.row
  refine ⟨h.lo, cs.setIfInBounds j (.int .u8 (c.toNat : Int)), ?_, by simpa using h2, fun k d hk => ?_⟩
  · simp [World.setCell, Array.getElem?_modify, h1]
  · rw [List.getElem?_set] at hk
    rw [Array.getElem?_setIfInBounds]
    by_cases e : j = k
    · subst e
      rw [if_pos rfl] at hk ⊢
      by_cases hl : j < bs.length
      · rw [if_pos hl] at hk
        rw [if_pos (by omega), Option.some.inj hk]
      · rw [if_neg hl] at hk; cases hk
    · rw [if_neg e] at hk ⊢
      exact h3 k d hk
def swTo (l : List UInt8) (k : Nat) : List UInt8 := (l.take k).map swB ++ l.drop k
theorem swTo_len (l : List UInt8) (k : Nat) : (swTo l k).length = l.length := by unfold swTo; simp; omega
theorem swTo_at {l : List UInt8} {k : Nat} (h : k < l.length) : (swTo l k)[k]? = some l[k] := by
  unfold swTo
  rw [List.getElem?_append_right (by simp; omega), List.length_map, List.length_take, Nat.min_eq_left (by omega), Nat.sub_self, List.drop_eq_getElem_cons h]; rfl
theorem swTo_succ {l : List UInt8} {k : Nat} (h : k < l.length) : (swTo l k).set k (swB l[k]) = swTo l (k + 1) := by
  unfold swTo
  rw [List.set_append_right _ _ (by simp; omega), List.length_map, List.length_take, Nat.min_eq_left (by omega), Nat.sub_self, List.drop_eq_getElem_cons h, List.set_cons_zero, List.take_succ_eq_append_getElem h, List.map_append, List.append_assoc]
  rfl
theorem swTo_same {l : List UInt8} {k : Nat} (h : k < l.length) (e : swB l[k] = l[k]) : swTo l (k + 1) = swTo l k := by
  rw [← swTo_succ h, e]
  apply List.ext_getElem?
  intro i
  rw [List.getElem?_set]
  split
  · next e2 =>
    subst e2
    rw [if_pos (by rw [swTo_len]; exact h), swTo_at h]
  · rfl
theorem BRow.text {w : World} {B b cp : Nat} {bs : List UInt8} {n : Nat} (h : BRow w B b bs) (hn : bs.length = n) : (convert 27 9 (.slice (some ⟨b, 0, none⟩) n cp)).run Try.prog w = .ok (.string (bts bs)) w := by
  subst hn
  refine run_convert_bytes_back w 27 9 5 ⟨b, 0, none⟩ cp bs Try.underlying27 Try.underlying5 Try.underlying9 fun j hj => ?_
  rw [Addr.add_lit, Nat.zero_add]
  exact h.cell hj
set_option maxHeartbeats 1000000 in
set_option maxRecDepth 100000 in
theorem impl_FoldsSwap (s : ByteArray) (w : World) (hs : s.size ≤ 1000) :
    Calls Try.prog 15 #[.string s] w fun e w' => e = .returned (.string (swT s)) ∧ Below w.heap.size w w' := by
  go_enter Try.func15, Try.ntmps15
  go_wp2_with fail
  have HR := Lib.hid (Lib.run_convert_string_bytes (P := Try.prog) w 9 27 5 s Try.underlying9 Try.underlying27 Try.underlying5)
  rw [HR.out]
  have hB : Below w.heap.size w (Lib.bytesWorld w 5 s) := ⟨rfl, rfl, rfl, by rw [Lib.bytesWorld_size]; omega, fun k hk => Lib.bytesWorld_at_old w 5 s k hk⟩
  have hR : BRow (Lib.bytesWorld w 5 s) w.heap.size w.heap.size s.data.toList := by
    refine ⟨Nat.le_refl _, _, Lib.bytesWorld_at_new w 5 s, ?_, ?_⟩
    · rw [size_list]; simp [Lib.bytesCells]
    · intro j c hj
      have := Lib.bytesWorld_cell w 5 s j (by have := (List.getElem?_eq_some_iff.1 hj).1; rwa [size_list] at this)
      rw [cell_of_row _ _ j _ _ _ (Lib.bytesWorld_at_new w 5 s)] at this
      rw [this, List.getD_eq_getElem?_getD, hj]; rfl
  have HBw := Lib.hid hB
  have HRw := Lib.hid hR
  generalize Lib.bytesWorld w 5 s = w1 at HBw HRw ⊢
  generalize grownCap w s.size 0 5 = cp
  clear hB hR HR
  go_wp2_with fail
  go_loopg [4, 5, 10] (s.size + 1) (fun g s4 s5 s10 wr => ∃ (k : Nat), k ≤ s.size ∧ s10 = .int .i64 k ∧ s.size - k < g ∧ Hid (BRow wr w.heap.size w.heap.size (swTo s.data.toList k)) ∧ Hid (Below w.heap.size w wr))
  case atStart => exact ⟨0, Nat.zero_le _, rfl, by omega, HRw, HBw⟩
  case round =>
    clear HBw HRw
    obtain ⟨k, hk, rfl, hg, HR, HB⟩ := hrel
    cases gk with
    | zero => omega
    | succ g =>
    by_cases hlt : k < s.size
    · have hl : k < s.data.toList.length := by rw [size_list]; exact hlt
      have hl2 : k < (swTo s.data.toList k).length := by rw [swTo_len]; exact hl
      have c1 := HR.out.cell hl2
      have hat : (swTo s.data.toList k)[k] = s[k] := by
        have := swTo_at hl
        rw [List.getElem?_eq_getElem hl2] at this
        exact Option.some.inj this
      rw [hat] at c1
      have f1 := HR.out.frozen hl2
      have i1 : (k : Int) < (s.size : Int) := by omega
      have st86 := HR.out.set k 86
      have st77 := HR.out.set k 77
      have hb86 := HB.out.trans (below_set wr k (.int .u8 86) (Nat.le_refl w.heap.size))
      have hb77 := HB.out.trans (below_set wr k (.int .u8 77) (Nat.le_refl w.heap.size))
      have hsk : s.data.toList[k] = s[k] := rfl
      by_cases m1 : s[k] = 77
      · have e1 : ((s[k].toNat : Int) == 77) = true := by rw [m1]; rfl
        have S := Lib.hid (show BRow (wr.setCell ⟨w.heap.size, k, none⟩ (.int .u8 86)) w.heap.size w.heap.size (swTo s.data.toList (k + 1)) from by
          rw [← swTo_succ hl, hsk, m1]; exact st86)
        have HB2 := Lib.hid hb86
        clear m1 st86 st77 hb86 hb77 hsk HR HB hat
        go_wp2_with fail
        go_roundg g
        case measure => omega
        case rel => exact ⟨k + 1, by omega, by go_num, by omega, S, HB2⟩
      · have n1 : s[k].toNat ≠ 77 := fun e => m1 (UInt8.toNat_inj.1 (by rw [e]; rfl))
        have e1 : ((s[k].toNat : Int) == 77) = false := by rw [beq_eq_false_iff_ne]; omega
        by_cases m2 : s[k] = 86
        · have e2 : ((s[k].toNat : Int) == 86) = true := by rw [m2]; rfl
          have S := Lib.hid (show BRow (wr.setCell ⟨w.heap.size, k, none⟩ (.int .u8 77)) w.heap.size w.heap.size (swTo s.data.toList (k + 1)) from by
            rw [← swTo_succ hl, hsk, m2]; exact st77)
          have HB2 := Lib.hid hb77
          clear m1 m2 n1 st86 st77 hb86 hb77 hsk HR HB hat
          go_wp2_with fail
          go_roundg g
          case measure => omega
          case rel => exact ⟨k + 1, by omega, by go_num, by omega, S, HB2⟩
        · have n2 : s[k].toNat ≠ 86 := fun e => m2 (UInt8.toNat_inj.1 (by rw [e]; rfl))
          have e2 : ((s[k].toNat : Int) == 86) = false := by rw [beq_eq_false_iff_ne]; omega
          have S := Lib.hid (show BRow wr w.heap.size w.heap.size (swTo s.data.toList (k + 1)) from by
            rw [swTo_same hl (by rw [hsk]; unfold swB; rw [if_neg m1, if_neg m2])]; exact HR.out)
          clear m1 m2 n1 n2 st86 st77 hb86 hb77 hsk HR hat
          go_wp2_with fail
          go_roundg g
          case measure => omega
          case rel => exact ⟨k + 1, by omega, by go_num, by omega, S, HB⟩
    · obtain rfl : k = s.size := by omega
      have hfin : swTo s.data.toList s.size = s.data.toList.map swB := by
        unfold swTo
        rw [List.take_of_length_le (by rw [size_list]; exact Nat.le_refl _), List.drop_of_length_le (by rw [size_list]; exact Nat.le_refl _), List.append_nil]
      have hcv := HR.out.text (cp := cp) (n := s.size) (by rw [swTo_len, size_list])
      rw [hfin, show bts (s.data.toList.map swB) = swT s from rfl] at hcv
      clear hfin
      go_wp2_with fail
      go_ret
      exact ⟨rfl, HB.out⟩
set_option maxHeartbeats 400000 in
theorem impl_FoldsValid (s : ByteArray) (n : Int) (w : World) (hs : s.size ≤ maxLen) :
    Calls Try.prog 36 #[.string s, .int .i64 n] w fun e w' => e = .returned (.bool (fvB s.data.toList n)) ∧ w = w' := by
  unfold maxLen at hs
  by_cases g1 : n < 0
  · have d1 : decide (n < 0) = true := by simp; omega
    go_enter Try.func36, Try.ntmps36
    go_wp2
    go_ret
    exact ⟨ret_bool (by unfold fvB; simp; intro h; omega), rfl⟩
  · have d1 : decide (n < 0) = false := by simp; omega
    by_cases g2 : (s.size : Int) = n
    · subst g2
      clear d1 g1
      have d0 : decide ((s.size : Int) < 0) = false := by simp
      go_enter Try.func36, Try.ntmps36
      go_wp2
      go_loop [5] (fun i => ∃ k : Nat, k ≤ s.size ∧ i = .int .i64 k ∧ Hid (allMV s.data.toList = allMV (s.data.toList.drop k))) (fun i => s.size - (intOf i).toNat)
      case atStart => exact ⟨0, Nat.zero_le _, rfl, rfl⟩
      case round =>
        obtain ⟨k, hk, rfl, H⟩ := hrel
        by_cases hlt : k < s.size
        · have HX := Lib.hid (byte_drop hlt)
          by_cases m1 : s[k].toNat = 77
          · have e1 : ((s[k].toNat : Int) != 77) = false := by rw [bne_eq_false_iff_eq]; omega
            have M := Lib.hid m1; clear m1
            go_wp2
            go_round
            case rel => exact ⟨k + 1, by omega, by go_num, H.out.trans (by rw [HX.out, allMV, if_pos (by unfold mvB; simp [M.out])])⟩
            case measure => simp [intOf]; omega
          · have e1 : ((s[k].toNat : Int) != 77) = true := by rw [bne_iff_ne]; omega
            have M := Lib.hid m1; clear m1
            by_cases m2 : s[k].toNat = 86
            · have e2 : ((s[k].toNat : Int) != 86) = false := by rw [bne_eq_false_iff_eq]; omega
              have M2 := Lib.hid m2; clear m2
              go_wp2
              go_round
              case rel => exact ⟨k + 1, by omega, by go_num, H.out.trans (by rw [HX.out, allMV, if_pos (by unfold mvB; simp [M2.out])])⟩
              case measure => simp [intOf]; omega
            · have e2 : ((s[k].toNat : Int) != 86) = true := by rw [bne_iff_ne]; omega
              have M2 := Lib.hid m2; clear m2
              go_wp2
              go_ret
              exact ⟨ret_bool (by unfold fvB; rw [allMV_eq, H.out, HX.out, allMV, if_neg (by have := M.out; have := M2.out; unfold mvB; simp; omega)]; simp), rfl⟩
        · go_wp2
          go_ret
          have e : s.data.toList.drop k = [] := List.drop_of_length_le (by simp; omega)
          exact ⟨ret_bool (by unfold fvB; rw [allMV_eq, H.out, e, allMV]; simp), rfl⟩
    · have d2 : ((s.size : Int) != n) = true := by rw [bne_iff_ne]; omega
      have G := Lib.hid g2; clear g2
      go_enter Try.func36, Try.ntmps36
      go_wp2
      go_ret
      exact ⟨ret_bool (by have := G.out; unfold fvB; simp; intro h; omega), rfl⟩

set_option maxHeartbeats 400000 in
theorem spec_l6In (n lo hi : Int) (w : World) :
    Calls Try.prog 17 #[.int .i64 n, .int .i64 lo, .int .i64 hi] w fun e w' => e = .returned (.bool (inB n lo hi)) ∧ w = w' := by
  by_cases h1 : lo ≤ n
  · have d1 : decide (lo ≤ n) = true := by simp; omega
    by_cases h2 : n ≤ hi
    · have d2 : decide (n ≤ hi) = true := by simp; omega
      go_enter Try.func17, Try.ntmps17
      go_wp2
      go_ret
      exact ⟨ret_bool (inB_yes h1 h2).symm, rfl⟩
    · have d2 : decide (n ≤ hi) = false := by simp; omega
      go_enter Try.func17, Try.ntmps17
      go_wp2
      go_ret
      exact ⟨ret_bool (inB_high (by omega)).symm, rfl⟩
  · have d1 : decide (lo ≤ n) = false := by simp; omega
    go_enter Try.func17, Try.ntmps17
    go_wp2
    go_ret
    exact ⟨ret_bool (inB_low (by omega)).symm, rfl⟩

set_option maxHeartbeats 400000 in
theorem spec_FoldsValid (s : ByteArray) (n : Int) (w : World) (hs : s.size ≤ maxLen) :
    Calls Try.prog 47 #[.string s, .int .i64 n] w fun e w' => e = .returned (.bool (fvB s.data.toList n)) ∧ w = w' := by
  unfold maxLen at hs
  go_enter Try.func47, Try.ntmps47
  go_wp2
  go_loop [5] (fun i => ∃ k : Nat, k ≤ s.size ∧ i = .int .i64 k ∧ Hid (allMV s.data.toList = allMV (s.data.toList.drop k))) (fun i => s.size - (intOf i).toNat)
  case atStart => exact ⟨0, Nat.zero_le _, rfl, rfl⟩
  case round =>
    obtain ⟨k, hk, rfl, H⟩ := hrel
    by_cases hlt : k < s.size
    · have HX := Lib.hid (byte_drop hlt)
      by_cases m1 : s[k].toNat = 77
      · have e1 : ((s[k].toNat : Int) != 77) = false := by rw [bne_eq_false_iff_eq]; omega
        have M := Lib.hid m1; clear m1
        go_wp2
        go_round
        case rel => exact ⟨k + 1, by omega, by go_num, H.out.trans (by rw [HX.out, allMV, if_pos (by unfold mvB; simp [M.out])])⟩
        case measure => simp [intOf]; omega
      · have e1 : ((s[k].toNat : Int) != 77) = true := by rw [bne_iff_ne]; omega
        have M := Lib.hid m1; clear m1
        by_cases m2 : s[k].toNat = 86
        · have e2 : ((s[k].toNat : Int) != 86) = false := by rw [bne_eq_false_iff_eq]; omega
          have M2 := Lib.hid m2; clear m2
          go_wp2
          go_round
          case rel => exact ⟨k + 1, by omega, by go_num, H.out.trans (by rw [HX.out, allMV, if_pos (by unfold mvB; simp [M2.out])])⟩
          case measure => simp [intOf]; omega
        · have e2 : ((s[k].toNat : Int) != 86) = true := by rw [bne_iff_ne]; omega
          have M2 := Lib.hid m2; clear m2
          go_wp2
          go_ret
          exact ⟨ret_bool (by unfold fvB; rw [allMV_eq, H.out, HX.out, allMV, if_neg (by have := M.out; have := M2.out; unfold mvB; simp; omega)]; simp), rfl⟩
    · go_wp2
      go_ret
      have e : s.data.toList.drop k = [] := List.drop_of_length_le (by simp; omega)
      exact ⟨ret_bool (by unfold fvB; rw [allMV_eq, H.out, e, allMV, Bool.eq_iff_iff]; simp), rfl⟩

set_option maxHeartbeats 400000 in
theorem spec_l1Power (n : Nat) (w : World) (hn : n ≤ 40) :
    Calls Try.prog 27 #[.int .i64 n] w fun e w' => e = .returned (.int .i64 ((2 ^ n : Nat) : Int)) ∧ w = w' := by
  go_enter Try.func27, Try.ntmps27
  go_wp2_with fail
  go_loop [3, 4] (fun s3 s4 => ∃ (i p : Nat), i ≤ n ∧ s4 = .int .i64 i ∧ s3 = .int .i64 p ∧ p ≤ 1099511627776 ∧ Hid (p = 2 ^ i)) (fun _ s4 => n - (intOf s4).toNat)
  case atStart => exact ⟨0, 1, Nat.zero_le _, rfl, rfl, by omega, rfl⟩
  case round =>
    obtain ⟨i, p, hi, rfl, rfl, hp, HP⟩ := hrel
    by_cases hlt : i < n
    · have hp2 : p * 2 ≤ 1099511627776 := by
        have h1 : p * 2 = 2 ^ (i + 1) := by rw [HP.out, Nat.pow_succ]
        have h2 : 2 ^ (i + 1) ≤ 2 ^ 40 := Nat.pow_le_pow_right (by omega) (by omega)
        have h3 : 2 ^ 40 = 1099511627776 := by decide
        omega
      go_wp2_with fail
      go_round
      case rel => exact ⟨i + 1, p * 2, by omega, by go_num, by go_num, hp2, by show _ = _; rw [HP.out, Nat.pow_succ]⟩
      case measure => simp [intOf]; omega
    · obtain rfl : i = n := by omega
      go_wp2_with fail
      go_ret
      exact ⟨ret_int (by rw [HP.out]; simp), rfl⟩
end Go.Proofs.Ytfhogdbhfbnocaa
