/- The program's AnglesBack, FoldsBalance, FoldsSwap. No condition but sizes. -/
import Derived.Lib.ConvBytes
import Derived.Test.YtnckbiacfnokiaaTurnI
import Derived.Test.YtnckbiacfnokiaaSeg
namespace Go.Proofs.Ytnckbiacfnokiaa
open Go.RowKit



/-- the bytes bs at the head of a block that the call made -/
structure BRow (w : World) (B b : Nat) (bs : List UInt8) : Prop where
  lo : B ≤ b
  row : ∃ cs : Array Value, w.heap[b]? = some (.cells cs 5 (cs.size, cs.size + 1)) ∧ bs.length ≤ cs.size ∧ ∀ (j : Nat) (c : UInt8), bs[j]? = some c → cs[j]? = some (Value.int .u8 (c.toNat : Int))
theorem BRow.cell {w : World} {B b : Nat} {bs : List UInt8} (h : BRow w B b bs) {j : Nat} (hj : j < bs.length) : w.cell? ⟨b, j, none⟩ = some (.int .u8 (bs[j].toNat : Int)) := by
  obtain ⟨cs, h1, h2, h3⟩ := h.row
  rw [cell_of_row w b j cs 5 _ h1]
  exact h3 j _ (List.getElem?_eq_getElem hj)
theorem BRow.frozen {w : World} {B b : Nat} {bs : List UInt8} (h : BRow w B b bs) {j : Nat} (hj : j < bs.length) : w.frozen? ⟨b, j, none⟩ = false := by
  obtain ⟨cs, h1, h2, h3⟩ := h.row
  simp [World.frozen?, h1]
  omega
theorem BRow.set {w : World} {B b : Nat} {bs : List UInt8} (h : BRow w B b bs) (j : Nat) (c : UInt8) : BRow (w.setCell ⟨b, j, none⟩ (.int .u8 (c.toNat : Int))) B b (bs.set j c) := by
  obtain ⟨cs, h1, h2, h3⟩ := h.row
  refine ⟨h.lo, cs.setIfInBounds j (.int .u8 (c.toNat : Int)), ?_, by simpa using h2, fun k d hk => ?_⟩
  · simp [World.setCell, Array.getElem?_modify, h1]
  · rw [List.getElem?_set] at hk
    rw [Array.getElem?_setIfInBounds]
    by_cases e : j = k
    · subst e
      rw [if_pos rfl] at hk ⊢
      by_cases hl : j < bs.length
      · rw [if_pos hl] at hk
        rw [if_pos (by omega), Option.some.inj hk]
      · rw [if_neg hl] at hk; cases hk
    · rw [if_neg e] at hk ⊢
      exact h3 k d hk
def swTo (l : List UInt8) (k : Nat) : List UInt8 := (l.take k).map swB ++ l.drop k
theorem swTo_len (l : List UInt8) (k : Nat) : (swTo l k).length = l.length := by unfold swTo; simp; omega
theorem swTo_at {l : List UInt8} {k : Nat} (h : k < l.length) : (swTo l k)[k]? = some l[k] := by
  unfold swTo
  rw [List.getElem?_append_right (by simp; omega), List.length_map, List.length_take, Nat.min_eq_left (by omega), Nat.sub_self, List.drop_eq_getElem_cons h]; rfl
theorem swTo_succ {l : List UInt8} {k : Nat} (h : k < l.length) : (swTo l k).set k (swB l[k]) = swTo l (k + 1) := by
  unfold swTo
  rw [List.set_append_right _ _ (by simp; omega), List.length_map, List.length_take, Nat.min_eq_left (by omega), Nat.sub_self, List.drop_eq_getElem_cons h, List.set_cons_zero, List.take_succ_eq_append_getElem h, List.map_append, List.append_assoc]
  rfl
theorem swTo_same {l : List UInt8} {k : Nat} (h : k < l.length) (e : swB l[k] = l[k]) : swTo l (k + 1) = swTo l k := by
  rw [← swTo_succ h, e]
  apply List.ext_getElem?
  intro i
  rw [List.getElem?_set]
  split
  · next e2 =>
    subst e2
    rw [if_pos (by rw [swTo_len]; exact h), swTo_at h]
  · rfl
theorem BRow.text {w : World} {B b cp : Nat} {bs : List UInt8} {n : Nat} (h : BRow w B b bs) (hn : bs.length = n) : (convert 22 9 (.slice (some ⟨b, 0, none⟩) n cp)).run Try.prog w = .ok (.string (bts bs)) w := by
  subst hn
  refine run_convert_bytes_back w 22 9 5 ⟨b, 0, none⟩ cp bs Try.underlying22 Try.underlying5 Try.underlying9 fun j hj => ?_
  rw [Addr.add_lit, Nat.zero_add]
  exact h.cell hj
set_option maxHeartbeats 1000000 in
set_option maxRecDepth 100000 in
theorem impl_FoldsSwap (s : ByteArray) (w : World) (hs : s.size ≤ 1000) :
    Calls Try.prog 44 #[.string s] w fun e w' => e = .returned (.string (swT s)) ∧ Below w.heap.size w w' := by
  go_enter Try.func44, Try.ntmps44
  go_wp2_with fail
  have HR := Lib.hid (Lib.run_convert_string_bytes (P := Try.prog) w 9 22 5 s Try.underlying9 Try.underlying22 Try.underlying5)
  rw [HR.out]
  have hB : Below w.heap.size w (Lib.bytesWorld w 5 s) := ⟨rfl, rfl, rfl, by rw [Lib.bytesWorld_size]; omega, fun k hk => Lib.bytesWorld_at_old w 5 s k hk⟩
  have hR : BRow (Lib.bytesWorld w 5 s) w.heap.size w.heap.size s.data.toList := by
    refine ⟨Nat.le_refl _, _, Lib.bytesWorld_at_new w 5 s, ?_, ?_⟩
    · rw [size_list]; simp [Lib.bytesCells]
    · intro j c hj
      have := Lib.bytesWorld_cell w 5 s j (by have := (List.getElem?_eq_some_iff.1 hj).1; rwa [size_list] at this)
      rw [cell_of_row _ _ j _ _ _ (Lib.bytesWorld_at_new w 5 s)] at this
      rw [this, List.getD_eq_getElem?_getD, hj]; rfl
  have HBw := Lib.hid hB
  have HRw := Lib.hid hR
  generalize Lib.bytesWorld w 5 s = w1 at HBw HRw ⊢
  generalize grownCap w s.size 0 5 = cp
  clear hB hR HR
  go_wp2_with fail
  go_loopg [4, 5, 10] (s.size + 1) (fun g s4 s5 s10 wr => ∃ (k : Nat), k ≤ s.size ∧ s10 = .int .i64 k ∧ s.size - k < g ∧ Hid (BRow wr w.heap.size w.heap.size (swTo s.data.toList k)) ∧ Hid (Below w.heap.size w wr))
  case atStart => exact ⟨0, Nat.zero_le _, rfl, by omega, HRw, HBw⟩
  case round =>
    clear HBw HRw
    obtain ⟨k, hk, rfl, hg, HR, HB⟩ := hrel
    cases gk with
    | zero => omega
    | succ g =>
    by_cases hlt : k < s.size
    · have hl : k < s.data.toList.length := by rw [size_list]; exact hlt
      have hl2 : k < (swTo s.data.toList k).length := by rw [swTo_len]; exact hl
      have c1 := HR.out.cell hl2
      have hat : (swTo s.data.toList k)[k] = s[k] := by
        have := swTo_at hl
        rw [List.getElem?_eq_getElem hl2] at this
        exact Option.some.inj this
      rw [hat] at c1
      have f1 := HR.out.frozen hl2
      have i1 : (k : Int) < (s.size : Int) := by omega
      have st86 := HR.out.set k 86
      have st77 := HR.out.set k 77
      have hb86 := HB.out.trans (below_set wr k (.int .u8 86) (Nat.le_refl w.heap.size))
      have hb77 := HB.out.trans (below_set wr k (.int .u8 77) (Nat.le_refl w.heap.size))
      have hsk : s.data.toList[k] = s[k] := rfl
      by_cases m1 : s[k] = 77
      · have e1 : ((s[k].toNat : Int) == 77) = true := by rw [m1]; rfl
        have S := Lib.hid (show BRow (wr.setCell ⟨w.heap.size, k, none⟩ (.int .u8 86)) w.heap.size w.heap.size (swTo s.data.toList (k + 1)) from by
          rw [← swTo_succ hl, hsk, m1]; exact st86)
        have HB2 := Lib.hid hb86
        clear m1 st86 st77 hb86 hb77 hsk HR HB hat
        go_wp2_with fail
        go_roundg g
        case measure => omega
        case rel => exact ⟨k + 1, by omega, by go_num, by omega, S, HB2⟩
      · have n1 : s[k].toNat ≠ 77 := fun e => m1 (UInt8.toNat_inj.1 (by rw [e]; rfl))
        have e1 : ((s[k].toNat : Int) == 77) = false := by rw [beq_eq_false_iff_ne]; omega
        by_cases m2 : s[k] = 86
        · have e2 : ((s[k].toNat : Int) == 86) = true := by rw [m2]; rfl
          have S := Lib.hid (show BRow (wr.setCell ⟨w.heap.size, k, none⟩ (.int .u8 77)) w.heap.size w.heap.size (swTo s.data.toList (k + 1)) from by
            rw [← swTo_succ hl, hsk, m2]; exact st77)
          have HB2 := Lib.hid hb77
          clear m1 m2 n1 st86 st77 hb86 hb77 hsk HR HB hat
          go_wp2_with fail
          go_roundg g
          case measure => omega
          case rel => exact ⟨k + 1, by omega, by go_num, by omega, S, HB2⟩
        · have n2 : s[k].toNat ≠ 86 := fun e => m2 (UInt8.toNat_inj.1 (by rw [e]; rfl))
          have e2 : ((s[k].toNat : Int) == 86) = false := by rw [beq_eq_false_iff_ne]; omega
          have S := Lib.hid (show BRow wr w.heap.size w.heap.size (swTo s.data.toList (k + 1)) from by
            rw [swTo_same hl (by rw [hsk]; unfold swB; rw [if_neg m1, if_neg m2])]; exact HR.out)
          clear m1 m2 n1 n2 st86 st77 hb86 hb77 hsk HR hat
          go_wp2_with fail
          go_roundg g
          case measure => omega
          case rel => exact ⟨k + 1, by omega, by go_num, by omega, S, HB⟩
    · obtain rfl : k = s.size := by omega
      have hfin : swTo s.data.toList s.size = s.data.toList.map swB := by
        unfold swTo
        rw [List.take_of_length_le (by rw [size_list]; exact Nat.le_refl _), List.drop_of_length_le (by rw [size_list]; exact Nat.le_refl _), List.append_nil]
      have hcv := HR.out.text (cp := cp) (n := s.size) (by rw [swTo_len, size_list])
      rw [hfin, show bts (s.data.toList.map swB) = swT s from rfl] at hcv
      clear hfin
      go_wp2_with fail
      go_ret
      exact ⟨rfl, HB.out⟩

end Go.Proofs.Ytnckbiacfnokiaa
