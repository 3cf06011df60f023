/- A pattern's folds: all exchanged, one exchanged; vertices that can be crimped. No program, no condition. The program's AnglesTurn, AnglesBack, FoldsBalance, FoldsSwap. No condition but sizes. The program's AnglesBack, FoldsBalance, FoldsSwap. No condition but sizes. The law on a pattern's folds: the walk of the law itself. No condition but sizes. -/
import Derived.Test.YtnccpifdajcejaaPatN
import Derived.Test.YtnccpifdajcejaaFnPatternFoldsP51
import Derived.Test.YtnccpifdajcejaaFnPatternFoldsP52
import Derived.Laws.OwnMore
import Derived.Test.YtnccpifdajcejaaFoldsNum
import Derived.Lib.ConvBytes
import Derived.Test.YtnccpifdajcejaaSeg
import Derived.Test.YtnccpifdajcejaaFnPatternFoldsP50
import Derived.Test.YtnccpifdajcejaaPatM
namespace Go.Proofs.Ytnccpifdajcejaa

theorem pickL_congr {s t : ByteArray} {cs : List Int} (h : ∀ c ∈ cs, s.data.toList.getD c.toNat 0 = t.data.toList.getD c.toNat 0) : pickL s cs = pickL t cs := by
  unfold pickL
  exact List.map_congr_left h
theorem pickL_swap {s : ByteArray} {cs : List Int} (h : ∀ c ∈ cs, 0 ≤ c ∧ c < s.size) : pickL (swT s) cs = (pickL s cs).map swB := by
  unfold pickL swT
  rw [List.map_map]
  refine List.map_congr_left fun c hc => ?_
  have h1 := h c hc
  have hl : c.toNat < s.data.toList.length := by
    have : s.data.toList.length = s.size := by simp
    omega
  show (bts (s.data.toList.map swB)).data.toList.getD c.toNat 0 = swB (s.data.toList.getD c.toNat 0)
  rw [bts_list]
  simp [List.getD_eq_getElem?_getD, List.getElem?_eq_getElem hl]
theorem vfT_swap {s : ByteArray} {v : Vx} (h : ∀ c ∈ v.2, 0 ≤ c ∧ c < s.size) : vfT (swT s) v = vfT s v := by
  unfold vfT picked
  rw [pickL_swap h]
  exact vf_swap v.1 (pickL s v.2)
theorem fvB_swap {s : ByteArray} {n : Int} (h : fvB s.data.toList n = true) : fvB (swT s).data.toList n = true := by
  rw [fvB_iff] at h ⊢
  unfold swT
  rw [bts_list]
  refine ⟨by rw [List.length_map]; exact h.1, fun c hc => ?_⟩
  obtain ⟨d, hd, rfl⟩ := List.mem_map.1 hc
  exact swB_mv (h.2 d hd)
theorem pfB_parts {vs : List Vx} {s : ByteArray} (h : pfB vs s = true) : patB vs = true ∧ fvB s.data.toList (ncr vs) = true ∧ ∀ v ∈ vs, vfT s v = true := by
  unfold pfB at h
  simp only [Bool.and_eq_true, List.all_eq_true] at h
  exact ⟨h.1, h.2.1, h.2.2⟩
theorem pfB_size {vs : List Vx} {s : ByteArray} {n : Int} (h : fvB s.data.toList n = true) : (s.size : Int) = n := by
  rw [fvB_iff] at h
  have : s.data.toList.length = s.size := by simp
  have := h.1
  omega
theorem pat_bd3 {vs : List Vx} (hp : patB vs = true) : ∀ v ∈ vs, v.2.length = v.1.length ∧ v.2.Nodup ∧ ∀ c ∈ v.2, 0 ≤ c ∧ c < ncr vs := by
  intro v hv
  obtain ⟨_, _, hall, _, _, _⟩ := patB_parts hp
  have h0 := List.all_eq_true.1 hall v hv
  have h1 := vtxB_bd h0
  refine ⟨h1.2.1, ?_, fun c hc => ⟨(h1.2.2.2.2 c hc).1, ?_⟩⟩
  · unfold vtxB at h0
    simp only [Bool.and_eq_true] at h0
    exact ((crB_iff _).1 h0.2).2
  · have := (ncGo_le 0 vs).2 v hv c hc
    unfold ncr
    omega
/-- all folds exchanged -/
theorem pfB_swap {vs : List Vx} {s : ByteArray} (h : pfB vs s = true) : pfB vs (swT s) = true := by
  obtain ⟨hp, hf, ha⟩ := pfB_parts h
  have hs := pfB_size (vs := vs) hf
  unfold pfB
  simp only [Bool.and_eq_true, List.all_eq_true]
  refine ⟨hp, fvB_swap hf, fun v hv => ?_⟩
  rw [vfT_swap (fun c hc => by have := (pat_bd3 hp v hv).2.2 c hc; omega)]
  exact ha v hv
/-- one fold exchanged -/
def oneT (s : ByteArray) (k : Nat) : ByteArray := bts (s.data.toList.set k (swB (s.data.toList.getD k 0)))
theorem balT_set {l : List UInt8} {i : Nat} (hi : i < l.length) (hm : ∀ c ∈ l, mvB c = true) : balT (l.set i (swB l[i])) = balT l + 2 ∨ balT (l.set i (swB l[i])) = balT l - 2 := by
  induction l generalizing i with
  | nil => simp at hi
  | cons c r ih =>
    cases i with
    | zero =>
      simp only [List.getElem_cons_zero, List.set_cons_zero, balT]
      have h1 := hm c (by simp)
      by_cases h7 : c = 77
      · subst h7
        have : swB 77 = 86 := by decide
        rw [this]
        right
        simp; omega
      · by_cases h8 : c = 86
        · subst h8
          have : swB 86 = 77 := by decide
          rw [this]
          left
          simp; omega
        · exfalso
          unfold mvB at h1
          simp at h1
          rcases h1 with h1 | h1
          · exact h7 (by first | exact h1 | exact UInt8.toNat_inj.1 (by simpa using h1))
          · exact h8 (by first | exact h1 | exact UInt8.toNat_inj.1 (by simpa using h1))
    | succ i =>
      have hi' : i < r.length := by simpa using hi
      simp only [List.getElem_cons_succ, List.set_cons_succ, balT]
      rcases ih hi' (fun c hc => hm c (by simp [hc])) with h | h
      · left; rw [h]; omega
      · right; rw [h]; omega
theorem pickL_one {s : ByteArray} {cs : List Int} {i k : Nat} (hi : i < cs.length) (hc : cs[i] = (k : Int)) (hn : cs.Nodup) (hk : k < s.size) (hb : ∀ c ∈ cs, 0 ≤ c) : pickL (oneT s k) cs = (pickL s cs).set i (swB ((pickL s cs)[i]'(by rw [pickL_len]; exact hi))) := by
  have hkl : k < s.data.toList.length := by
    have : s.data.toList.length = s.size := by simp
    omega
  apply List.ext_getElem?
  intro j
  rw [List.getElem?_set]
  unfold pickL oneT
  rw [bts_list]
  by_cases hj : j < cs.length
  · by_cases e : i = j
    · subst e
      rw [if_pos rfl, if_pos (by simpa using hj)]
      simp [List.getElem?_eq_getElem hj, hc, List.getD_eq_getElem?_getD, List.getElem?_set, hkl, hk]
    · rw [if_neg e]
      have hne : cs[j] ≠ (k : Int) := by
        intro e2
        have := List.pairwise_iff_getElem.1 (List.nodup_iff_pairwise_ne.1 hn)
        rcases Nat.lt_or_ge i j with h | h
        · exact this i j hi hj h (by rw [hc, e2])
        · exact this j i hj hi (by omega) (by rw [hc, e2])
      have h0 := hb cs[j] (List.getElem_mem hj)
      have hne2 : k ≠ cs[j].toNat := by omega
      simp [List.getElem?_eq_getElem hj, List.getD_eq_getElem?_getD, List.getElem?_set, hne2]
  · rw [List.getElem?_eq_none (by simpa using Nat.le_of_not_lt hj)]
    rw [if_neg (by omega), List.getElem?_eq_none (by simpa using Nat.le_of_not_lt hj)]
theorem pfB_one {vs : List Vx} {s : ByteArray} {k : Nat} (h : pfB vs s = true) (hk : k < s.size) : pfB vs (oneT s k) = false := by
  obtain ⟨hp, hf, ha⟩ := pfB_parts h
  have hs := pfB_size (vs := vs) hf
  obtain ⟨_, _, hall, huse, _, _⟩ := patB_parts hp
  have hu := (usesOk_iff.1 huse) k (by omega)
  obtain ⟨v, hv, hkv⟩ := useN_pos.1 (by omega : 0 < useN vs (k : Int))
  obtain ⟨i, hi, hc⟩ := List.getElem_of_mem hkv
  obtain ⟨hl, hn, hb⟩ := pat_bd3 hp v hv
  have h1 := ha v hv
  rw [← Bool.not_eq_true]
  intro h2
  have h3 := (pfB_parts h2).2.2 v hv
  unfold vfT picked at h1 h3
  rw [pickL_one hi hc hn hk (fun c hc => (hb c hc).1)] at h3
  have b1 := vf_bal (cs := pickL s v.2) h1
  have b2 := vf_bal (cs := (pickL s v.2).set i _) h3
  have hm : ∀ c ∈ pickL s v.2, mvB c = true := by
    intro c hcm
    unfold pickL at hcm
    obtain ⟨d, hd, rfl⟩ := List.mem_map.1 hcm
    have h4 := hb d hd
    have hdl : d.toNat < s.data.toList.length := by
      have : s.data.toList.length = s.size := by simp
      omega
    rw [fvB_iff] at hf
    rw [List.getD_eq_getElem?_getD, List.getElem?_eq_getElem hdl]
    exact hf.2 _ (List.getElem_mem hdl)
  rcases balT_set (i := i) (by rw [pickL_len]; exact hi) hm with e | e <;> rw [e] at b2 <;> omega
end Go.Proofs.Ytnccpifdajcejaa
namespace Go.Proofs.Ytnccpifdajcejaa
open Go.RowKit


end Go.Proofs.Ytnccpifdajcejaa
namespace Go.Proofs.Ytnccpifdajcejaa
open Go.RowKit



/-- the bytes bs at the head of a block that the call made -/
structure BRow (w : World) (B b : Nat) (bs : List UInt8) : Prop where
  lo : B ≤ b
  row : ∃ cs : Array Value, w.heap[b]? = some (.cells cs 5 (cs.size, cs.size + 1)) ∧ bs.length ≤ cs.size ∧ ∀ (j : Nat) (c : UInt8), bs[j]? = some c → cs[j]? = some (Value.int .u8 (c.toNat : Int))
theorem BRow.cell {w : World} {B b : Nat} {bs : List UInt8} (h : BRow w B b bs) {j : Nat} (hj : j < bs.length) : w.cell? ⟨b, j, none⟩ = some (.int .u8 (bs[j].toNat : Int)) := by
  obtain ⟨cs, h1, h2, h3⟩ := h.row
  rw [cell_of_row w b j cs 5 _ h1]
  exact h3 j _ (List.getElem?_eq_getElem hj)
theorem BRow.frozen {w : World} {B b : Nat} {bs : List UInt8} (h : BRow w B b bs) {j : Nat} (hj : j < bs.length) : w.frozen? ⟨b, j, none⟩ = false := by
  obtain ⟨cs, h1, h2, h3⟩ := h.row
  simp [World.frozen?, h1]
  omega
theorem BRow.set {w : World} {B b : Nat} {bs : List UInt8} (h : BRow w B b bs) (j : Nat) (c : UInt8) : BRow (w.setCell ⟨b, j, none⟩ (.int .u8 (c.toNat : Int))) B b (bs.set j c) := by
  obtain ⟨cs, h1, h2, h3⟩ := h.row
  refine ⟨h.lo, cs.setIfInBounds j (.int .u8 (c.toNat : Int)), ?_, by simpa using h2, fun k d hk => ?_⟩
  · simp [World.setCell, Array.getElem?_modify, h1]
  · rw [List.getElem?_set] at hk
    rw [Array.getElem?_setIfInBounds]
    by_cases e : j = k
    · subst e
      rw [if_pos rfl] at hk ⊢
      by_cases hl : j < bs.length
      · rw [if_pos hl] at hk
        rw [if_pos (by omega), Option.some.inj hk]
      · rw [if_neg hl] at hk; cases hk
    · rw [if_neg e] at hk ⊢
      exact h3 k d hk
def swTo (l : List UInt8) (k : Nat) : List UInt8 := (l.take k).map swB ++ l.drop k
theorem swTo_len (l : List UInt8) (k : Nat) : (swTo l k).length = l.length := by unfold swTo; simp; omega
theorem swTo_at {l : List UInt8} {k : Nat} (h : k < l.length) : (swTo l k)[k]? = some l[k] := by
  unfold swTo
  rw [List.getElem?_append_right (by simp; omega), List.length_map, List.length_take, Nat.min_eq_left (by omega), Nat.sub_self, List.drop_eq_getElem_cons h]; rfl
theorem swTo_succ {l : List UInt8} {k : Nat} (h : k < l.length) : (swTo l k).set k (swB l[k]) = swTo l (k + 1) := by
  unfold swTo
  rw [List.set_append_right _ _ (by simp; omega), List.length_map, List.length_take, Nat.min_eq_left (by omega), Nat.sub_self, List.drop_eq_getElem_cons h, List.set_cons_zero, List.take_succ_eq_append_getElem h, List.map_append, List.append_assoc]
  rfl
theorem swTo_same {l : List UInt8} {k : Nat} (h : k < l.length) (e : swB l[k] = l[k]) : swTo l (k + 1) = swTo l k := by
  rw [← swTo_succ h, e]
  apply List.ext_getElem?
  intro i
  rw [List.getElem?_set]
  split
  · next e2 =>
    subst e2
    rw [if_pos (by rw [swTo_len]; exact h), swTo_at h]
  · rfl
theorem BRow.text {w : World} {B b cp : Nat} {bs : List UInt8} {n : Nat} (h : BRow w B b bs) (hn : bs.length = n) : (convert 22 9 (.slice (some ⟨b, 0, none⟩) n cp)).run Try.prog w = .ok (.string (bts bs)) w := by
  subst hn
  refine run_convert_bytes_back w 22 9 5 ⟨b, 0, none⟩ cp bs Try.underlying22 Try.underlying5 Try.underlying9 fun j hj => ?_
  rw [Addr.add_lit, Nat.zero_add]
  exact h.cell hj
set_option maxHeartbeats 1000000 in
set_option maxRecDepth 100000 in
theorem impl_FoldsSwap (s : ByteArray) (w : World) (hs : s.size ≤ 1000) :
    Calls Try.prog 45 #[.string s] w fun e w' => e = .returned (.string (swT s)) ∧ Below w.heap.size w w' := by
  go_enter Try.func45, Try.ntmps45
  go_wp2_with fail
  have HR := Lib.hid (Lib.run_convert_string_bytes (P := Try.prog) w 9 22 5 s Try.underlying9 Try.underlying22 Try.underlying5)
  rw [HR.out]
  have hB : Below w.heap.size w (Lib.bytesWorld w 5 s) := ⟨rfl, rfl, rfl, by rw [Lib.bytesWorld_size]; omega, fun k hk => Lib.bytesWorld_at_old w 5 s k hk⟩
  have hR : BRow (Lib.bytesWorld w 5 s) w.heap.size w.heap.size s.data.toList := by
    refine ⟨Nat.le_refl _, _, Lib.bytesWorld_at_new w 5 s, ?_, ?_⟩
    · rw [size_list]; simp [Lib.bytesCells]
    · intro j c hj
      have := Lib.bytesWorld_cell w 5 s j (by have := (List.getElem?_eq_some_iff.1 hj).1; rwa [size_list] at this)
      rw [cell_of_row _ _ j _ _ _ (Lib.bytesWorld_at_new w 5 s)] at this
      rw [this, List.getD_eq_getElem?_getD, hj]; rfl
  have HBw := Lib.hid hB
  have HRw := Lib.hid hR
  generalize Lib.bytesWorld w 5 s = w1 at HBw HRw ⊢
  generalize grownCap w s.size 0 5 = cp
  clear hB hR HR
  go_wp2_with fail
  go_loopg [4, 5, 10] (s.size + 1) (fun g s4 s5 s10 wr => ∃ (k : Nat), k ≤ s.size ∧ s10 = .int .i64 k ∧ s.size - k < g ∧ Hid (BRow wr w.heap.size w.heap.size (swTo s.data.toList k)) ∧ Hid (Below w.heap.size w wr))
  case atStart => exact ⟨0, Nat.zero_le _, rfl, by omega, HRw, HBw⟩
  case round =>
    clear HBw HRw
    obtain ⟨k, hk, rfl, hg, HR, HB⟩ := hrel
    cases gk with
    | zero => omega
    | succ g =>
    by_cases hlt : k < s.size
    · have hl : k < s.data.toList.length := by rw [size_list]; exact hlt
      have hl2 : k < (swTo s.data.toList k).length := by rw [swTo_len]; exact hl
      have c1 := HR.out.cell hl2
      have hat : (swTo s.data.toList k)[k] = s[k] := by
        have := swTo_at hl
        rw [List.getElem?_eq_getElem hl2] at this
        exact Option.some.inj this
      rw [hat] at c1
      have f1 := HR.out.frozen hl2
      have i1 : (k : Int) < (s.size : Int) := by omega
      have st86 := HR.out.set k 86
      have st77 := HR.out.set k 77
      have hb86 := HB.out.trans (below_set wr k (.int .u8 86) (Nat.le_refl w.heap.size))
      have hb77 := HB.out.trans (below_set wr k (.int .u8 77) (Nat.le_refl w.heap.size))
      have hsk : s.data.toList[k] = s[k] := rfl
      by_cases m1 : s[k] = 77
      · have e1 : ((s[k].toNat : Int) == 77) = true := by rw [m1]; rfl
        have S := Lib.hid (show BRow (wr.setCell ⟨w.heap.size, k, none⟩ (.int .u8 86)) w.heap.size w.heap.size (swTo s.data.toList (k + 1)) from by
          rw [← swTo_succ hl, hsk, m1]; exact st86)
        have HB2 := Lib.hid hb86
        clear m1 st86 st77 hb86 hb77 hsk HR HB hat
        go_wp2_with fail
        go_roundg g
        case measure => omega
        case rel => exact ⟨k + 1, by omega, by go_num, by omega, S, HB2⟩
      · have n1 : s[k].toNat ≠ 77 := fun e => m1 (UInt8.toNat_inj.1 (by rw [e]; rfl))
        have e1 : ((s[k].toNat : Int) == 77) = false := by rw [beq_eq_false_iff_ne]; omega
        by_cases m2 : s[k] = 86
        · have e2 : ((s[k].toNat : Int) == 86) = true := by rw [m2]; rfl
          have S := Lib.hid (show BRow (wr.setCell ⟨w.heap.size, k, none⟩ (.int .u8 77)) w.heap.size w.heap.size (swTo s.data.toList (k + 1)) from by
            rw [← swTo_succ hl, hsk, m2]; exact st77)
          have HB2 := Lib.hid hb77
          clear m1 m2 n1 st86 st77 hb86 hb77 hsk HR HB hat
          go_wp2_with fail
          go_roundg g
          case measure => omega
          case rel => exact ⟨k + 1, by omega, by go_num, by omega, S, HB2⟩
        · have n2 : s[k].toNat ≠ 86 := fun e => m2 (UInt8.toNat_inj.1 (by rw [e]; rfl))
          have e2 : ((s[k].toNat : Int) == 86) = false := by rw [beq_eq_false_iff_ne]; omega
          have S := Lib.hid (show BRow wr w.heap.size w.heap.size (swTo s.data.toList (k + 1)) from by
            rw [swTo_same hl (by rw [hsk]; unfold swB; rw [if_neg m1, if_neg m2])]; exact HR.out)
          clear m1 m2 n1 n2 st86 st77 hb86 hb77 hsk HR hat
          go_wp2_with fail
          go_roundg g
          case measure => omega
          case rel => exact ⟨k + 1, by omega, by go_num, by omega, S, HB⟩
    · obtain rfl : k = s.size := by omega
      have hfin : swTo s.data.toList s.size = s.data.toList.map swB := by
        unfold swTo
        rw [List.take_of_length_le (by rw [size_list]; exact Nat.le_refl _), List.drop_of_length_le (by rw [size_list]; exact Nat.le_refl _), List.append_nil]
      have hcv := HR.out.text (cp := cp) (n := s.size) (by rw [swTo_len, size_list])
      rw [hfin, show bts (s.data.toList.map swB) = swT s from rfl] at hcv
      clear hfin
      go_wp2_with fail
      go_ret
      exact ⟨rfl, HB.out⟩

end Go.Proofs.Ytnccpifdajcejaa
namespace Go.Proofs.Ytnccpifdajcejaa
open Go.RowKit

set_option maxHeartbeats 2000000 in
theorem laws_foldsAt (A1 A2 : Option Addr) (n1 c1 c2 : Nat) (cs : List Int) (s : ByteArray) (w : World) (h : Ints w A2 cs) (hl : cs.length ≤ 100) (hx : ∀ c ∈ cs, 0 ≤ c ∧ c < s.size) (hs : s.size ≤ 1000) :
    Calls Try.prog 44 #[.agg #[.slice A1 n1 c1, .slice A2 cs.length c2], .string s] w fun e w' => e = .returned (.string (picked s cs)) ∧ Below w.heap.size w w' := by
  obtain ⟨w2, hw2⟩ : ∃ w2, w2 = w.alloc (.cells #[.slice A1 n1 c1, .slice A2 cs.length c2] 30) := ⟨_, rfl⟩
  have b2 : Below w.heap.size w w2 := by rw [hw2]; exact (Below.refl _ _).alloc (Nat.le_refl _) _
  have K2 : Blk w2 w.heap.size 30 #[.slice A1 n1 c1, .slice A2 cs.length c2] := by rw [hw2]; exact Blk.new w _ _
  have a1 := K2.cell 1
  have hI := h.below b2
  have HW := Lib.hid hw2
  have HX := Lib.hid hx
  have HB := Lib.hid b2
  clear hw2 hx b2 h
  go_enter Try.func44, Try.ntmps44
  go_wp2_with fail
  rw [← HW.out]
  go_loopg [5, 6] (cs.length + 1) (fun g s5 s6 wr => ∃ (k d : Nat) (t : ByteArray), k ≤ cs.length ∧ s6 = .int .i64 k ∧ s5 = .string t ∧ t.size = k ∧ cs.length - k < g ∧ w2.drewN d = wr ∧ Hid (t = picked s (cs.take k)))
  case atStart => exact ⟨0, 0, _, Nat.zero_le _, rfl, rfl, rfl, by omega, rfl, rfl⟩
  case round =>
    obtain ⟨k, d, t, hk, rfl, rfl, hts, hg, rfl, HT⟩ := hrel
    cases gk with
    | zero => omega
    | succ g =>
    by_cases hlt : k < cs.length
    · obtain ⟨m, hm⟩ : ∃ m : Nat, cs[k] = (m : Int) := ⟨cs[k].toNat, by have := HX.out cs[k] (List.getElem_mem hlt); omega⟩
      have hms : m < s.size := by have := HX.out cs[k] (List.getElem_mem hlt); omega
      obtain ⟨b, off, rfl, hb, hc⟩ := hI (by intro e; subst e; simp at hlt)
      have r1 := hc k cs[k] (List.getElem?_eq_getElem hlt)
      rw [hm] at r1
      have HP := Lib.hid (picked_step hlt hm hms)
      have k1 : (k : Int) < (cs.length : Int) := by omega
      have k0 : (0 : Int) ≤ (k : Int) := by omega
      have m0 : (0 : Int) ≤ (m : Int) := by omega
      have m1 : (m : Int) ≤ (m : Int) + 1 := by omega
      have m2 : (m : Int) + 1 ≤ (s.size : Int) := by omega
      have kw : IntKind.i64.wrap ((m : Int) + 1) = (m : Int) + 1 := IntWalk.i64_in _ (by omega)
      have hsz : (s.extract m (m + 1)).size = 1 := by rw [ByteArray.size_extract]; omega
      have hts2 : (t ++ s.extract m (m + 1)).size = k + 1 := by rw [ByteArray.size_append, hsz, hts]
      have b12 : ∀ W, (Op.stringOp .add t (s.extract m (m + 1))).run Try.prog W = .ok (.string (t ++ s.extract m (m + 1))) W := fun W => run_string_add_sum W _ _ (by rw [hsz, hts]; omega)
      have HTS := Lib.hid hts2
      clear hm hc hsz hts2 hI
      go_wp2_with fail
      go_quiet (fail)
      go_wp2_with fail
      go_roundg g
      case measure => omega
      case rel => exact ⟨k + 1, _, _, by omega, by go_num, rfl, HTS.out, by omega, rfl, by show _ = _; rw [HT.out, HP.out]⟩
    · obtain rfl : k = cs.length := by omega
      go_wp2_with fail
      go_ret
      exact ⟨by rw [HT.out, List.take_length]; rfl, below_drewN HB.out _⟩

theorem oneT_bytes {s : ByteArray} {k : Nat} (hk : k < s.size) : s.extract 0 k ++ swT (s.extract k (k + 1)) ++ s.extract (k + 1) s.size = oneT s k := by
  have hkl : k < s.data.toList.length := by
    have : s.data.toList.length = s.size := by simp
    omega
  have ex : ∀ a b, (s.extract a b).data.toList = (s.data.toList.drop a).take (b - a) := by
    intro a b
    rw [ByteArray.data_extract, Array.toList_extract, List.extract_eq_take_drop]
  apply ByteArray.ext
  apply Array.ext'
  have e2 : (s.extract k (k + 1)).data.toList = [s.data.toList[k]] := by
    rw [ex, List.drop_eq_getElem_cons hkl, show k + 1 - k = 1 from by omega]; rfl
  have e3 : (swT (s.extract k (k + 1))).data.toList = [swB s.data.toList[k]] := by
    unfold swT
    rw [bts_list, e2]; rfl
  have e4 : (s.extract (k + 1) s.size).data.toList = s.data.toList.drop (k + 1) := by
    rw [ex, List.take_of_length_le (by simp)]
  rw [ByteArray.data_append, ByteArray.data_append, Array.toList_append, Array.toList_append, e3, e4, ex, List.append_assoc]
  unfold oneT
  show _ = s.data.toList.set k (swB (s.data.toList.getD k 0))
  rw [List.getD_eq_getElem?_getD, List.getElem?_eq_getElem hkl, List.set_eq_take_append_cons_drop, if_pos hkl]
  rfl

set_option maxHeartbeats 4000000 in
theorem law_FnPatternFolds (A A2 : Option Addr) (cap cap2 : Nat) (bs bs2 : List UInt8) (w : World) (h : Codes w w.heap.size A bs) (hcap : bs.length ≤ cap) (hcm : cap ≤ maxLen) (hcap2 : bs2.length ≤ cap2) (hcm2' : cap2 ≤ maxLen) :
    Calls Try.prog 12 #[.slice A bs.length cap, .slice A2 bs2.length cap2] w fun e w' => e = .returned (.bool true) ∧ Below w.heap.size w w' := by
  have hlm : bs.length ≤ maxLen := Nat.le_trans hcap hcm
  have hlm2 := hlm
  have hlm3 : bs2.length ≤ maxLen := Nat.le_trans hcap2 hcm2'
  unfold maxLen at hlm2 hlm3
  by_cases g1 : 1048576 < bs.length
  · have d1 : decide ((1048576 : Int) < (bs.length : Int)) = true := by simp; omega
    go_enter Try.func12, Try.ntmps12
    go_wp2_with fail
    go_ret
    exact ⟨rfl, Below.refl _ _⟩
  · have d1 : decide ((1048576 : Int) < (bs.length : Int)) = false := by simp; omega
    by_cases g2 : 1048576 < bs2.length
    · have d2 : decide ((1048576 : Int) < (bs2.length : Int)) = true := by simp; omega
      go_enter Try.func12, Try.ntmps12
      go_wp2_with fail
      go_ret
      exact ⟨rfl, Below.refl _ _⟩
    · have d2 : decide ((1048576 : Int) < (bs2.length : Int)) = false := by simp; omega
      go_enter Try.func12, Try.ntmps12
      go_wp2_with fail
      refine (spec_DrawPatternFolds w A cap bs h (by omega) hcap hcm).mono ?_
      rintro e w1 ⟨B, vs, c, s, rfl, hV, hl2, hlc, hcm2, hlen, hs, hb1⟩
      have HLen := Lib.hid hlen
      have hlv : vs.length ≤ maxLen := by unfold maxLen; omega
      have hsm : s.size ≤ maxLen := by unfold maxLen; omega
      obtain ⟨p, hp⟩ : ∃ p, p = pfB vs s := ⟨_, rfl⟩
      have HP := Lib.hid hp
      clear hlen hp
      go_wp2_with fail
      refine (impl_PatternFolds B c vs s w1 hV hlv hsm hlc hcm2).mono ?_
      rintro e w2 ⟨rfl, hb2⟩
      rw [← HP.out]
      have b2 := below_from hb1 hb2 hb1.size
      have hV2 := hV.below hb2
      clear hb1 hb2 hV
      go_wp2_with fail
      refine (spec_PatternFolds B c vs s w2 hV2 hlv hsm).mono ?_
      rintro e w3 ⟨rfl, hb3⟩
      rw [← HP.out]
      have b3 := below_from b2 hb3 b2.size
      have hV3 := hV2.below hb3
      clear b2 hb3 hV2
      cases p with
      | false =>
        go_wp2_with fail
        go_ret
        exact ⟨rfl, b3⟩
      | true =>
        obtain ⟨hpp, hff, hall⟩ := pfB_parts HP.out.symm
        obtain ⟨p1, p3, hallv, huse, n0, n10⟩ := patB_parts hpp
        have hsz := pfB_size (vs := vs) hff
        have hvok : ∀ v ∈ vs, VOk s v := fun v hv => by
          have h1 := pat_bd3 hpp v hv
          have h2 := HLen.out v hv
          exact ⟨by omega, by omega, fun c hc => by have := h1.2.2 c hc; omega⟩
        have hs2 : 0 < s.size := by
          have hm := List.getElem_mem (l := vs) (n := 0) (by omega)
          have h1 := vtxB_bd (List.all_eq_true.1 hallv _ hm)
          have h2 := (pat_bd3 hpp _ hm).2.2 (vs[0].2[0]'(by omega)) (List.getElem_mem (by omega))
          omega
        have HAll := Lib.hid hall
        have HOk := Lib.hid hvok
        have HV3 := Lib.hid hV3
        have HB3 := Lib.hid b3
        clear hpp hff hall hallv huse hvok n0 n10 hsz hV3 b3
        go_wp2_with fail
        go_loopg [9] (vs.length + 1) (fun g s9 wr => ∃ (k : Nat), k ≤ vs.length ∧ s9 = .int .i64 k ∧ vs.length - k < g ∧ Hid (Below w.heap.size w wr) ∧ Hid (Verts wr B vs))
        case atStart => exact ⟨0, Nat.zero_le _, rfl, by omega, HB3, HV3⟩
        case round =>
          clear HB3 HV3
          obtain ⟨k, hk, rfl, hg, HB, HV⟩ := hrel
          cases gk with
          | zero => omega
          | succ g =>
          by_cases hlt : k < vs.length
          · obtain ⟨b, off, A1, c1, A3, c3, rfl, hb, r1, r2, i1, l1, m1, i2, l2, m2⟩ := HV.out.at_ hlt
            obtain ⟨n1, n2, hx⟩ := HOk.out vs[k] (List.getElem_mem hlt)
            have hvt := HAll.out vs[k] (List.getElem_mem hlt)
            have k1 : (k : Int) < (vs.length : Int) := by omega
            have k0 : (0 : Int) ≤ (k : Int) := by omega
            obtain ⟨q, hq⟩ : ∃ q, q = picked s vs[k].2 := ⟨_, rfl⟩
            have hc1 : ∀ W : World, Below wr.heap.size wr W → Calls Try.prog 44 #[.agg #[.slice A1 vs[k].1.length c1, .slice A3 vs[k].2.length c3], .string s] W fun e w' => e = .returned (.string q) ∧ Below W.heap.size W w' := fun W hW => by
              rw [hq]; exact laws_foldsAt A1 A3 _ c1 c3 vs[k].2 s W (i2.below hW) n2 hx (by omega)
            have hc2 : ∀ W : World, Below wr.heap.size wr W → Calls Try.prog 43 #[.slice A1 vs[k].1.length c1, .string q] W fun e w' => e = .returned (.bool true) ∧ Below W.heap.size W w' := fun W hW => by
              have := impl_VertexFolds A1 c1 vs[k].1 (picked s vs[k].2) W (i1.below hW) (by unfold maxLen; omega) (by rw [picked_size]; unfold maxLen; omega)
              unfold vfT at hvt
              rw [hvt] at this
              rw [hq]; exact this
            have HC1 := Lib.hid hc1
            have HC2 := Lib.hid hc2
            have hz := HB.out.size
            have CC := Lib.hid (show wr.cell? ⟨b, off + k * 2, none⟩ = some (.slice A1 vs[k].1.length c1) ∧ wr.cell? ⟨b, off + k * 2 + 1, none⟩ = some (.slice A3 vs[k].2.length c3) from ⟨r1, r2⟩)
            clear i1 i2 hx hq hc1 hc2 hvt n1 n2
            go_wp2_with fail
            go_region_held3 (fun W => W.cell? ⟨b, off + k * 2, none⟩ = some (.slice A1 vs[k].1.length c1) ∧ W.cell? ⟨b, off + k * 2 + 1, none⟩ = some (.slice A3 vs[k].2.length c3))
              (first
                | exact CC.out
                | exact ⟨(hby.cell (p := ⟨b, off + k * 2, none⟩) (Nat.lt_of_lt_of_le hb hbx.size)).trans ((hbx.cell (p := ⟨b, off + k * 2, none⟩) hb).trans CC.out.1), (hby.cell (p := ⟨b, off + k * 2 + 1, none⟩) (Nat.lt_of_lt_of_le hb hbx.size)).trans ((hbx.cell (p := ⟨b, off + k * 2 + 1, none⟩) hb).trans CC.out.2)⟩
                | exact ⟨(hbx.cell (p := ⟨b, off + k * 2, none⟩) hb).trans CC.out.1, (hbx.cell (p := ⟨b, off + k * 2 + 1, none⟩) hb).trans CC.out.2⟩)
              (first
                | (go_simp; go_at_call 44; refine (HC1.out _ (below_drewN (Below.refl _ _) _)).mono ?_; rintro e w4 ⟨rfl, hbx⟩)
                | (go_simp; go_at_call 43; refine (HC2.out _ (below_from (below_drewN (Below.refl _ _) _) hbx (Nat.le_refl _))).mono ?_; rintro e w5 ⟨rfl, hby⟩))
            all_goals
              have bx : Below wr.heap.size wr w4 := ⟨hbx.os, hbx.tape, hbx.output, hbx.size, hbx.block⟩
              have b5 : Below wr.heap.size wr w5 := below_from bx hby bx.size
              have HB5 := Lib.hid (HB.out.trans (b5.mono hz))
              have HV5 := Lib.hid (HV.out.below b5)
              clear hbx hby bx b5 HB HV
              go_wp2_with fail
              go_roundg g
              case measure => omega
              case rel => exact ⟨k + 1, by omega, by go_num, by omega, HB5, HV5⟩
          · obtain rfl : k = vs.length := by omega
            obtain ⟨k, hk'⟩ : ∃ k, k = bs2.length % s.size := ⟨_, rfl⟩
            have hkn : k < s.size := hk' ▸ Nat.mod_lt _ (by omega)
            have t1 : ((bs2.length : Int).tmod (s.size : Int)) = (k : Int) := by rw [Int.tmod_eq_emod_of_nonneg (by omega), hk']; simp
            have t2 : ((bs2.length : Int) % (s.size : Int)) = (k : Int) := by rw [hk']; simp
            have t3 : ((s.size : Int) == 0) = false := by rw [beq_eq_false_iff_ne]; clear t1 t2; omega
            have HK := Lib.hid (And.intro t1 t2)
            have hsw := pfB_swap HP.out.symm
            have hon := pfB_one HP.out.symm hkn
            have hob := oneT_bytes (s := s) (k := k) hkn
            have HSW := Lib.hid hsw
            have HON := Lib.hid hon
            have HOB := Lib.hid hob
            have z1 : (s.extract 0 k).size = k := by clear t1 t2 hk' HK; rw [ByteArray.size_extract]; omega
            have z2 : (s.extract k (k + 1)).size = 1 := by clear t1 t2 hk' HK; rw [ByteArray.size_extract]; omega
            have z3 : (s.extract (k + 1) s.size).size = s.size - (k + 1) := by clear t1 t2 hk' HK; rw [ByteArray.size_extract]; omega
            have z4 : (swT (s.extract k (k + 1))).size = 1 := by rw [swT_size]; exact z2
            have a1 : ∀ W, (Op.stringOp .add (s.extract 0 k) (swT (s.extract k (k + 1)))).run Try.prog W = .ok (.string (s.extract 0 k ++ swT (s.extract k (k + 1)))) W := fun W => run_string_add_sum W _ _ (by clear t1 t2 hk' HK; omega)
            have a2 : ∀ W, (Op.stringOp .add (s.extract 0 k ++ swT (s.extract k (k + 1))) (s.extract (k + 1) s.size)).run Try.prog W = .ok (.string (s.extract 0 k ++ swT (s.extract k (k + 1)) ++ s.extract (k + 1) s.size)) W := fun W => run_string_add_sum W _ _ (by clear t1 t2 hk' HK; rw [ByteArray.size_append]; omega)
            have ho1 : (oneT s k).size ≤ 20 := by
              clear t1 t2 hk' HK
              rw [← hob, ByteArray.size_append, ByteArray.size_append]; omega
            have hsw1 : (swT s).size ≤ 20 := by rw [swT_size]; exact hs
            have HZ2 := Lib.hid z2
            clear t1 t2 hk' hsw hon hob z1 z2 z3 z4
            have k0 : (0 : Int) ≤ (k : Int) := by omega
            have k1 : (k : Int) ≤ (s.size : Int) := by omega
            have k2 : (k : Int) + 1 ≤ (s.size : Int) := by omega
            have k3 : (k : Int) ≤ (k : Int) + 1 := by omega
            have k4 : ((k : Int) + 1).toNat = k + 1 := by omega
            have k5 : IntKind.i64.wrap ((k : Int) + 1) = (k : Int) + 1 := IntWalk.i64_in _ (by omega)
            have k6 : (0 : Int) ≤ (k : Int) + 1 := by omega
            obtain ⟨t1, t2⟩ := HK.out
            go_upto_region 14 with (fail)
            clear t1 t2
            go_region_held3 (fun w' => True) (trivial) ((go_simp; go_at_call 45; refine (impl_FoldsSwap (s.extract k (k + 1)) _ (by rw [HZ2.out]; omega)).mono ?_; rintro e w4 ⟨rfl, hbx⟩))
            all_goals
              have bx : Below wr.heap.size wr w4 := ⟨hbx.os, hbx.tape, hbx.output, hbx.size, hbx.block⟩
              have HB4 := Lib.hid (HB.out.trans (bx.mono HB.out.size))
              have HV4 := Lib.hid (HV.out.below bx)
              rw [HOB.out]
              clear hbx bx HB HV k4 k5
              go_wp2_with fail
              refine (impl_FoldsSwap s w4 (by omega)).mono ?_
              rintro e w5 ⟨rfl, hb5⟩
              have HB5 := Lib.hid (below_from HB4.out hb5 HB4.out.size)
              have HV5 := Lib.hid (HV4.out.below hb5)
              clear hb5 HB4 HV4
              go_wp2_with fail
              refine (impl_PatternFolds B c vs (swT s) w5 HV5.out hlv (by unfold maxLen; omega) hlc hcm2).mono ?_
              rintro e w6 ⟨rfl, hb6⟩
              rw [HSW.out]
              have HB6 := Lib.hid (below_from HB5.out hb6 HB5.out.size)
              have HV6 := Lib.hid (HV5.out.below hb6)
              clear hb6 HB5 HV5
              go_wp2_with fail
              refine (impl_PatternFolds B c vs (oneT s k) w6 HV6.out hlv (by unfold maxLen; omega) hlc hcm2).mono ?_
              rintro e w7 ⟨rfl, hb7⟩
              rw [HON.out]
              have HB7 := Lib.hid (below_from HB6.out hb7 HB6.out.size)
              clear hb7 HB6 HV6
              go_wp2_with fail
              go_ret
              exact ⟨rfl, HB7.out⟩
end Go.Proofs.Ytnccpifdajcejaa
