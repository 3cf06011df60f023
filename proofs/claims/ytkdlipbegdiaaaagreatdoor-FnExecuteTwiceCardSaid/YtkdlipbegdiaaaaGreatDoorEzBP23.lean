/- The other side of a text, the program's and the reference's; the words of so many folds as the reference makes them. No condition but sizes. The program's words of so many folds: the closures that fold, all words, sorted. No condition but sizes. Which texts are words, and of how many folds. No program, no condition. Words checked, told by letters and ranked: the program's and the reference's. No condition but sizes. -/
import Derived.Laws.OwnMore
import Derived.Test.YtkdlipbegdiaaaaGreatDoorEzBP22
import Derived.Test.YtkdlipbegdiaaaaGreatDoorEzBP6
namespace Go.Proofs.YtkdlipbegdiaaaaGreatDoor
open Go.RowKit
theorem byteVals_set' (bs : List UInt8) (i : Nat) (c : UInt8) : (byteVals bs).set i (.int .u8 (c.toNat : Int)) = byteVals (bs.set i c) := by
  simp [byteVals, List.map_set]
theorem made_zero' (n : Nat) : (madeCells (Value.int .u8 0).cells (n * 1)).toList = byteVals (List.replicate n 0) := by
  apply List.ext_getElem
  · simp [madeCells, byteVals]
  · intro i h1 h2
    simp [madeCells, byteVals, Value.cells, Nat.mod_one]
set_option maxHeartbeats 1000000 in
set_option maxRecDepth 100000 in
theorem impl_otherSide (s : ByteArray) (w : World) (hs : s.size ≤ 1000) :
    Calls Tryz.prog 181 #[.string s] w fun e w' => e = .returned (.string (bts (othL s.data.toList))) ∧ Below w.heap.size w w' := by
  go_enter Tryz.func181, Tryz.ntmps181
  obtain ⟨i0, hi, hz0, hz1, hz2⟩ := info_parts Tryz.infoByte
  obtain ⟨w1, hrun, ho1, hg1⟩ := run_make_full (P := Tryz.prog) w w.heap.size 22 5 i0 (.int .u8 0) 1 Tryz.underlying22 hi hz0 hz1 .i64 .i64 s.size (by rw [hz2]; omega) (by unfold maxLen; omega) (Nat.le_refl w.heap.size)
  rw [made_zero'] at ho1
  have HB := Lib.hid ((Below.refl w.heap.size w).grown hg1 (Nat.le_refl _) (fun _ hh => by cases hh))
  have HO := Lib.hid ho1
  have HR := Lib.hid hrun
  clear ho1 hg1 hi hz0 hz1 hz2 hrun
  go_wp2_with fail
  rw [HR.out]
  go_wp2_with fail
  go_loopg [4, 10] (s.size + 1) (fun g s4 s10 wr => ∃ (i : Nat) (bs : List UInt8), s4 = s4 ∧ i ≤ s.size ∧ s10 = .int .i64 i ∧ s.size - i < g ∧ Hid (Below w.heap.size w wr) ∧ bs.length = s.size ∧ Hid (∀ j, j < i → bs[j]? = s.data.toList.reverse[j]?) ∧
    Hid (wr.ownsRow w.heap.size 5 1 (.slice (some ⟨w.heap.size, 0, none⟩) s.size s.size) s.size (byteVals bs)))
  case atStart => exact ⟨0, List.replicate s.size 0, rfl, Nat.zero_le _, rfl, by omega, HB, by simp, fun j hj => absurd hj (Nat.not_lt_zero j), HO⟩
  case round =>
    obtain ⟨i, bs, _, hi, rfl, hg, HB, hlen, HE, HW⟩ := hrel
    cases gk with
    | zero => omega
    | succ g =>
    by_cases hlt : i < s.size
    · have hown := HW.out
      have c1 := hown.cellAt i (by omega)
      rw [List.getElem?_eq_getElem (by simp [byteVals_len]; omega)] at c1
      have c2 := hown.frozenAt i
      have hms : s.size - 1 - i < s.size := by omega
      have st1 := hown.stored i (.int .u8 ((s[s.size - 1 - i]'hms).toNat : Int))
      rw [byteVals_set'] at st1
      have hb1 := HB.out.grown st1.2 HB.out.size (fun k hk => by cases hk; exact Nat.le_refl _)
      have he : ∀ j, j < i + 1 → (bs.set i (s[s.size - 1 - i]'hms))[j]? = s.data.toList.reverse[j]? := by
        intro j hj
        rw [List.getElem?_set]
        have hsl : s.data.toList.length = s.size := size_list s
        by_cases hji : i = j
        · subst hji
          rw [if_pos rfl, if_pos (by omega), List.getElem?_reverse (by omega), List.getElem?_eq_getElem (by omega)]
          have e2 : s.data.toList.length - 1 - i = s.size - 1 - i := by omega
          simp only [e2]; rfl
        · rw [if_neg hji]; exact HE.out j (by omega)
      have HE2 := Lib.hid he
      have HB2 := Lib.hid hb1
      have HW2 := Lib.hid st1.1
      have kw1 : IntKind.i64.wrap ((s.size : Int) - 1) = (s.size : Int) - 1 := IntWalk.i64_in _ (by omega)
      have kw2 : IntKind.i64.wrap ((s.size : Int) - 1 - (i : Int)) = (s.size : Int) - 1 - (i : Int) := IntWalk.i64_in _ (by omega)
      clear he hb1 st1 hown HE HB HW
      go_wp2_with fail
      go_roundg g
      case measure => omega
      case rel => exact ⟨i + 1, _, trivial, by omega, by go_num, by omega, HB2, by simp [hlen], HE2, HW2⟩
    · obtain rfl : i = s.size := by omega
      have hbe : bs = s.data.toList.reverse := by
        apply List.ext_getElem?
        intro j
        by_cases hj : j < s.size
        · exact HE.out j hj
        · rw [List.getElem?_eq_none (by omega), List.getElem?_eq_none (by rw [List.length_reverse, size_list]; omega)]
      have ho : OwnB wr w.heap.size (.slice (some ⟨w.heap.size, 0, none⟩) s.size s.size) bs := by
        show wr.ownsRow w.heap.size 5 1 _ bs.length (byteVals bs)
        rw [hlen]; exact HW.out
      have hst : (convert 22 9 (.slice (some ⟨w.heap.size, 0, none⟩) s.size s.size)).run Tryz.prog wr = .ok (.string (bts bs)) wr := run_ownB_string ho
      have hz : (bts bs).size ≤ 1000 := by show (List.toArray bs).size ≤ 1000; simp; omega
      have hr : swT (bts bs) = bts (othL s.data.toList) := by rw [hbe]; rfl
      have HRr := Lib.hid hr
      clear ho hr hbe HW
      go_wp2_with fail
      refine (impl_FoldsSwap (bts bs) wr hz).mono ?_
      rintro e w2 ⟨rfl, hb2⟩
      rw [HRr.out]
      have b2 := below_from HB.out hb2 HB.out.size
      go_wp2_with fail
      go_ret
      exact ⟨rfl, b2⟩
theorem back_step' {s : ByteArray} {j : Nat} (h : j < s.size) : bts (s.data.toList.drop (j + 1)).reverse ++ s.extract j (j + 1) = bts (s.data.toList.drop j).reverse := by
  have e : s.extract j (j + 1) = bts [s[j]] := by
    apply ByteArray.ext
    apply Array.ext'
    show (s.extract j (j + 1)).data.toList = [s[j]]
    rw [ByteArray.data_extract]
    simp
    have : s.data.toList.drop j = s[j] :: s.data.toList.drop (j + 1) := byte_drop h
    rw [this]
    simp
  rw [e, byte_drop h, List.reverse_cons]
  exact ByteArray.mk_append_mk _ _
set_option maxHeartbeats 1000000 in
theorem spec_l2Text (s : ByteArray) (w : World) (hs : s.size ≤ 1000) :
    Calls Tryz.prog 172 #[.string s] w fun e w' => e = .returned (.string (bts s.data.toList.reverse)) ∧ w = w' := by
  go_enter Tryz.func172, Tryz.ntmps172
  go_wp2_with fail
  go_loop [3, 4] (fun s3 s4 => ∃ (k : Nat) (t : ByteArray), k ≤ s.size ∧ s4 = .int .i64 ((k : Int) - 1) ∧ s3 = .string t ∧ t.size ≤ 1000 ∧ Hid (t.size + k = s.size) ∧ Hid (t = bts (s.data.toList.drop k).reverse)) (fun _ s4 => ((intOf s4) + 1).toNat)
  case atStart => exact ⟨s.size, _, Nat.le_refl _, rfl, rfl, by decide, by show 0 + s.size = s.size; omega, by show _ = _; rw [List.drop_of_length_le (by rw [size_list]; exact Nat.le_refl _)]; rfl⟩
  case round =>
    obtain ⟨k, t, hk, rfl, rfl, ht, HT, HE⟩ := hrel
    cases k with
    | zero =>
      go_wp2_with fail
      go_ret
      exact ⟨by rw [HE.out]; rfl, rfl⟩
    | succ j =>
      rw [show (((j + 1 : Nat)) : Int) - 1 = (j : Int) from by omega]
      have d1 : decide ((0 : Int) ≤ (j : Int)) = true := by simp
      have b1 : (j : Int) + 1 ≤ (s.size : Int) := by omega
      have h63 : t.size + (s.extract j (j + 1)).size ≤ 9223372036854775807 := by simp only [ByteArray.size_extract]; omega
      have b12 : ∀ W, (Op.stringOp .add t (s.extract j (j + 1))).run Tryz.prog W = .ok (.string (t ++ s.extract j (j + 1))) W := fun W => run_string_add_sum W _ _ h63
      have HB := Lib.hid (back_step' (s := s) (j := j) (by omega))
      have hsz : (t ++ s.extract j (j + 1)).size = t.size + 1 := by rw [ByteArray.size_append, ByteArray.size_extract]; omega
      have HZ := Lib.hid hsz
      have hts : t.size + 1 ≤ 1000 := by have := HT.out; omega
      clear h63 hsz
      go_wp2_with fail
      go_round
      case rel => exact ⟨j, _, by omega, rfl, rfl, by rw [HZ.out]; exact hts, by show _ = _; rw [HZ.out]; have := HT.out; omega, by show _ = _; rw [HE.out, HB.out]⟩
      case measure => simp [intOf]
theorem swT_more {s : ByteArray} {k : Nat} (h : k < s.size) : (s.data.toList.take (k + 1)).map swB = (s.data.toList.take k).map swB ++ [swB s[k]] := by
  have hl : k < s.data.toList.length := by rw [size_list]; exact h
  rw [List.take_succ_eq_append_getElem hl, List.map_append]; rfl
theorem ext_one {s : ByteArray} {k : Nat} (h : k < s.size) : s.extract k (k + 1) = bts [s[k]] := by
  apply ByteArray.ext
  apply Array.ext'
  show (s.extract k (k + 1)).data.toList = [s[k]]
  rw [ByteArray.data_extract]
  simp
  have : s.data.toList.drop k = s[k] :: s.data.toList.drop (k + 1) := byte_drop h
  rw [this]
  simp
set_option maxHeartbeats 1000000 in
theorem spec_FoldsSwap (s : ByteArray) (w : World) (hs : s.size ≤ 1000) :
    Calls Tryz.prog 171 #[.string s] w fun e w' => e = .returned (.string (swT s)) ∧ w = w' := by
  go_enter Tryz.func171, Tryz.ntmps171
  go_wp2_with fail
  go_loop [3, 4] (fun s3 s4 => ∃ (k : Nat) (t : ByteArray), k ≤ s.size ∧ s4 = .int .i64 k ∧ s3 = .string t ∧ t.size ≤ 1000 ∧ Hid (t.size = k) ∧ Hid (t = bts ((s.data.toList.take k).map swB))) (fun _ s4 => s.size - (intOf s4).toNat)
  case atStart => exact ⟨0, _, Nat.zero_le _, rfl, rfl, by show 0 ≤ 1000; omega, rfl, rfl⟩
  case round =>
    obtain ⟨k, t, hk, rfl, rfl, ht, HT, HE⟩ := hrel
    by_cases hlt : k < s.size
    · have k1 : (k : Int) < (s.size : Int) := by omega
      have k0 : (0 : Int) ≤ (k : Int) := by omega
      have k2 : (k : Int) ≤ (s.size : Int) := by omega
      have k3 : (k : Int) + 1 ≤ (s.size : Int) := by omega
      have k4 : (k : Int) ≤ (k : Int) + 1 := by omega
      have hx1 : (s.extract k (k + 1)).size = 1 := by rw [ByteArray.size_extract]; omega
      have a1 : ∀ W, (Op.stringOp .add t (ByteArray.mk #[86])).run Tryz.prog W = .ok (.string (t ++ ByteArray.mk #[86])) W := fun W => run_string_add_sum W _ _ (by show t.size + 1 ≤ _; omega)
      have a2 : ∀ W, (Op.stringOp .add t (ByteArray.mk #[77])).run Tryz.prog W = .ok (.string (t ++ ByteArray.mk #[77])) W := fun W => run_string_add_sum W _ _ (by show t.size + 1 ≤ _; omega)
      have a3 : ∀ W, (Op.stringOp .add t (s.extract k (k + 1))).run Tryz.prog W = .ok (.string (t ++ s.extract k (k + 1))) W := fun W => run_string_add_sum W _ _ (by rw [hx1]; omega)
      have z1 : Hid ((t ++ ByteArray.mk #[86]).size = k + 1) := by show _ = _; rw [ByteArray.size_append, HT.out]; rfl
      have z2 : Hid ((t ++ ByteArray.mk #[77]).size = k + 1) := by show _ = _; rw [ByteArray.size_append, HT.out]; rfl
      have z3 : Hid ((t ++ s.extract k (k + 1)).size = k + 1) := by show _ = _; rw [ByteArray.size_append, HT.out, hx1]
      have ht2 : k + 1 ≤ 1000 := by omega
      have hap : ∀ c : UInt8, swB s[k] = c → t ++ bts [c] = bts ((s.data.toList.take (k + 1)).map swB) := by
        intro c hc
        rw [HE.out, swT_more hlt, hc]
        exact ByteArray.mk_append_mk _ _
      have HA := Lib.hid hap
      have HX := Lib.hid (ext_one hlt)
      clear hx1 hap
      obtain ⟨ch, hch⟩ : ∃ ch : UInt8, ch = s[k] := ⟨_, rfl⟩
      by_cases hM : ch = 77
      · have hM2 : (((s[k] : UInt8).toNat : Int) == 77) = true := by rw [← hch, hM]; rfl
        have HY := Lib.hid (HA.out 86 (by rw [← hch, hM]; rfl))
        clear hM hch
        go_wp2_with fail
        go_round
        case rel => exact ⟨k + 1, _, by omega, by go_num, rfl, by rw [z1.out]; exact ht2, z1, HY⟩
        case measure => simp [intOf]; omega
      · have nM : ch.toNat ≠ 77 := fun e => hM (UInt8.toNat_inj.1 (by rw [e]; rfl))
        have hM2 : (((s[k] : UInt8).toNat : Int) == 77) = false := by rw [← hch, beq_eq_false_iff_ne]; omega
        by_cases hV : ch = 86
        · have hV2 : (((s[k] : UInt8).toNat : Int) == 86) = true := by rw [← hch, hV]; rfl
          have HY := Lib.hid (HA.out 77 (by rw [← hch, hV]; rfl))
          clear hM hV hch nM
          go_wp2_with fail
          go_round
          case rel => exact ⟨k + 1, _, by omega, by go_num, rfl, by rw [z2.out]; exact ht2, z2, HY⟩
          case measure => simp [intOf]; omega
        · have nV : ch.toNat ≠ 86 := fun e => hV (UInt8.toNat_inj.1 (by rw [e]; rfl))
          have hV2 : (((s[k] : UInt8).toNat : Int) == 86) = false := by rw [← hch, beq_eq_false_iff_ne]; omega
          have HY := Lib.hid (show t ++ s.extract k (k + 1) = bts ((s.data.toList.take (k + 1)).map swB) from by
            rw [HX.out]
            exact HA.out _ (by rw [← hch]; unfold swB; rw [if_neg hM, if_neg hV]))
          clear hM hV hch nM nV
          go_wp2_with fail
          go_round
          case rel => exact ⟨k + 1, _, by omega, by go_num, rfl, by rw [z3.out]; exact ht2, z3, HY⟩
          case measure => simp [intOf]; omega
    · obtain rfl : k = s.size := by omega
      have hfin : t = swT s := by rw [HE.out, List.take_of_length_le (by rw [size_list]; exact Nat.le_refl _)]; rfl
      have HF := Lib.hid hfin
      clear hfin
      go_wp2_with fail
      go_ret
      exact ⟨by rw [HF.out]; rfl, rfl⟩
set_option maxHeartbeats 400000 in
theorem spec_l5Other (s : ByteArray) (w : World) (hs : s.size ≤ 1000) :
    Calls Tryz.prog 146 #[.string s] w fun e w' => e = .returned (.string (bts (othL s.data.toList))) ∧ w = w' := by
  have hz : (bts s.data.toList.reverse).size ≤ 1000 := by show (List.toArray _).size ≤ 1000; simp; omega
  have hr : swT (bts s.data.toList.reverse) = bts (othL s.data.toList) := rfl
  obtain ⟨r, hr0⟩ : ∃ r, r = bts s.data.toList.reverse := ⟨_, rfl⟩
  rw [← hr0] at hz hr
  have HR := Lib.hid hr0
  have HS := Lib.hid hr
  clear hr0 hr
  go_enter Tryz.func146, Tryz.ntmps146
  go_wp2_with fail
  refine (spec_l2Text s w hs).mono ?_
  rintro e _ ⟨rfl, rfl⟩
  rw [← HR.out]
  go_wp2_with fail
  refine (spec_FoldsSwap r w hz).mono ?_
  rintro e _ ⟨rfl, rfl⟩
  rw [HS.out]
  go_wp2_with fail
  go_ret
  exact ⟨rfl, rfl⟩
end Go.Proofs.YtkdlipbegdiaaaaGreatDoor
namespace Go.Proofs.YtkdlipbegdiaaaaGreatDoor
open Go.RowKit
set_option maxHeartbeats 1000000 in
theorem impl_folding (s : ByteArray) (m : UInt8) (g : Nat) (w : World) (hs : s.size ≤ 100) (hg : w.cell? ⟨g, 0, none⟩ = some (.string (bts [m]))) (hgl : g < w.heap.size) :
    Calls Tryz.prog 180 #[.string s, .pointer (some ⟨g, 0, none⟩)] w fun e w' => e = .returned (.string (bts (s.data.toList ++ m :: othL s.data.toList))) ∧ Below w.heap.size w w' := by
  have ho : (othL s.data.toList).length = s.size := by rw [othL_len, size_list]
  obtain ⟨t, ht⟩ : ∃ t, t = bts (othL s.data.toList) := ⟨_, rfl⟩
  have hts : t.size = s.size := by rw [ht]; show (List.toArray _).size = _; simp [ho]
  have a1 : ∀ W, (Op.stringOp .add s (bts [m])).run Tryz.prog W = .ok (.string (s ++ bts [m])) W := fun W => run_string_add_sum W _ _ (by show s.size + 1 ≤ _; omega)
  have hs1 : (s ++ bts [m]).size = s.size + 1 := by rw [ByteArray.size_append]; rfl
  have a2 : ∀ W, (Op.stringOp .add (s ++ bts [m]) t).run Tryz.prog W = .ok (.string (s ++ bts [m] ++ t)) W := fun W => run_string_add_sum W _ _ (by rw [hs1, hts]; omega)
  have hr : s ++ bts [m] ++ t = bts (s.data.toList ++ m :: othL s.data.toList) := by
    rw [ht]
    have e : s = bts s.data.toList := rfl
    rw [e]
    show bts _ ++ bts _ ++ bts _ = _
    rw [ByteArray.mk_append_mk, ByteArray.mk_append_mk]
    congr 1
    simp
  have HT := Lib.hid ht
  have HR := Lib.hid hr
  clear ho ht hts hs1 hr
  go_enter Tryz.func180, Tryz.ntmps180
  go_wp2_with fail
  go_region_held3 (fun W => W.cell? ⟨g, 0, none⟩ = some (.string (bts [m])))
    (first | exact hg | exact (hbx.cell (p := ⟨g, 0, none⟩) (by simpa using hgl)).trans hg)
    ((go_simp; go_at_call 181; refine (impl_otherSide s _ (by omega)).mono ?_; rw [← HT.out]; rintro e w1 ⟨rfl, hbx⟩))
  all_goals
    go_wp2_with fail
    go_ret
    exact ⟨by rw [HR.out]; rfl, below_from (below_drewN (Below.refl _ _) 1) hbx (Nat.le_refl _)⟩
/-- what a function that folds is -/
def FoldV (w : World) (m : UInt8) (v : Value) (g : Nat) : Prop := v = .func (.func 180) #[] #[.pointer (some ⟨g, 0, none⟩)] ∧ g < w.heap.size ∧ w.cell? ⟨g, 0, none⟩ = some (.string (bts [m]))
set_option maxHeartbeats 400000 in
theorem impl_ahead (m : UInt8) (w : World) :
    Calls Tryz.prog 179 #[.string (bts [m])] w fun e w' => (∃ v g, e = .returned v ∧ FoldV w' m v g) ∧ Below w.heap.size w w' := by
  go_enter Tryz.func179, Tryz.ntmps179
  go_wp2_with fail
  go_ret
  exact ⟨⟨_, w.heap.size, rfl, rfl, by simp, by simp⟩, (Below.refl _ _).alloc (Nat.le_refl _) _⟩
set_option maxHeartbeats 400000 in
theorem impl_foldR (w : World) :
    Calls Tryz.prog 165 #[.int .u8 82] w fun e w' => (∃ v g, e = .returned v ∧ FoldV w' 86 v g) ∧ Below w.heap.size w w' := by
  go_enter Tryz.func165, Tryz.ntmps165
  go_wp2_with fail
  refine (impl_ahead 86 w).mono ?_
  rintro e w1 ⟨⟨v, g, rfl, hv⟩, hb⟩
  go_wp2_with fail
  go_ret
  exact ⟨⟨_, g, rfl, hv⟩, hb⟩
set_option maxHeartbeats 400000 in
theorem impl_foldr (w : World) :
    Calls Tryz.prog 165 #[.int .u8 114] w fun e w' => (∃ v g, e = .returned v ∧ FoldV w' 77 v g) ∧ Below w.heap.size w w' := by
  go_enter Tryz.func165, Tryz.ntmps165
  go_wp2_with fail
  refine (impl_ahead 77 w).mono ?_
  rintro e w1 ⟨⟨v, g, rfl, hv⟩, hb⟩
  go_wp2_with fail
  go_ret
  exact ⟨⟨_, g, rfl, hv⟩, hb⟩
end Go.Proofs.YtkdlipbegdiaaaaGreatDoor
namespace Go.Proofs.YtkdlipbegdiaaaaGreatDoor
/-- halves that answer each other, down to the empty text -/
def wvN : Nat → List UInt8 → Bool
  | 0, l => decide (l.length = 0)
  | f + 1, l => if l.length = 0 then true else if l.length % 2 = 0 then false else if l.drop (l.length / 2 + 1) = othL (l.take (l.length / 2)) then wvN f (l.take (l.length / 2)) else false
def wv (l : List UInt8) : Bool := wvN l.length l
end Go.Proofs.YtkdlipbegdiaaaaGreatDoor
namespace Go.Proofs.YtkdlipbegdiaaaaGreatDoor
open Go.RowKit
theorem ext_list (T : ByteArray) (a b : Nat) : (T.extract a b).data.toList = (T.data.toList.drop a).take (b - a) := by
  rw [ByteArray.data_extract, Array.toList_extract, List.extract_eq_take_drop]
theorem ext_back (T : ByteArray) (m : Nat) : T.extract m T.size = bts (T.data.toList.drop m) := by
  apply ByteArray.ext; apply Array.ext'
  show (T.extract m T.size).data.toList = T.data.toList.drop m
  rw [ext_list, List.take_of_length_le (by rw [List.length_drop, size_list]; exact Nat.le_refl _)]
end Go.Proofs.YtkdlipbegdiaaaaGreatDoor
