/- The size of a sheet: the program's. No condition but sizes. -/
import Derived.Test.YtmohfibgefcefaaGreatDoorStkF
import Derived.Test.YtmohfibgefcefaaGreatDoorSheetB
import Derived.Laws.ResultCell
import Derived.Laws.Rows
namespace Go.Proofs.YtmohfibgefcefaaGreatDoor
open Go.RowKit

theorem rowsT_snoc (l : List UInt8) (c : UInt8) : rowsT (l ++ [c]) = rowsT l * (if highB c then 2 else 1) := by
  unfold rowsT
  rw [List.countP_append, List.countP_singleton]
  split
  · rw [Nat.pow_add]
  · simp
theorem colsT_snoc (l : List UInt8) (c : UInt8) : colsT (l ++ [c]) = colsT l * (if wideL c then 2 else 1) := by
  unfold colsT
  rw [List.countP_append, List.countP_singleton]
  split
  · rw [Nat.pow_add]
  · simp
theorem size_listX (s : ByteArray) : s.data.toList.length = s.size := Array.length_toList
theorem byte_takeX {s : ByteArray} {k : Nat} (h : k < s.size) : s.data.toList.take (k + 1) = s.data.toList.take k ++ [s[k]] := by
  rw [List.take_succ_eq_append_getElem (by rw [size_listX]; exact h)]; rfl
theorem byte_memX {s : ByteArray} {k : Nat} (h : k < s.size) : s[k] ∈ s.data.toList := by
  have hl : k < s.data.toList.length := by rw [size_listX]; exact h
  exact List.getElem_mem hl
/-- rows, columns, is it a sheet -/
def sizeO (l : List UInt8) : Nat × Nat × Bool := if shB l then (rowsT l, colsT l, true) else (0, 0, false)
theorem Tryz.infoSz : (Tryz.prog.info? 54).map (·.size) = some 2 := by kernel_rfl
theorem res_size {fn : Func} {p u : Tmp} (h : fn.results = #[.cell p 54, .tmp u]) (tmps : Array Value) (w : World) (g : Nat) (x y : Value) (hp : tmps.getD p undef = .pointer (some ⟨g, 0, none⟩)) (hk : Blk w g 54 #[x, y]) :
    (results fn tmps).run Tryz.prog w = .ok (.tuple #[.agg #[x, y], tmps.getD u undef]) w := by
  rw [results_cell_tmp h, hp]
  simp [asAddr, Result.andThen, run_loadVar_row w g 54 54 #[x, y] (0, 0) _ hk Tryz.underlying54 rfl Tryz.infoSz]
set_option maxHeartbeats 4000000 in
set_option maxRecDepth 100000 in
theorem impl_sizeOf (s : ByteArray) (w : World) (hs : s.size ≤ 1000) :
    Calls Tryz.prog 29 #[.string s] w fun e w' => e = .returned (.tuple #[.agg #[.int .i64 (sizeO s.data.toList).1, .int .i64 (sizeO s.data.toList).2.1], .bool (sizeO s.data.toList).2.2]) ∧ Below w.heap.size w w' := by
  by_cases h5 : s.size ≤ 5
  · go_enter Tryz.func29, Tryz.ntmps29
    go_wp2_with fail
    obtain ⟨wb, hwb⟩ : ∃ wb, wb = (w.alloc (.cells #[.int .i64 0, .int .i64 0] 54)).alloc (.cells #[.int .i64 1, .int .i64 1] 54) := ⟨_, rfl⟩
    have hbw : Below w.heap.size w wb := by rw [hwb]; exact ((Below.refl _ _).alloc (Nat.le_refl _) _).alloc (by simp) _
    have hkr : Blk wb w.heap.size 54 #[.int .i64 0, .int .i64 0] := by rw [hwb]; exact (Blk.new w _ _).alloc _
    obtain ⟨bb, hq⟩ : ∃ q, q = w.heap.size + 1 := ⟨_, rfl⟩
    have hkb : Blk wb bb 54 #[.int .i64 (1 : Nat), .int .i64 (1 : Nat)] := by
      have h := Blk.new (w.alloc (.cells #[.int .i64 0, .int .i64 0] 54)) 54 #[.int .i64 (1 : Nat), .int .i64 (1 : Nat)]
      rw [hwb, hq]
      have e : (w.alloc (.cells #[.int .i64 0, .int .i64 0] 54)).heap.size = w.heap.size + 1 := by simp
      rw [e] at h; exact h
    obtain ⟨rb, hrb⟩ : ∃ p, p = w.heap.size := ⟨_, rfl⟩
    have hrq : rb ≠ bb := by omega
    have hbq : w.heap.size ≤ bb := by omega
    have hrw : w.heap.size ≤ rb := by omega
    rw [← hwb, ← hq]
    rw [← hrb] at hkr ⊢
    have HKR := Lib.hid hkr
    have HKB := Lib.hid hkb
    have HBW := Lib.hid hbw
    have HBQ := Lib.hid (And.intro hbq hrw)
    clear hwb hq hrb hkr hkb hbw hbq hrw
    go_loopg [5] (s.size + 1) (fun gg s5 wr => ∃ (k P Q : Nat), k ≤ s.size ∧ s5 = .int .i64 k ∧ s.size - k < gg ∧ (P ≤ 32 ∧ Q ≤ 32) ∧ Hid (P = rowsT (s.data.toList.take k) ∧ Q = colsT (s.data.toList.take k)) ∧ Hid ((s.data.toList.take k).all (fun c => wideL c || highB c) = true) ∧ Hid (Blk wr bb 54 #[.int .i64 P, .int .i64 Q]) ∧ Hid (wb.grownBy wr (some bb)))
    case atStart => exact ⟨0, 1, 1, Nat.zero_le _, rfl, by omega, ⟨by omega, by omega⟩, ⟨rfl, rfl⟩, rfl, HKB, World.grownBy.refl wb _⟩
    case round =>
      clear HKB
      obtain ⟨k, P, Q, hk, rfl, hg, hPQ, HPQ, HA, HK, HG⟩ := hrel
      cases gk with
      | zero => omega
      | succ g1 =>
      have c0 : wr.cell? ⟨bb, 0, none⟩ = some (.int .i64 P) := HK.out.cell 0
      have c1 : wr.cell? ⟨bb, 1, none⟩ = some (.int .i64 Q) := HK.out.cell 1
      have f0 := HK.out.frozen 0
      have f1 := HK.out.frozen 1
      have hkr := HKR.out.grown HG.out (fun e => hrq (Option.some.inj e))
      have d0 : wr.cell? ⟨rb, 0, none⟩ = some (.int .i64 0) := hkr.cell 0
      have d1 : wr.cell? ⟨rb, 1, none⟩ = some (.int .i64 0) := hkr.cell 1
      have e0 := hkr.frozen 0
      have e1 := hkr.frozen 1
      have HKRR := Lib.hid hkr
      clear hkr
      have HBE := Lib.hid (HBW.out.grown HG.out HBW.out.size (fun g e => by cases e; exact HBQ.out.1))
      have hp32 := hPQ.1
      have hq32 := hPQ.2
      by_cases hlt : k < s.size
      · have k1 : (k : Int) < (s.size : Int) := by omega
        have k0 : (0 : Int) ≤ (k : Int) := by omega
        have htk := byte_takeX hlt
        obtain ⟨ch, hch⟩ : ∃ ch : UInt8, ch = s[k] := ⟨_, rfl⟩
        have hch' : s[k] = ch := hch.symm
        cases hv : (wideL ch || highB ch) with
        | false =>
          have hn : sizeO s.data.toList = (0, 0, false) := by
            unfold sizeO
            rw [if_neg]
            intro hh
            unfold shB at hh
            simp only [Bool.and_eq_true] at hh
            have := List.all_eq_true.1 hh.2 _ (byte_memX hlt)
            rw [hch', hv] at this; cases this
          have HN := Lib.hid hn
          have hne : ∀ d : UInt8, (wideL d || highB d) = true → ch.toNat ≠ d.toNat := by
            intro d hd e
            have := UInt8.toNat_inj.1 e
            rw [this, hd] at hv; cases hv
          have n1 : (((s[k] : UInt8).toNat : Int) == 82) = false := by rw [hch', beq_eq_false_iff_ne]; have h := hne 82 rfl; have h2 : (82 : UInt8).toNat = 82 := rfl; omega
          have n2 : (((s[k] : UInt8).toNat : Int) == 76) = false := by rw [hch', beq_eq_false_iff_ne]; have h := hne 76 rfl; have h2 : (76 : UInt8).toNat = 76 := rfl; omega
          have n3 : (((s[k] : UInt8).toNat : Int) == 114) = false := by rw [hch', beq_eq_false_iff_ne]; have h := hne 114 rfl; have h2 : (114 : UInt8).toNat = 114 := rfl; omega
          have n4 : (((s[k] : UInt8).toNat : Int) == 108) = false := by rw [hch', beq_eq_false_iff_ne]; have h := hne 108 rfl; have h2 : (108 : UInt8).toNat = 108 := rfl; omega
          have n5 : (((s[k] : UInt8).toNat : Int) == 85) = false := by rw [hch', beq_eq_false_iff_ne]; have h := hne 85 rfl; have h2 : (85 : UInt8).toNat = 85 := rfl; omega
          have n6 : (((s[k] : UInt8).toNat : Int) == 68) = false := by rw [hch', beq_eq_false_iff_ne]; have h := hne 68 rfl; have h2 : (68 : UInt8).toNat = 68 := rfl; omega
          have n7 : (((s[k] : UInt8).toNat : Int) == 117) = false := by rw [hch', beq_eq_false_iff_ne]; have h := hne 117 rfl; have h2 : (117 : UInt8).toNat = 117 := rfl; omega
          have n8 : (((s[k] : UInt8).toNat : Int) == 100) = false := by rw [hch', beq_eq_false_iff_ne]; have h := hne 100 rfl; have h2 : (100 : UInt8).toNat = 100 := rfl; omega
          clear hne hch hch' hn hv htk
          go_wp2_with fail
          have hk2 : Blk ((wr.setCell ⟨rb, 0, none⟩ (.int .i64 0)).setCell ⟨rb, 1, none⟩ (.int .i64 0)) rb 54 #[.int .i64 0, .int .i64 0] := by simpa using (HKRR.out.set_ 0 (.int .i64 0)).set_ 1 (.int .i64 0)
          refine bodyPost_ret (res_size rfl _ _ rb _ _ (by rfl) hk2) rfl ⟨by rw [HN.out]; rfl, ?_⟩
          exact HBE.out.grown ((grown_setX wr rb 0 _).trans (grown_setX _ rb 1 _)) HBE.out.size (fun g e => by cases e; exact HBQ.out.2)
        | true =>
        rcases letter_cases hv with rfl | rfl | rfl | rfl | rfl | rfl | rfl | rfl
        · have hx : ((s[k] : UInt8).toNat : Int) = 82 := by rw [← hch]; rfl
          have HP2 : Hid (P = rowsT (s.data.toList.take (k + 1))) := by show _ = _; rw [htk, rowsT_snoc, hch', ← HPQ.out.1]; simp [highB]
          have HQ2 : Hid (Q * 2 = colsT (s.data.toList.take (k + 1))) := by show _ = _; rw [htk, colsT_snoc, hch', ← HPQ.out.2]; simp [wideL]; try omega
          have HA2 : Hid ((s.data.toList.take (k + 1)).all (fun c => wideL c || highB c) = true) := by show _ = _; rw [htk, List.all_append, HA.out, hch']; rfl
          have hle : Q * 2 ≤ 32 := by rw [HQ2.out]; exact colsT_le (by rw [List.length_take]; omega)
          clear hch hch' htk
          go_wp2_with fail
          have hK2 : Blk (wr.setCell ⟨bb, 1, none⟩ (.int .i64 ((Q * 2 : Nat) : Int))) bb 54 #[.int .i64 (P : Nat), .int .i64 (Q * 2 : Nat)] := by simpa using HK.out.set_ 1 (.int .i64 ((Q * 2 : Nat) : Int))
          have hG2 := HG.out.trans (grown_setX wr bb 1 (.int .i64 ((Q * 2 : Nat) : Int)))
          have ez : ((Q * 2 : Nat) : Int) = (Q : Int) * 2 := by omega
          rw [ez] at hK2 hG2
          have ez2 : ((Q * 2 : Nat) : Int) = (Q : Int) * 2 := by omega
          have HK2 : Hid (Blk (wr.setCell ⟨bb, 1, none⟩ (.int .i64 ((Q : Int) * 2))) bb 54 #[.int .i64 ((P : Nat) : Int), .int .i64 ((Q * 2 : Nat) : Int)]) := by
            show Blk _ _ _ _
            rw [ez2]; exact hK2
          have HG2 := Lib.hid hG2
          clear hK2 hG2 ez ez2
          go_roundg g1
          case measure => omega
          case rel => exact ⟨k + 1, P, Q * 2, by omega, by go_num, by omega, ⟨hPQ.1, hle⟩, ⟨HP2.out, HQ2.out⟩, HA2, HK2, HG2⟩
        · have hx : ((s[k] : UInt8).toNat : Int) = 76 := by rw [← hch]; rfl
          have HP2 : Hid (P = rowsT (s.data.toList.take (k + 1))) := by show _ = _; rw [htk, rowsT_snoc, hch', ← HPQ.out.1]; simp [highB]
          have HQ2 : Hid (Q * 2 = colsT (s.data.toList.take (k + 1))) := by show _ = _; rw [htk, colsT_snoc, hch', ← HPQ.out.2]; simp [wideL]; try omega
          have HA2 : Hid ((s.data.toList.take (k + 1)).all (fun c => wideL c || highB c) = true) := by show _ = _; rw [htk, List.all_append, HA.out, hch']; rfl
          have hle : Q * 2 ≤ 32 := by rw [HQ2.out]; exact colsT_le (by rw [List.length_take]; omega)
          clear hch hch' htk
          go_wp2_with fail
          have hK2 : Blk (wr.setCell ⟨bb, 1, none⟩ (.int .i64 ((Q * 2 : Nat) : Int))) bb 54 #[.int .i64 (P : Nat), .int .i64 (Q * 2 : Nat)] := by simpa using HK.out.set_ 1 (.int .i64 ((Q * 2 : Nat) : Int))
          have hG2 := HG.out.trans (grown_setX wr bb 1 (.int .i64 ((Q * 2 : Nat) : Int)))
          have ez : ((Q * 2 : Nat) : Int) = (Q : Int) * 2 := by omega
          rw [ez] at hK2 hG2
          have ez2 : ((Q * 2 : Nat) : Int) = (Q : Int) * 2 := by omega
          have HK2 : Hid (Blk (wr.setCell ⟨bb, 1, none⟩ (.int .i64 ((Q : Int) * 2))) bb 54 #[.int .i64 ((P : Nat) : Int), .int .i64 ((Q * 2 : Nat) : Int)]) := by
            show Blk _ _ _ _
            rw [ez2]; exact hK2
          have HG2 := Lib.hid hG2
          clear hK2 hG2 ez ez2
          go_roundg g1
          case measure => omega
          case rel => exact ⟨k + 1, P, Q * 2, by omega, by go_num, by omega, ⟨hPQ.1, hle⟩, ⟨HP2.out, HQ2.out⟩, HA2, HK2, HG2⟩
        · have hx : ((s[k] : UInt8).toNat : Int) = 114 := by rw [← hch]; rfl
          have HP2 : Hid (P = rowsT (s.data.toList.take (k + 1))) := by show _ = _; rw [htk, rowsT_snoc, hch', ← HPQ.out.1]; simp [highB]
          have HQ2 : Hid (Q * 2 = colsT (s.data.toList.take (k + 1))) := by show _ = _; rw [htk, colsT_snoc, hch', ← HPQ.out.2]; simp [wideL]; try omega
          have HA2 : Hid ((s.data.toList.take (k + 1)).all (fun c => wideL c || highB c) = true) := by show _ = _; rw [htk, List.all_append, HA.out, hch']; rfl
          have hle : Q * 2 ≤ 32 := by rw [HQ2.out]; exact colsT_le (by rw [List.length_take]; omega)
          clear hch hch' htk
          go_wp2_with fail
          have hK2 : Blk (wr.setCell ⟨bb, 1, none⟩ (.int .i64 ((Q * 2 : Nat) : Int))) bb 54 #[.int .i64 (P : Nat), .int .i64 (Q * 2 : Nat)] := by simpa using HK.out.set_ 1 (.int .i64 ((Q * 2 : Nat) : Int))
          have hG2 := HG.out.trans (grown_setX wr bb 1 (.int .i64 ((Q * 2 : Nat) : Int)))
          have ez : ((Q * 2 : Nat) : Int) = (Q : Int) * 2 := by omega
          rw [ez] at hK2 hG2
          have ez2 : ((Q * 2 : Nat) : Int) = (Q : Int) * 2 := by omega
          have HK2 : Hid (Blk (wr.setCell ⟨bb, 1, none⟩ (.int .i64 ((Q : Int) * 2))) bb 54 #[.int .i64 ((P : Nat) : Int), .int .i64 ((Q * 2 : Nat) : Int)]) := by
            show Blk _ _ _ _
            rw [ez2]; exact hK2
          have HG2 := Lib.hid hG2
          clear hK2 hG2 ez ez2
          go_roundg g1
          case measure => omega
          case rel => exact ⟨k + 1, P, Q * 2, by omega, by go_num, by omega, ⟨hPQ.1, hle⟩, ⟨HP2.out, HQ2.out⟩, HA2, HK2, HG2⟩
        · have hx : ((s[k] : UInt8).toNat : Int) = 108 := by rw [← hch]; rfl
          have HP2 : Hid (P = rowsT (s.data.toList.take (k + 1))) := by show _ = _; rw [htk, rowsT_snoc, hch', ← HPQ.out.1]; simp [highB]
          have HQ2 : Hid (Q * 2 = colsT (s.data.toList.take (k + 1))) := by show _ = _; rw [htk, colsT_snoc, hch', ← HPQ.out.2]; simp [wideL]; try omega
          have HA2 : Hid ((s.data.toList.take (k + 1)).all (fun c => wideL c || highB c) = true) := by show _ = _; rw [htk, List.all_append, HA.out, hch']; rfl
          have hle : Q * 2 ≤ 32 := by rw [HQ2.out]; exact colsT_le (by rw [List.length_take]; omega)
          clear hch hch' htk
          go_wp2_with fail
          have hK2 : Blk (wr.setCell ⟨bb, 1, none⟩ (.int .i64 ((Q * 2 : Nat) : Int))) bb 54 #[.int .i64 (P : Nat), .int .i64 (Q * 2 : Nat)] := by simpa using HK.out.set_ 1 (.int .i64 ((Q * 2 : Nat) : Int))
          have hG2 := HG.out.trans (grown_setX wr bb 1 (.int .i64 ((Q * 2 : Nat) : Int)))
          have ez : ((Q * 2 : Nat) : Int) = (Q : Int) * 2 := by omega
          rw [ez] at hK2 hG2
          have ez2 : ((Q * 2 : Nat) : Int) = (Q : Int) * 2 := by omega
          have HK2 : Hid (Blk (wr.setCell ⟨bb, 1, none⟩ (.int .i64 ((Q : Int) * 2))) bb 54 #[.int .i64 ((P : Nat) : Int), .int .i64 ((Q * 2 : Nat) : Int)]) := by
            show Blk _ _ _ _
            rw [ez2]; exact hK2
          have HG2 := Lib.hid hG2
          clear hK2 hG2 ez ez2
          go_roundg g1
          case measure => omega
          case rel => exact ⟨k + 1, P, Q * 2, by omega, by go_num, by omega, ⟨hPQ.1, hle⟩, ⟨HP2.out, HQ2.out⟩, HA2, HK2, HG2⟩
        · have hx : ((s[k] : UInt8).toNat : Int) = 85 := by rw [← hch]; rfl
          have HP2 : Hid (P * 2 = rowsT (s.data.toList.take (k + 1))) := by show _ = _; rw [htk, rowsT_snoc, hch', ← HPQ.out.1]; simp [highB]; try omega
          have HQ2 : Hid (Q = colsT (s.data.toList.take (k + 1))) := by show _ = _; rw [htk, colsT_snoc, hch', ← HPQ.out.2]; simp [wideL]
          have HA2 : Hid ((s.data.toList.take (k + 1)).all (fun c => wideL c || highB c) = true) := by show _ = _; rw [htk, List.all_append, HA.out, hch']; rfl
          have hle : P * 2 ≤ 32 := by rw [HP2.out]; exact rowsT_le (by rw [List.length_take]; omega)
          clear hch hch' htk
          go_wp2_with fail
          have hK2 : Blk (wr.setCell ⟨bb, 0, none⟩ (.int .i64 ((P * 2 : Nat) : Int))) bb 54 #[.int .i64 (P * 2 : Nat), .int .i64 (Q : Nat)] := by simpa using HK.out.set_ 0 (.int .i64 ((P * 2 : Nat) : Int))
          have hG2 := HG.out.trans (grown_setX wr bb 0 (.int .i64 ((P * 2 : Nat) : Int)))
          have ez : ((P * 2 : Nat) : Int) = (P : Int) * 2 := by omega
          rw [ez] at hK2 hG2
          have ez2 : ((P * 2 : Nat) : Int) = (P : Int) * 2 := by omega
          have HK2 : Hid (Blk (wr.setCell ⟨bb, 0, none⟩ (.int .i64 ((P : Int) * 2))) bb 54 #[.int .i64 ((P * 2 : Nat) : Int), .int .i64 ((Q : Nat) : Int)]) := by
            show Blk _ _ _ _
            rw [ez2]; exact hK2
          have HG2 := Lib.hid hG2
          clear hK2 hG2 ez ez2
          go_roundg g1
          case measure => omega
          case rel => exact ⟨k + 1, P * 2, Q, by omega, by go_num, by omega, ⟨hle, hPQ.2⟩, ⟨HP2.out, HQ2.out⟩, HA2, HK2, HG2⟩
        · have hx : ((s[k] : UInt8).toNat : Int) = 68 := by rw [← hch]; rfl
          have HP2 : Hid (P * 2 = rowsT (s.data.toList.take (k + 1))) := by show _ = _; rw [htk, rowsT_snoc, hch', ← HPQ.out.1]; simp [highB]; try omega
          have HQ2 : Hid (Q = colsT (s.data.toList.take (k + 1))) := by show _ = _; rw [htk, colsT_snoc, hch', ← HPQ.out.2]; simp [wideL]
          have HA2 : Hid ((s.data.toList.take (k + 1)).all (fun c => wideL c || highB c) = true) := by show _ = _; rw [htk, List.all_append, HA.out, hch']; rfl
          have hle : P * 2 ≤ 32 := by rw [HP2.out]; exact rowsT_le (by rw [List.length_take]; omega)
          clear hch hch' htk
          go_wp2_with fail
          have hK2 : Blk (wr.setCell ⟨bb, 0, none⟩ (.int .i64 ((P * 2 : Nat) : Int))) bb 54 #[.int .i64 (P * 2 : Nat), .int .i64 (Q : Nat)] := by simpa using HK.out.set_ 0 (.int .i64 ((P * 2 : Nat) : Int))
          have hG2 := HG.out.trans (grown_setX wr bb 0 (.int .i64 ((P * 2 : Nat) : Int)))
          have ez : ((P * 2 : Nat) : Int) = (P : Int) * 2 := by omega
          rw [ez] at hK2 hG2
          have ez2 : ((P * 2 : Nat) : Int) = (P : Int) * 2 := by omega
          have HK2 : Hid (Blk (wr.setCell ⟨bb, 0, none⟩ (.int .i64 ((P : Int) * 2))) bb 54 #[.int .i64 ((P * 2 : Nat) : Int), .int .i64 ((Q : Nat) : Int)]) := by
            show Blk _ _ _ _
            rw [ez2]; exact hK2
          have HG2 := Lib.hid hG2
          clear hK2 hG2 ez ez2
          go_roundg g1
          case measure => omega
          case rel => exact ⟨k + 1, P * 2, Q, by omega, by go_num, by omega, ⟨hle, hPQ.2⟩, ⟨HP2.out, HQ2.out⟩, HA2, HK2, HG2⟩
        · have hx : ((s[k] : UInt8).toNat : Int) = 117 := by rw [← hch]; rfl
          have HP2 : Hid (P * 2 = rowsT (s.data.toList.take (k + 1))) := by show _ = _; rw [htk, rowsT_snoc, hch', ← HPQ.out.1]; simp [highB]; try omega
          have HQ2 : Hid (Q = colsT (s.data.toList.take (k + 1))) := by show _ = _; rw [htk, colsT_snoc, hch', ← HPQ.out.2]; simp [wideL]
          have HA2 : Hid ((s.data.toList.take (k + 1)).all (fun c => wideL c || highB c) = true) := by show _ = _; rw [htk, List.all_append, HA.out, hch']; rfl
          have hle : P * 2 ≤ 32 := by rw [HP2.out]; exact rowsT_le (by rw [List.length_take]; omega)
          clear hch hch' htk
          go_wp2_with fail
          have hK2 : Blk (wr.setCell ⟨bb, 0, none⟩ (.int .i64 ((P * 2 : Nat) : Int))) bb 54 #[.int .i64 (P * 2 : Nat), .int .i64 (Q : Nat)] := by simpa using HK.out.set_ 0 (.int .i64 ((P * 2 : Nat) : Int))
          have hG2 := HG.out.trans (grown_setX wr bb 0 (.int .i64 ((P * 2 : Nat) : Int)))
          have ez : ((P * 2 : Nat) : Int) = (P : Int) * 2 := by omega
          rw [ez] at hK2 hG2
          have ez2 : ((P * 2 : Nat) : Int) = (P : Int) * 2 := by omega
          have HK2 : Hid (Blk (wr.setCell ⟨bb, 0, none⟩ (.int .i64 ((P : Int) * 2))) bb 54 #[.int .i64 ((P * 2 : Nat) : Int), .int .i64 ((Q : Nat) : Int)]) := by
            show Blk _ _ _ _
            rw [ez2]; exact hK2
          have HG2 := Lib.hid hG2
          clear hK2 hG2 ez ez2
          go_roundg g1
          case measure => omega
          case rel => exact ⟨k + 1, P * 2, Q, by omega, by go_num, by omega, ⟨hle, hPQ.2⟩, ⟨HP2.out, HQ2.out⟩, HA2, HK2, HG2⟩
        · have hx : ((s[k] : UInt8).toNat : Int) = 100 := by rw [← hch]; rfl
          have HP2 : Hid (P * 2 = rowsT (s.data.toList.take (k + 1))) := by show _ = _; rw [htk, rowsT_snoc, hch', ← HPQ.out.1]; simp [highB]; try omega
          have HQ2 : Hid (Q = colsT (s.data.toList.take (k + 1))) := by show _ = _; rw [htk, colsT_snoc, hch', ← HPQ.out.2]; simp [wideL]
          have HA2 : Hid ((s.data.toList.take (k + 1)).all (fun c => wideL c || highB c) = true) := by show _ = _; rw [htk, List.all_append, HA.out, hch']; rfl
          have hle : P * 2 ≤ 32 := by rw [HP2.out]; exact rowsT_le (by rw [List.length_take]; omega)
          clear hch hch' htk
          go_wp2_with fail
          have hK2 : Blk (wr.setCell ⟨bb, 0, none⟩ (.int .i64 ((P * 2 : Nat) : Int))) bb 54 #[.int .i64 (P * 2 : Nat), .int .i64 (Q : Nat)] := by simpa using HK.out.set_ 0 (.int .i64 ((P * 2 : Nat) : Int))
          have hG2 := HG.out.trans (grown_setX wr bb 0 (.int .i64 ((P * 2 : Nat) : Int)))
          have ez : ((P * 2 : Nat) : Int) = (P : Int) * 2 := by omega
          rw [ez] at hK2 hG2
          have ez2 : ((P * 2 : Nat) : Int) = (P : Int) * 2 := by omega
          have HK2 : Hid (Blk (wr.setCell ⟨bb, 0, none⟩ (.int .i64 ((P : Int) * 2))) bb 54 #[.int .i64 ((P * 2 : Nat) : Int), .int .i64 ((Q : Nat) : Int)]) := by
            show Blk _ _ _ _
            rw [ez2]; exact hK2
          have HG2 := Lib.hid hG2
          clear hK2 hG2 ez ez2
          go_roundg g1
          case measure => omega
          case rel => exact ⟨k + 1, P * 2, Q, by omega, by go_num, by omega, ⟨hle, hPQ.2⟩, ⟨HP2.out, HQ2.out⟩, HA2, HK2, HG2⟩
      · obtain rfl : k = s.size := by omega
        have hn : sizeO s.data.toList = (P, Q, true) := by
          have hA := HA.out
          have hp := HPQ.out
          rw [List.take_of_length_le (by rw [size_listX]; exact Nat.le_refl _)] at hA hp
          unfold sizeO
          rw [if_pos (by unfold shB; rw [Bool.and_eq_true]; exact ⟨by simp; omega, hA⟩), hp.1, hp.2]
        have HN := Lib.hid hn
        clear hn
        go_wp2_with fail
        have hk2 : Blk ((wr.setCell ⟨rb, 0, none⟩ (.int .i64 P)).setCell ⟨rb, 1, none⟩ (.int .i64 Q)) rb 54 #[.int .i64 P, .int .i64 Q] := by simpa using (HKRR.out.set_ 0 (.int .i64 P)).set_ 1 (.int .i64 Q)
        refine bodyPost_ret (res_size rfl _ _ rb _ _ (by rfl) hk2) rfl ⟨by rw [HN.out]; rfl, ?_⟩
        exact HBE.out.grown ((grown_setX wr rb 0 _).trans (grown_setX _ rb 1 _)) HBE.out.size (fun g e => by cases e; exact HBQ.out.2)
  · have hn : sizeO s.data.toList = (0, 0, false) := by
      unfold sizeO shB
      rw [if_neg]
      rw [Bool.and_eq_true]
      rintro ⟨h, _⟩
      simp at h; omega
    rw [hn]
    have d1 : decide ((5 : Int) < (s.size : Int)) = true := by simp; omega
    clear hn
    go_enter Tryz.func29, Tryz.ntmps29
    go_wp2_with fail
    refine bodyPost_ret (res_size rfl _ _ w.heap.size _ _ (by rfl) (Blk.new w _ _)) rfl ⟨rfl, (Below.refl _ _).alloc (Nat.le_refl _) _⟩
end Go.Proofs.YtmohfibgefcefaaGreatDoor
