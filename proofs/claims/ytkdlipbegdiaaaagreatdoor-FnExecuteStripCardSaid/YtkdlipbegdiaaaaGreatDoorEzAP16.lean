/- The size of a sheet: the program's. No condition but sizes. The stack of a text, a cell of it: the program's. No condition but sizes. -/
import Derived.Test.YtkdlipbegdiaaaaGreatDoorEzAP11
import Derived.Laws.ResultCell
import Derived.Laws.Rows
namespace Go.Proofs.YtkdlipbegdiaaaaGreatDoor
open Go.RowKit
theorem rowsT_snoc (l : List UInt8) (c : UInt8) : rowsT (l ++ [c]) = rowsT l * (if highB c then 2 else 1) := by
  unfold rowsT
  rw [List.countP_append, List.countP_singleton]
  split
  · rw [Nat.pow_add]
  · simp
theorem colsT_snoc (l : List UInt8) (c : UInt8) : colsT (l ++ [c]) = colsT l * (if wideL c then 2 else 1) := by
  unfold colsT
  rw [List.countP_append, List.countP_singleton]
  split
  · rw [Nat.pow_add]
  · simp
theorem size_listX (s : ByteArray) : s.data.toList.length = s.size := Array.length_toList
theorem byte_takeX {s : ByteArray} {k : Nat} (h : k < s.size) : s.data.toList.take (k + 1) = s.data.toList.take k ++ [s[k]] := by
  rw [List.take_succ_eq_append_getElem (by rw [size_listX]; exact h)]; rfl
theorem byte_memX {s : ByteArray} {k : Nat} (h : k < s.size) : s[k] ∈ s.data.toList := by
  have hl : k < s.data.toList.length := by rw [size_listX]; exact h
  exact List.getElem_mem hl
/-- rows, columns, is it a sheet -/
def sizeO (l : List UInt8) : Nat × Nat × Bool := if shB l then (rowsT l, colsT l, true) else (0, 0, false)
theorem Tryz.infoSz : (Tryz.prog.info? 155).map (·.size) = some 2 := by kernel_rfl
theorem res_size {fn : Func} {p u : Tmp} (h : fn.results = #[.cell p 155, .tmp u]) (tmps : Array Value) (w : World) (g : Nat) (x y : Value) (hp : tmps.getD p undef = .pointer (some ⟨g, 0, none⟩)) (hk : Blk w g 155 #[x, y]) :
    (results fn tmps).run Tryz.prog w = .ok (.tuple #[.agg #[x, y], tmps.getD u undef]) w := by
  rw [results_cell_tmp h, hp]
  simp [asAddr, Result.andThen, run_loadVar_row w g 155 155 #[x, y] (0, 0) _ hk Tryz.underlying155 rfl Tryz.infoSz]
set_option maxHeartbeats 4000000 in
set_option maxRecDepth 100000 in
theorem impl_sizeOf (s : ByteArray) (w : World) (hs : s.size ≤ 1000) :
    Calls Tryz.prog 158 #[.string s] w fun e w' => e = .returned (.tuple #[.agg #[.int .i64 (sizeO s.data.toList).1, .int .i64 (sizeO s.data.toList).2.1], .bool (sizeO s.data.toList).2.2]) ∧ Below w.heap.size w w' := by
  by_cases h5 : s.size ≤ 5
  · go_enter Tryz.func158, Tryz.ntmps158
    go_wp2_with fail
    obtain ⟨wb, hwb⟩ : ∃ wb, wb = (w.alloc (.cells #[.int .i64 0, .int .i64 0] 155)).alloc (.cells #[.int .i64 1, .int .i64 1] 155) := ⟨_, rfl⟩
    have hbw : Below w.heap.size w wb := by rw [hwb]; exact ((Below.refl _ _).alloc (Nat.le_refl _) _).alloc (by simp) _
    have hkr : Blk wb w.heap.size 155 #[.int .i64 0, .int .i64 0] := by rw [hwb]; exact (Blk.new w _ _).alloc _
    obtain ⟨bb, hq⟩ : ∃ q, q = w.heap.size + 1 := ⟨_, rfl⟩
    have hkb : Blk wb bb 155 #[.int .i64 (1 : Nat), .int .i64 (1 : Nat)] := by
      have h := Blk.new (w.alloc (.cells #[.int .i64 0, .int .i64 0] 155)) 155 #[.int .i64 (1 : Nat), .int .i64 (1 : Nat)]
      rw [hwb, hq]
      have e : (w.alloc (.cells #[.int .i64 0, .int .i64 0] 155)).heap.size = w.heap.size + 1 := by simp
      rw [e] at h; exact h
    obtain ⟨rb, hrb⟩ : ∃ p, p = w.heap.size := ⟨_, rfl⟩
    have hrq : rb ≠ bb := by omega
    have hbq : w.heap.size ≤ bb := by omega
    have hrw : w.heap.size ≤ rb := by omega
    rw [← hwb, ← hq]
    rw [← hrb] at hkr ⊢
    have HKR := Lib.hid hkr
    have HKB := Lib.hid hkb
    have HBW := Lib.hid hbw
    have HBQ := Lib.hid (And.intro hbq hrw)
    clear hwb hq hrb hkr hkb hbw hbq hrw
    go_loopg [5] (s.size + 1) (fun gg s5 wr => ∃ (k P Q : Nat), k ≤ s.size ∧ s5 = .int .i64 k ∧ s.size - k < gg ∧ (P ≤ 32 ∧ Q ≤ 32) ∧ Hid (P = rowsT (s.data.toList.take k) ∧ Q = colsT (s.data.toList.take k)) ∧ Hid ((s.data.toList.take k).all (fun c => wideL c || highB c) = true) ∧ Hid (Blk wr bb 155 #[.int .i64 P, .int .i64 Q]) ∧ Hid (wb.grownBy wr (some bb)))
    case atStart => exact ⟨0, 1, 1, Nat.zero_le _, rfl, by omega, ⟨by omega, by omega⟩, ⟨rfl, rfl⟩, rfl, HKB, World.grownBy.refl wb _⟩
    case round =>
      clear HKB
      obtain ⟨k, P, Q, hk, rfl, hg, hPQ, HPQ, HA, HK, HG⟩ := hrel
      cases gk with
      | zero => omega
      | succ g1 =>
      have c0 : wr.cell? ⟨bb, 0, none⟩ = some (.int .i64 P) := HK.out.cell 0
      have c1 : wr.cell? ⟨bb, 1, none⟩ = some (.int .i64 Q) := HK.out.cell 1
      have f0 := HK.out.frozen 0
      have f1 := HK.out.frozen 1
      have hkr := HKR.out.grown HG.out (fun e => hrq (Option.some.inj e))
      have d0 : wr.cell? ⟨rb, 0, none⟩ = some (.int .i64 0) := hkr.cell 0
      have d1 : wr.cell? ⟨rb, 1, none⟩ = some (.int .i64 0) := hkr.cell 1
      have e0 := hkr.frozen 0
      have e1 := hkr.frozen 1
      have HKRR := Lib.hid hkr
      clear hkr
      have HBE := Lib.hid (HBW.out.grown HG.out HBW.out.size (fun g e => by cases e; exact HBQ.out.1))
      have hp32 := hPQ.1
      have hq32 := hPQ.2
      by_cases hlt : k < s.size
      · have k1 : (k : Int) < (s.size : Int) := by omega
        have k0 : (0 : Int) ≤ (k : Int) := by omega
        have htk := byte_takeX hlt
        obtain ⟨ch, hch⟩ : ∃ ch : UInt8, ch = s[k] := ⟨_, rfl⟩
        have hch' : s[k] = ch := hch.symm
        cases hv : (wideL ch || highB ch) with
        | false =>
          have hn : sizeO s.data.toList = (0, 0, false) := by
            unfold sizeO
            rw [if_neg]
            intro hh
            unfold shB at hh
            simp only [Bool.and_eq_true] at hh
            have := List.all_eq_true.1 hh.2 _ (byte_memX hlt)
            rw [hch', hv] at this; cases this
          have HN := Lib.hid hn
          have hne : ∀ d : UInt8, (wideL d || highB d) = true → ch.toNat ≠ d.toNat := by
            intro d hd e
            have := UInt8.toNat_inj.1 e
            rw [this, hd] at hv; cases hv
          have n1 : (((s[k] : UInt8).toNat : Int) == 82) = false := by rw [hch', beq_eq_false_iff_ne]; have h := hne 82 rfl; have h2 : (82 : UInt8).toNat = 82 := rfl; omega
          have n2 : (((s[k] : UInt8).toNat : Int) == 76) = false := by rw [hch', beq_eq_false_iff_ne]; have h := hne 76 rfl; have h2 : (76 : UInt8).toNat = 76 := rfl; omega
          have n3 : (((s[k] : UInt8).toNat : Int) == 114) = false := by rw [hch', beq_eq_false_iff_ne]; have h := hne 114 rfl; have h2 : (114 : UInt8).toNat = 114 := rfl; omega
          have n4 : (((s[k] : UInt8).toNat : Int) == 108) = false := by rw [hch', beq_eq_false_iff_ne]; have h := hne 108 rfl; have h2 : (108 : UInt8).toNat = 108 := rfl; omega
          have n5 : (((s[k] : UInt8).toNat : Int) == 85) = false := by rw [hch', beq_eq_false_iff_ne]; have h := hne 85 rfl; have h2 : (85 : UInt8).toNat = 85 := rfl; omega
          have n6 : (((s[k] : UInt8).toNat : Int) == 68) = false := by rw [hch', beq_eq_false_iff_ne]; have h := hne 68 rfl; have h2 : (68 : UInt8).toNat = 68 := rfl; omega
          have n7 : (((s[k] : UInt8).toNat : Int) == 117) = false := by rw [hch', beq_eq_false_iff_ne]; have h := hne 117 rfl; have h2 : (117 : UInt8).toNat = 117 := rfl; omega
          have n8 : (((s[k] : UInt8).toNat : Int) == 100) = false := by rw [hch', beq_eq_false_iff_ne]; have h := hne 100 rfl; have h2 : (100 : UInt8).toNat = 100 := rfl; omega
          clear hne hch hch' hn hv htk
          go_wp2_with fail
          have hk2 : Blk ((wr.setCell ⟨rb, 0, none⟩ (.int .i64 0)).setCell ⟨rb, 1, none⟩ (.int .i64 0)) rb 155 #[.int .i64 0, .int .i64 0] := by simpa using (HKRR.out.set_ 0 (.int .i64 0)).set_ 1 (.int .i64 0)
          refine bodyPost_ret (res_size rfl _ _ rb _ _ (by rfl) hk2) rfl ⟨by rw [HN.out]; rfl, ?_⟩
          exact HBE.out.grown ((grown_setX wr rb 0 _).trans (grown_setX _ rb 1 _)) HBE.out.size (fun g e => by cases e; exact HBQ.out.2)
        | true =>
        rcases letter_cases hv with rfl | rfl | rfl | rfl | rfl | rfl | rfl | rfl
        · have hx : ((s[k] : UInt8).toNat : Int) = 82 := by rw [← hch]; rfl
          have HP2 : Hid (P = rowsT (s.data.toList.take (k + 1))) := by show _ = _; rw [htk, rowsT_snoc, hch', ← HPQ.out.1]; simp [highB]
          have HQ2 : Hid (Q * 2 = colsT (s.data.toList.take (k + 1))) := by show _ = _; rw [htk, colsT_snoc, hch', ← HPQ.out.2]; simp [wideL]; try omega
          have HA2 : Hid ((s.data.toList.take (k + 1)).all (fun c => wideL c || highB c) = true) := by show _ = _; rw [htk, List.all_append, HA.out, hch']; rfl
          have hle : Q * 2 ≤ 32 := by rw [HQ2.out]; exact colsT_le (by rw [List.length_take]; omega)
          clear hch hch' htk
          go_wp2_with fail
          have hK2 : Blk (wr.setCell ⟨bb, 1, none⟩ (.int .i64 ((Q * 2 : Nat) : Int))) bb 155 #[.int .i64 (P : Nat), .int .i64 (Q * 2 : Nat)] := by simpa using HK.out.set_ 1 (.int .i64 ((Q * 2 : Nat) : Int))
          have hG2 := HG.out.trans (grown_setX wr bb 1 (.int .i64 ((Q * 2 : Nat) : Int)))
          have ez : ((Q * 2 : Nat) : Int) = (Q : Int) * 2 := by omega
          rw [ez] at hK2 hG2
          have ez2 : ((Q * 2 : Nat) : Int) = (Q : Int) * 2 := by omega
          have HK2 : Hid (Blk (wr.setCell ⟨bb, 1, none⟩ (.int .i64 ((Q : Int) * 2))) bb 155 #[.int .i64 ((P : Nat) : Int), .int .i64 ((Q * 2 : Nat) : Int)]) := by
            show Blk _ _ _ _
            rw [ez2]; exact hK2
          have HG2 := Lib.hid hG2
          clear hK2 hG2 ez ez2
          go_roundg g1
          case measure => omega
          case rel => exact ⟨k + 1, P, Q * 2, by omega, by go_num, by omega, ⟨hPQ.1, hle⟩, ⟨HP2.out, HQ2.out⟩, HA2, HK2, HG2⟩
        · have hx : ((s[k] : UInt8).toNat : Int) = 76 := by rw [← hch]; rfl
          have HP2 : Hid (P = rowsT (s.data.toList.take (k + 1))) := by show _ = _; rw [htk, rowsT_snoc, hch', ← HPQ.out.1]; simp [highB]
          have HQ2 : Hid (Q * 2 = colsT (s.data.toList.take (k + 1))) := by show _ = _; rw [htk, colsT_snoc, hch', ← HPQ.out.2]; simp [wideL]; try omega
          have HA2 : Hid ((s.data.toList.take (k + 1)).all (fun c => wideL c || highB c) = true) := by show _ = _; rw [htk, List.all_append, HA.out, hch']; rfl
          have hle : Q * 2 ≤ 32 := by rw [HQ2.out]; exact colsT_le (by rw [List.length_take]; omega)
          clear hch hch' htk
          go_wp2_with fail
          have hK2 : Blk (wr.setCell ⟨bb, 1, none⟩ (.int .i64 ((Q * 2 : Nat) : Int))) bb 155 #[.int .i64 (P : Nat), .int .i64 (Q * 2 : Nat)] := by simpa using HK.out.set_ 1 (.int .i64 ((Q * 2 : Nat) : Int))
          have hG2 := HG.out.trans (grown_setX wr bb 1 (.int .i64 ((Q * 2 : Nat) : Int)))
          have ez : ((Q * 2 : Nat) : Int) = (Q : Int) * 2 := by omega
          rw [ez] at hK2 hG2
          have ez2 : ((Q * 2 : Nat) : Int) = (Q : Int) * 2 := by omega
          have HK2 : Hid (Blk (wr.setCell ⟨bb, 1, none⟩ (.int .i64 ((Q : Int) * 2))) bb 155 #[.int .i64 ((P : Nat) : Int), .int .i64 ((Q * 2 : Nat) : Int)]) := by
            show Blk _ _ _ _
            rw [ez2]; exact hK2
          have HG2 := Lib.hid hG2
          clear hK2 hG2 ez ez2
          go_roundg g1
          case measure => omega
          case rel => exact ⟨k + 1, P, Q * 2, by omega, by go_num, by omega, ⟨hPQ.1, hle⟩, ⟨HP2.out, HQ2.out⟩, HA2, HK2, HG2⟩
        · have hx : ((s[k] : UInt8).toNat : Int) = 114 := by rw [← hch]; rfl
          have HP2 : Hid (P = rowsT (s.data.toList.take (k + 1))) := by show _ = _; rw [htk, rowsT_snoc, hch', ← HPQ.out.1]; simp [highB]
          have HQ2 : Hid (Q * 2 = colsT (s.data.toList.take (k + 1))) := by show _ = _; rw [htk, colsT_snoc, hch', ← HPQ.out.2]; simp [wideL]; try omega
          have HA2 : Hid ((s.data.toList.take (k + 1)).all (fun c => wideL c || highB c) = true) := by show _ = _; rw [htk, List.all_append, HA.out, hch']; rfl
          have hle : Q * 2 ≤ 32 := by rw [HQ2.out]; exact colsT_le (by rw [List.length_take]; omega)
          clear hch hch' htk
          go_wp2_with fail
          have hK2 : Blk (wr.setCell ⟨bb, 1, none⟩ (.int .i64 ((Q * 2 : Nat) : Int))) bb 155 #[.int .i64 (P : Nat), .int .i64 (Q * 2 : Nat)] := by simpa using HK.out.set_ 1 (.int .i64 ((Q * 2 : Nat) : Int))
          have hG2 := HG.out.trans (grown_setX wr bb 1 (.int .i64 ((Q * 2 : Nat) : Int)))
          have ez : ((Q * 2 : Nat) : Int) = (Q : Int) * 2 := by omega
          rw [ez] at hK2 hG2
          have ez2 : ((Q * 2 : Nat) : Int) = (Q : Int) * 2 := by omega
          have HK2 : Hid (Blk (wr.setCell ⟨bb, 1, none⟩ (.int .i64 ((Q : Int) * 2))) bb 155 #[.int .i64 ((P : Nat) : Int), .int .i64 ((Q * 2 : Nat) : Int)]) := by
            show Blk _ _ _ _
            rw [ez2]; exact hK2
          have HG2 := Lib.hid hG2
          clear hK2 hG2 ez ez2
          go_roundg g1
          case measure => omega
          case rel => exact ⟨k + 1, P, Q * 2, by omega, by go_num, by omega, ⟨hPQ.1, hle⟩, ⟨HP2.out, HQ2.out⟩, HA2, HK2, HG2⟩
        · have hx : ((s[k] : UInt8).toNat : Int) = 108 := by rw [← hch]; rfl
          have HP2 : Hid (P = rowsT (s.data.toList.take (k + 1))) := by show _ = _; rw [htk, rowsT_snoc, hch', ← HPQ.out.1]; simp [highB]
          have HQ2 : Hid (Q * 2 = colsT (s.data.toList.take (k + 1))) := by show _ = _; rw [htk, colsT_snoc, hch', ← HPQ.out.2]; simp [wideL]; try omega
          have HA2 : Hid ((s.data.toList.take (k + 1)).all (fun c => wideL c || highB c) = true) := by show _ = _; rw [htk, List.all_append, HA.out, hch']; rfl
          have hle : Q * 2 ≤ 32 := by rw [HQ2.out]; exact colsT_le (by rw [List.length_take]; omega)
          clear hch hch' htk
          go_wp2_with fail
          have hK2 : Blk (wr.setCell ⟨bb, 1, none⟩ (.int .i64 ((Q * 2 : Nat) : Int))) bb 155 #[.int .i64 (P : Nat), .int .i64 (Q * 2 : Nat)] := by simpa using HK.out.set_ 1 (.int .i64 ((Q * 2 : Nat) : Int))
          have hG2 := HG.out.trans (grown_setX wr bb 1 (.int .i64 ((Q * 2 : Nat) : Int)))
          have ez : ((Q * 2 : Nat) : Int) = (Q : Int) * 2 := by omega
          rw [ez] at hK2 hG2
          have ez2 : ((Q * 2 : Nat) : Int) = (Q : Int) * 2 := by omega
          have HK2 : Hid (Blk (wr.setCell ⟨bb, 1, none⟩ (.int .i64 ((Q : Int) * 2))) bb 155 #[.int .i64 ((P : Nat) : Int), .int .i64 ((Q * 2 : Nat) : Int)]) := by
            show Blk _ _ _ _
            rw [ez2]; exact hK2
          have HG2 := Lib.hid hG2
          clear hK2 hG2 ez ez2
          go_roundg g1
          case measure => omega
          case rel => exact ⟨k + 1, P, Q * 2, by omega, by go_num, by omega, ⟨hPQ.1, hle⟩, ⟨HP2.out, HQ2.out⟩, HA2, HK2, HG2⟩
        · have hx : ((s[k] : UInt8).toNat : Int) = 85 := by rw [← hch]; rfl
          have HP2 : Hid (P * 2 = rowsT (s.data.toList.take (k + 1))) := by show _ = _; rw [htk, rowsT_snoc, hch', ← HPQ.out.1]; simp [highB]; try omega
          have HQ2 : Hid (Q = colsT (s.data.toList.take (k + 1))) := by show _ = _; rw [htk, colsT_snoc, hch', ← HPQ.out.2]; simp [wideL]
          have HA2 : Hid ((s.data.toList.take (k + 1)).all (fun c => wideL c || highB c) = true) := by show _ = _; rw [htk, List.all_append, HA.out, hch']; rfl
          have hle : P * 2 ≤ 32 := by rw [HP2.out]; exact rowsT_le (by rw [List.length_take]; omega)
          clear hch hch' htk
          go_wp2_with fail
          have hK2 : Blk (wr.setCell ⟨bb, 0, none⟩ (.int .i64 ((P * 2 : Nat) : Int))) bb 155 #[.int .i64 (P * 2 : Nat), .int .i64 (Q : Nat)] := by simpa using HK.out.set_ 0 (.int .i64 ((P * 2 : Nat) : Int))
          have hG2 := HG.out.trans (grown_setX wr bb 0 (.int .i64 ((P * 2 : Nat) : Int)))
          have ez : ((P * 2 : Nat) : Int) = (P : Int) * 2 := by omega
          rw [ez] at hK2 hG2
          have ez2 : ((P * 2 : Nat) : Int) = (P : Int) * 2 := by omega
          have HK2 : Hid (Blk (wr.setCell ⟨bb, 0, none⟩ (.int .i64 ((P : Int) * 2))) bb 155 #[.int .i64 ((P * 2 : Nat) : Int), .int .i64 ((Q : Nat) : Int)]) := by
            show Blk _ _ _ _
            rw [ez2]; exact hK2
          have HG2 := Lib.hid hG2
          clear hK2 hG2 ez ez2
          go_roundg g1
          case measure => omega
          case rel => exact ⟨k + 1, P * 2, Q, by omega, by go_num, by omega, ⟨hle, hPQ.2⟩, ⟨HP2.out, HQ2.out⟩, HA2, HK2, HG2⟩
        · have hx : ((s[k] : UInt8).toNat : Int) = 68 := by rw [← hch]; rfl
          have HP2 : Hid (P * 2 = rowsT (s.data.toList.take (k + 1))) := by show _ = _; rw [htk, rowsT_snoc, hch', ← HPQ.out.1]; simp [highB]; try omega
          have HQ2 : Hid (Q = colsT (s.data.toList.take (k + 1))) := by show _ = _; rw [htk, colsT_snoc, hch', ← HPQ.out.2]; simp [wideL]
          have HA2 : Hid ((s.data.toList.take (k + 1)).all (fun c => wideL c || highB c) = true) := by show _ = _; rw [htk, List.all_append, HA.out, hch']; rfl
          have hle : P * 2 ≤ 32 := by rw [HP2.out]; exact rowsT_le (by rw [List.length_take]; omega)
          clear hch hch' htk
          go_wp2_with fail
          have hK2 : Blk (wr.setCell ⟨bb, 0, none⟩ (.int .i64 ((P * 2 : Nat) : Int))) bb 155 #[.int .i64 (P * 2 : Nat), .int .i64 (Q : Nat)] := by simpa using HK.out.set_ 0 (.int .i64 ((P * 2 : Nat) : Int))
          have hG2 := HG.out.trans (grown_setX wr bb 0 (.int .i64 ((P * 2 : Nat) : Int)))
          have ez : ((P * 2 : Nat) : Int) = (P : Int) * 2 := by omega
          rw [ez] at hK2 hG2
          have ez2 : ((P * 2 : Nat) : Int) = (P : Int) * 2 := by omega
          have HK2 : Hid (Blk (wr.setCell ⟨bb, 0, none⟩ (.int .i64 ((P : Int) * 2))) bb 155 #[.int .i64 ((P * 2 : Nat) : Int), .int .i64 ((Q : Nat) : Int)]) := by
            show Blk _ _ _ _
            rw [ez2]; exact hK2
          have HG2 := Lib.hid hG2
          clear hK2 hG2 ez ez2
          go_roundg g1
          case measure => omega
          case rel => exact ⟨k + 1, P * 2, Q, by omega, by go_num, by omega, ⟨hle, hPQ.2⟩, ⟨HP2.out, HQ2.out⟩, HA2, HK2, HG2⟩
        · have hx : ((s[k] : UInt8).toNat : Int) = 117 := by rw [← hch]; rfl
          have HP2 : Hid (P * 2 = rowsT (s.data.toList.take (k + 1))) := by show _ = _; rw [htk, rowsT_snoc, hch', ← HPQ.out.1]; simp [highB]; try omega
          have HQ2 : Hid (Q = colsT (s.data.toList.take (k + 1))) := by show _ = _; rw [htk, colsT_snoc, hch', ← HPQ.out.2]; simp [wideL]
          have HA2 : Hid ((s.data.toList.take (k + 1)).all (fun c => wideL c || highB c) = true) := by show _ = _; rw [htk, List.all_append, HA.out, hch']; rfl
          have hle : P * 2 ≤ 32 := by rw [HP2.out]; exact rowsT_le (by rw [List.length_take]; omega)
          clear hch hch' htk
          go_wp2_with fail
          have hK2 : Blk (wr.setCell ⟨bb, 0, none⟩ (.int .i64 ((P * 2 : Nat) : Int))) bb 155 #[.int .i64 (P * 2 : Nat), .int .i64 (Q : Nat)] := by simpa using HK.out.set_ 0 (.int .i64 ((P * 2 : Nat) : Int))
          have hG2 := HG.out.trans (grown_setX wr bb 0 (.int .i64 ((P * 2 : Nat) : Int)))
          have ez : ((P * 2 : Nat) : Int) = (P : Int) * 2 := by omega
          rw [ez] at hK2 hG2
          have ez2 : ((P * 2 : Nat) : Int) = (P : Int) * 2 := by omega
          have HK2 : Hid (Blk (wr.setCell ⟨bb, 0, none⟩ (.int .i64 ((P : Int) * 2))) bb 155 #[.int .i64 ((P * 2 : Nat) : Int), .int .i64 ((Q : Nat) : Int)]) := by
            show Blk _ _ _ _
            rw [ez2]; exact hK2
          have HG2 := Lib.hid hG2
          clear hK2 hG2 ez ez2
          go_roundg g1
          case measure => omega
          case rel => exact ⟨k + 1, P * 2, Q, by omega, by go_num, by omega, ⟨hle, hPQ.2⟩, ⟨HP2.out, HQ2.out⟩, HA2, HK2, HG2⟩
        · have hx : ((s[k] : UInt8).toNat : Int) = 100 := by rw [← hch]; rfl
          have HP2 : Hid (P * 2 = rowsT (s.data.toList.take (k + 1))) := by show _ = _; rw [htk, rowsT_snoc, hch', ← HPQ.out.1]; simp [highB]; try omega
          have HQ2 : Hid (Q = colsT (s.data.toList.take (k + 1))) := by show _ = _; rw [htk, colsT_snoc, hch', ← HPQ.out.2]; simp [wideL]
          have HA2 : Hid ((s.data.toList.take (k + 1)).all (fun c => wideL c || highB c) = true) := by show _ = _; rw [htk, List.all_append, HA.out, hch']; rfl
          have hle : P * 2 ≤ 32 := by rw [HP2.out]; exact rowsT_le (by rw [List.length_take]; omega)
          clear hch hch' htk
          go_wp2_with fail
          have hK2 : Blk (wr.setCell ⟨bb, 0, none⟩ (.int .i64 ((P * 2 : Nat) : Int))) bb 155 #[.int .i64 (P * 2 : Nat), .int .i64 (Q : Nat)] := by simpa using HK.out.set_ 0 (.int .i64 ((P * 2 : Nat) : Int))
          have hG2 := HG.out.trans (grown_setX wr bb 0 (.int .i64 ((P * 2 : Nat) : Int)))
          have ez : ((P * 2 : Nat) : Int) = (P : Int) * 2 := by omega
          rw [ez] at hK2 hG2
          have ez2 : ((P * 2 : Nat) : Int) = (P : Int) * 2 := by omega
          have HK2 : Hid (Blk (wr.setCell ⟨bb, 0, none⟩ (.int .i64 ((P : Int) * 2))) bb 155 #[.int .i64 ((P * 2 : Nat) : Int), .int .i64 ((Q : Nat) : Int)]) := by
            show Blk _ _ _ _
            rw [ez2]; exact hK2
          have HG2 := Lib.hid hG2
          clear hK2 hG2 ez ez2
          go_roundg g1
          case measure => omega
          case rel => exact ⟨k + 1, P * 2, Q, by omega, by go_num, by omega, ⟨hle, hPQ.2⟩, ⟨HP2.out, HQ2.out⟩, HA2, HK2, HG2⟩
      · obtain rfl : k = s.size := by omega
        have hn : sizeO s.data.toList = (P, Q, true) := by
          have hA := HA.out
          have hp := HPQ.out
          rw [List.take_of_length_le (by rw [size_listX]; exact Nat.le_refl _)] at hA hp
          unfold sizeO
          rw [if_pos (by unfold shB; rw [Bool.and_eq_true]; exact ⟨by simp; omega, hA⟩), hp.1, hp.2]
        have HN := Lib.hid hn
        clear hn
        go_wp2_with fail
        have hk2 : Blk ((wr.setCell ⟨rb, 0, none⟩ (.int .i64 P)).setCell ⟨rb, 1, none⟩ (.int .i64 Q)) rb 155 #[.int .i64 P, .int .i64 Q] := by simpa using (HKRR.out.set_ 0 (.int .i64 P)).set_ 1 (.int .i64 Q)
        refine bodyPost_ret (res_size rfl _ _ rb _ _ (by rfl) hk2) rfl ⟨by rw [HN.out]; rfl, ?_⟩
        exact HBE.out.grown ((grown_setX wr rb 0 _).trans (grown_setX _ rb 1 _)) HBE.out.size (fun g e => by cases e; exact HBQ.out.2)
  · have hn : sizeO s.data.toList = (0, 0, false) := by
      unfold sizeO shB
      rw [if_neg]
      rw [Bool.and_eq_true]
      rintro ⟨h, _⟩
      simp at h; omega
    rw [hn]
    have d1 : decide ((5 : Int) < (s.size : Int)) = true := by simp; omega
    clear hn
    go_enter Tryz.func158, Tryz.ntmps158
    go_wp2_with fail
    refine bodyPost_ret (res_size rfl _ _ w.heap.size _ _ (by rfl) (Blk.new w _ _)) rfl ⟨rfl, (Below.refl _ _).alloc (Nat.le_refl _) _⟩
end Go.Proofs.YtkdlipbegdiaaaaGreatDoor
namespace Go.Proofs.YtkdlipbegdiaaaaGreatDoor
open Go.RowKit
theorem sizeO_yes {l : List UInt8} (h : shB l = true) : sizeO l = (rowsT l, colsT l, true) := by unfold sizeO; rw [if_pos h]
theorem sizeO_no {l : List UInt8} (h : shB l = false) : sizeO l = (0, 0, false) := by unfold sizeO; rw [if_neg (by rw [h]; decide)]
theorem shB_parts {l : List UInt8} (h : shB l = true) : l.length ≤ 5 ∧ ∀ c ∈ l, (wideL c || highB c) = true := by
  unfold shB at h
  rw [Bool.and_eq_true, decide_eq_true_eq] at h
  exact ⟨h.1, fun c hc => List.all_eq_true.1 h.2 c hc⟩
theorem field_stack (A : Option Addr) (n c : Nat) (W : World) : (Instr.field 162 (.agg #[.slice A n c]) 0).run Tryz.prog W = .ok (.slice A n c) W := by kernel_rfl
set_option maxHeartbeats 2000000 in
set_option maxRecDepth 100000 in
theorem impl_SheetStack (s : ByteArray) (w : World) (hv : shB s.data.toList = true) :
    Calls Tryz.prog 136 #[.string s] w fun e w' => (∃ v, e = .returned (.tuple #[v, .bool true]) ∧ SlC w' v (stackT s.data.toList)) ∧ Below w.heap.size w w' := by
  obtain ⟨h5, hall⟩ := shB_parts hv
  rw [size_listX] at h5
  obtain ⟨l, hl⟩ : ∃ l, l = s.data.toList := ⟨_, rfl⟩
  have hll : l.length = s.size := by rw [hl]; exact size_listX s
  have HZ := Lib.hid (fun W : World => impl_sizeOf s W (by omega))
  rw [sizeO_yes hv, ← hl] at HZ
  obtain ⟨R, hR⟩ : ∃ R, R = rowsT l := ⟨_, rfl⟩
  obtain ⟨C, hC⟩ : ∃ C, C = colsT l := ⟨_, rfl⟩
  have hR32 : R ≤ 32 := by rw [hR]; exact rowsT_le (by omega)
  have hC32 : C ≤ 32 := by rw [hC]; exact colsT_le (by omega)
  have HZ2 : Hid (∀ W : World, Calls Tryz.prog 158 #[.string s] W fun e w' => e = .returned (.tuple #[.agg #[.int .i64 R, .int .i64 C], .bool true]) ∧ Below W.heap.size W w') := by
    show ∀ W : World, _
    intro W
    rw [hR, hC]; exact HZ.out W
  have HRC := Lib.hid (And.intro hR hC)
  have HL := Lib.hid hl
  have HLL := Lib.hid hll
  have HAL := Lib.hid hall
  clear HZ hv hall hl hR hC hll
  go_enter Tryz.func136, Tryz.ntmps136
  go_wp2_with fail
  refine (HZ2.out w).mono ?_
  rintro e w1 ⟨rfl, hb1⟩
  have HN := Lib.hid (fun W : World => impl_newFoldSheet R C W hR32 hC32)
  have HB1 := Lib.hid (hb1.alloc hb1.size (.cells #[.int .i64 R, .int .i64 C] 155))
  clear hb1
  go_wp2_with fail
  refine (HN.out _).mono ?_
  rintro e w2 ⟨q, rfl, hq, hM, hb2⟩
  have HB2 := Lib.hid (HB1.out.trans (hb2.mono HB1.out.size))
  have HQ : Hid (w.heap.size ≤ q) := Nat.le_trans HB1.out.size hq
  have HM := Lib.hid hM
  clear hb2 hq hM HB1 HN
  go_wp2_with fail
  go_loopg [7] (s.size + 1) (fun gg s7 wr => ∃ (k : Nat) (S : Sh), k ≤ s.size ∧ s7 = .int .i64 k ∧ s.size - k < gg ∧ Hid (Below w.heap.size w wr) ∧ Hid (ShM wr q S) ∧ Hid (S = foldAll (newSh R C) (l.take k)) ∧ Hid (ShK S (l.drop k) (2 ^ k)))
  case atStart => exact ⟨0, newSh R C, Nat.zero_le _, rfl, by omega, HB2, HM, rfl, by show ShK _ _ _; rw [HRC.out.1, HRC.out.2]; exact ShK.new l⟩
  case round =>
    clear HB2 HM
    obtain ⟨k, S, hk, rfl, hg, HB, HM, HS, HK⟩ := hrel
    cases gk with
    | zero => omega
    | succ g1 =>
    have hp : 2 ^ k ≤ 32 := pow5 (by omega)
    by_cases hlt : k < s.size
    · have k1 : (k : Int) < (s.size : Int) := by omega
      have k0 : (0 : Int) ≤ (k : Int) := by omega
      have hkl : k < l.length := by rw [HLL.out]; exact hlt
      have hd : l.drop k = s[k] :: l.drop (k + 1) := by
        rw [HL.out, List.drop_eq_getElem_cons (by rw [size_listX]; exact hlt)]; rfl
      have htk : l.take (k + 1) = l.take k ++ [s[k]] := by rw [HL.out]; exact byte_takeX hlt
      have hlet := HAL.out s[k] (byte_memX hlt)
      have hK := HK.out
      rw [hd] at hK
      obtain ⟨hK2, hw2, hh2⟩ := hK.step hlet
      have hr32 : S.1 ≤ 32 := by rw [hK.rows]; exact rowsT_le (by rw [← hd, List.length_drop, HLL.out]; omega)
      have hc32 : S.2.1 ≤ 32 := by rw [hK.cols]; exact colsT_le (by rw [← hd, List.length_drop, HLL.out]; omega)
      have HF := Lib.hid (impl_fold q S s[k] wr HM.out hlet hw2 hh2 hr32 hc32 (fun x hx => by
        have := hK.inv.2 x hx
        exact ⟨by omega, fun e => by rw [e] at this; have h0 := Nat.two_pow_pos k; simp at this; omega⟩))
      have HK2 : Hid (ShK (foldC S s[k]) (l.drop (k + 1)) (2 ^ (k + 1))) := by show ShK _ _ _; rw [Nat.pow_succ, Nat.mul_comm]; exact hK2
      have HS2 : Hid (foldC S s[k] = foldAll (newSh R C) (l.take (k + 1))) := by
        show _ = _
        rw [htk, HS.out]
        unfold foldAll
        rw [List.foldl_append]; rfl
      clear hd htk hlet hK hK2 hw2 hh2 hr32 hc32 HM HS HK
      go_wp2_with fail
      refine HF.out.mono ?_
      rintro e w3 ⟨rfl, hM3, hg3⟩
      have HM3 := Lib.hid hM3
      have HB3 := Lib.hid (HB.out.grown hg3 HB.out.size (fun g e => by cases e; exact HQ.out))
      clear hM3 hg3 HF HB
      go_wp2_with fail
      go_roundg g1
      case measure => omega
      case rel => exact ⟨k + 1, _, by omega, by go_num, by omega, HB3, HM3, HS2, HK2⟩
    · obtain rfl : k = s.size := by omega
      have hK := HK.out
      rw [List.drop_of_length_le (by rw [HLL.out]; exact Nat.le_refl _)] at hK
      have hr1 : S.1 = 1 := hK.rows
      have hc1 : S.2.1 = 1 := hK.cols
      have HT : Hid (shAt S 0 0 = stackT s.data.toList) := by
        show _ = _
        rw [HS.out, List.take_of_length_le (by rw [HLL.out]; exact Nat.le_refl _), HRC.out.1, HRC.out.2, HL.out]; rfl
      have HA := Lib.hid (impl_stackAt q 0 0 S wr HM.out (by omega) (by omega) (by rw [hr1, hc1]; omega))
      clear hK hr1 hc1
      go_wp2_with fail
      refine HA.out.mono ?_
      rintro e w3 ⟨⟨v, rfl, hv⟩, hb3⟩
      rw [HT.out] at hv
      have HV := Lib.hid hv
      have HB3 := Lib.hid (HB.out.trans (hb3.mono HB.out.size))
      obtain ⟨A3, c3, rfl, _⟩ := sl_len hv
      clear hv hb3
      go_wp2_with fail
      rw [field_stack]
      go_wp2_with fail
      go_ret2
      exact ⟨⟨_, rfl, HV.out⟩, HB3.out⟩
end Go.Proofs.YtkdlipbegdiaaaaGreatDoor
