/- A number's digits: the reference's (written by mkDec.py out of XExeG). No condition but sizes. The line that tells angles: the laws' own. No condition but sizes. Texts by rank; equal angles fold as their balance tells; the first text begins with M. No condition. The size of a sheet: the program's. No condition but sizes. -/
import Derived.Test.YtkdlipbegdiaaaaGreatDoorEzBP14
import Derived.Test.YtkdlipbegdiaaaaGreatDoorEzBP0
import Derived.Test.YtkdlipbegdiaaaaGreatDoorEzBP7
import Derived.Test.YtkdlipbegdiaaaaGreatDoorEzBP11
import Derived.Laws.ResultCell
import Derived.Laws.Rows
namespace Go.Proofs.YtkdlipbegdiaaaaGreatDoor
open Go.RowKit
/-- the frame of the region of the digits -/
def mkDc (n : Int) (U : Nat → Value) : Act :=
  { tmps := #[.int .i64 n, undef, U 10, .int .i64 n, .bool false, .int .i64 n, .bool false, undef, undef, undef, undef, .int .i64 n, .bool false, undef, undef, undef, undef, undef, U 0, U 1, U 2, U 3, U 4, U 5, U 6, U 7, U 8, U 9], defers := [] }
set_option maxHeartbeats 2000000 in
set_option maxRecDepth 100000 in
theorem spec_l6Dec : ∀ (b n : Nat), n < b → n ≤ 1000000000000 → ∀ w : World,
    Calls Tryz.prog 32 #[.int .i64 n] w fun e w' => e = .returned (.string (btj (Lib.decDigits n))) ∧ Below w.heap.size w w' := by
  intro b
  induction b with
  | zero => intro n h; omega
  | succ b ih =>
    intro n hb hn w
    by_cases h10 : n < 10
    · have d1 : decide ((n : Int) < 10) = true := by simp; omega
      have d2 : decide ((n : Int) < -9223372036854775807) = false := by rw [decide_eq_false_iff_not]; omega
      have d3 : decide ((n : Int) < 0) = false := by simp
      have hc1 : (IntKind.u8.wrap (48 + (n : Int))) = 48 + (n : Int) := u8_small (by omega) (by omega)
      obtain ⟨z, hz⟩ : ∃ z, z = UInt8.ofNat (48 + n) := ⟨_, rfl⟩
      have hs1 : ∀ (W : World) (g : Nat), W.cell? ⟨g, 0, none⟩ = some (.int .u8 (48 + (n : Int))) → (convert 22 9 (.slice (some ⟨g, 0, none⟩) 1 1)).run Tryz.prog W = .ok (.string (btj [z])) W := fun W g h => run_one_string W _ _ (by rw [hz]; exact digit_byte h10) g h
      have HE : Hid (Lib.decDigits n = [z]) := by show _ = _; rw [hz]; exact Lib.decDigits_one h10
      clear hz ih
      go_enter Tryz.func32, Tryz.ntmps32
      go_wp2_with fail
      go_ret
      exact ⟨by rw [HE.out]; rfl, (Below.refl _ _).alloc (Nat.le_refl _) _⟩
    · have d1 : decide ((n : Int) < 10) = false := by simp; omega
      have d2 : decide ((n : Int) < -9223372036854775807) = false := by rw [decide_eq_false_iff_not]; omega
      have d3 : decide ((n : Int) < 0) = false := by simp
      have hq : (n : Int).tdiv 10 = ((n / 10 : Nat) : Int) := by rw [Int.tdiv_eq_ediv_of_nonneg (by omega)]; rfl
      have hr : (n : Int).tmod 10 = ((n % 10 : Nat) : Int) := by rw [Int.tmod_eq_emod_of_nonneg (by omega)]; rfl
      have hc1 : (IntKind.u8.wrap (48 + ((n % 10 : Nat) : Int))) = 48 + ((n % 10 : Nat) : Int) := u8_small (by omega) (by omega)
      obtain ⟨z, hz⟩ : ∃ z, z = UInt8.ofNat (48 + n % 10) := ⟨_, rfl⟩
      obtain ⟨r, hrr⟩ : ∃ r, r = n % 10 := ⟨_, rfl⟩
      have hr10 : r < 10 := by omega
      have HC := Lib.hid (fun W : World => ih (n / 10) (by omega) (by omega) W)
      have HE : Hid (Lib.decDigits n = Lib.decDigits (n / 10) ++ [z]) := by show _ = _; rw [Lib.decDigits, dif_neg h10, hz]
      have hdl := decDigits_le (n / 10 + 1) (n / 10) (by omega)
      obtain ⟨q, hqq⟩ : ∃ q, q = n / 10 := ⟨_, rfl⟩
      rw [← hrr] at hr hc1 hz
      rw [← hqq] at hq HC HE hdl
      have hq12 : q ≤ 1000000000000 := by omega
      have hs1 : ∀ (W : World) (g : Nat), W.cell? ⟨g, 0, none⟩ = some (.int .u8 (48 + (r : Int))) → (convert 22 9 (.slice (some ⟨g, 0, none⟩) 1 1)).run Tryz.prog W = .ok (.string (btj [z])) W := fun W g h => run_one_string W _ _ (by rw [hz]; exact digit_byte hr10) g h
      obtain ⟨D, hD⟩ : ∃ D, D = Lib.decDigits q := ⟨_, rfl⟩
      rw [← hD] at HC HE hdl
      have b12 : ∀ W, (Op.stringOp .add (btj D) (btj [z])).run Tryz.prog W = .ok (.string (btj D ++ btj [z])) W := fun W => run_string_add_sum W _ _ (by
        have e1 : (btj D).size = D.length := by show (List.toArray _).size = _; simp
        have e2 : (btj [z]).size = 1 := rfl
        rw [e1, e2]; omega)
      have HF : Hid (btj D ++ btj [z] = btj (Lib.decDigits n)) := by
        show _ = _
        rw [HE.out]; exact ByteArray.mk_append_mk D [z]
      have wq : IntKind.i64.wrap (q : Int) = (q : Int) := IntWalk.i64_in _ (by omega)
      have wr : IntKind.i64.wrap (48 + (r : Int)) = 48 + (r : Int) := IntWalk.i64_in _ (by omega)
      clear ih hz hrr hqq hD h10 hdl HE
      go_enter Tryz.func32, Tryz.ntmps32
      go_wp2_with fail
      refine wp_region_inv (by kernel_rfl) (by repeat (first | exact AllOps.nil | refine AllOps.cons (by decide) ?_)) (JR (mkDc (n : Int)) (FDg (n : Int) (q : Int) (r : Int) (btj D) (btj [z]) (btj D ++ btj [z])) w.heap.size w 11) ?h0 ?hs ?he
      case h0 =>
        exact ⟨fun k => if k = 10 then .string ⟨#[]⟩ else undef, rfl, fun i hi hq => by simp at hq; omega, ⟨rfl, rfl, rfl, Nat.le_refl _, fun _ _ => rfl⟩, Nat.le_refl _⟩
      case he =>
        intro L b W hJ hall
        obtain ⟨U, rfl, hF, hG, hz⟩ := hJ.ex
        have e10 : U 10 = .string (btj D ++ btj [z]) := hF 10 (by omega) (hall 10 (by decide))
        have HG := Lib.hid hG
        unfold mkDc
        rw [e10]
        clear hF hG hall hJ e10
        go_wp2_with fail
        go_ret
        exact ⟨by rw [HF.out]; rfl, HG.out⟩
      case hs =>
        refine AllOps.cons (fun L b W hJ hi hd K hK => ?_) ?_
        · obtain ⟨U, rfl, hF, hG, hz⟩ := hJ.ex
          unfold mkDc
          go_simp
          refine hK.out _ _ ?_
          refine JR.to ?_ (JR.next FDg.more 0 (.int .i64 (n : Int)) hF hG hz (Below.refl _ _) rfl)
          rfl
        refine AllOps.cons (fun L b W hJ hi hd K hK => ?_) ?_
        · obtain ⟨U, rfl, hF, hG, hz⟩ := hJ.ex
          have e0 : U 0 = .int .i64 (n : Int) := hF 0 (by omega) (hd ⟨0, .data⟩ (by simp) rfl)
          unfold mkDc
          rw [e0]
          go_simp
          refine hK.out _ _ ?_
          refine JR.to ?_ (JR.next FDg.more 1 (.int .i64 (q : Int)) hF hG hz (Below.refl _ _) rfl)
          unfold mkDc updU
          simp [e0]
        refine AllOps.cons (fun L b W hJ hi hd K hK => ?_) ?_
        · obtain ⟨U, rfl, hF, hG, hz⟩ := hJ.ex
          have e1 : U 1 = .int .i64 (q : Int) := hF 1 (by omega) (hd ⟨1, .data⟩ (by simp) rfl)
          unfold mkDc
          rw [e1]
          go_simp
          go_at_call 32
          refine (HC.out W).mono ?_
          rintro e W' ⟨rfl, hbx⟩
          go_wp2_with fail
          refine hK.out _ _ ?_
          refine JR.to ?_ (JR.next FDg.more 2 (.string (btj D)) hF hG hz hbx rfl)
          unfold mkDc updU
          simp [e1]
        refine AllOps.cons (fun L b W hJ hi hd K hK => ?_) ?_
        · obtain ⟨U, rfl, hF, hG, hz⟩ := hJ.ex
          unfold mkDc
          go_simp
          refine hK.out _ _ ?_
          refine JR.to ?_ (JR.next FDg.more 3 (.int .i64 (n : Int)) hF hG hz (Below.refl _ _) rfl)
          rfl
        refine AllOps.cons (fun L b W hJ hi hd K hK => ?_) ?_
        · obtain ⟨U, rfl, hF, hG, hz⟩ := hJ.ex
          have e3 : U 3 = .int .i64 (n : Int) := hF 3 (by omega) (hd ⟨3, .data⟩ (by simp) rfl)
          unfold mkDc
          rw [e3]
          go_simp
          refine hK.out _ _ ?_
          refine JR.to ?_ (JR.next FDg.more 4 (.int .i64 (r : Int)) hF hG hz (Below.refl _ _) rfl)
          unfold mkDc updU
          simp [e3]
        refine AllOps.cons (fun L b W hJ hi hd K hK => ?_) ?_
        · obtain ⟨U, rfl, hF, hG, hz⟩ := hJ.ex
          have e4 : U 4 = .int .i64 (r : Int) := hF 4 (by omega) (hd ⟨4, .data⟩ (by simp) rfl)
          unfold mkDc
          rw [e4]
          go_simp
          refine hK.out _ _ ?_
          refine JR.to ?_ (JR.next FDg.more 5 (.int .i64 (48 + (r : Int))) hF hG hz (Below.refl _ _) rfl)
          unfold mkDc updU
          simp [e4]
        refine AllOps.cons (fun L b W hJ hi hd K hK => ?_) ?_
        · obtain ⟨U, rfl, hF, hG, hz⟩ := hJ.ex
          have e5 : U 5 = .int .i64 (48 + (r : Int)) := hF 5 (by omega) (hd ⟨5, .data⟩ (by simp) rfl)
          unfold mkDc
          rw [e5]
          go_simp
          refine hK.out _ _ ?_
          refine JR.to ?_ (JR.next FDg.more 6 (.int .u8 (48 + (r : Int))) hF hG hz (Below.refl _ _) rfl)
          unfold mkDc updU
          simp [e5]
        refine AllOps.cons (fun L b W hJ hi hd K hK => ?_) ?_
        · obtain ⟨U, rfl, hF, hG, hz⟩ := hJ.ex
          have e6 : U 6 = .int .u8 (48 + (r : Int)) := hF 6 (by omega) (hd ⟨6, .data⟩ (by simp) rfl)
          unfold mkDc
          rw [e6]
          go_simp
          refine hK.out _ _ ?_
          refine JR.to ?_ (JR.next FDg.more 7 (.slice (some ⟨W.heap.size, 0, none⟩) 1 1) hF hG hz ((Below.refl _ _).alloc (Nat.le_refl _) _) ⟨W.heap.size, rfl, by simp, (Blk.new W _ _).cell 0⟩)
          unfold mkDc updU
          simp [e6]
        refine AllOps.cons (fun L b W hJ hi hd K hK => ?_) ?_
        · obtain ⟨U, rfl, hF, hG, hz⟩ := hJ.ex
          obtain ⟨g, e7, hgl, hgc⟩ : ∃ g, U 7 = .slice (some ⟨g, 0, none⟩) 1 1 ∧ g < W.heap.size ∧ W.cell? ⟨g, 0, none⟩ = some (.int .u8 (48 + (r : Int))) := hF 7 (by omega) (hd ⟨7, .data⟩ (by simp) rfl)
          unfold mkDc
          rw [e7]
          have hcv := hs1 W g hgc
          go_simp
          refine hK.out _ _ ?_
          refine JR.to ?_ (JR.next FDg.more 8 (.string (btj [z])) hF hG hz (Below.refl _ _) rfl)
          unfold mkDc updU
          simp [e7]
        refine AllOps.cons (fun L b W hJ hi hd K hK => ?_) ?_
        · obtain ⟨U, rfl, hF, hG, hz⟩ := hJ.ex
          have e2 : U 2 = .string (btj D) := hF 2 (by omega) (hd ⟨2, .data⟩ (by simp) rfl)
          have e8 : U 8 = .string (btj [z]) := hF 8 (by omega) (hd ⟨8, .data⟩ (by simp) rfl)
          unfold mkDc
          rw [e2, e8]
          go_simp
          refine hK.out _ _ ?_
          refine JR.to ?_ (JR.next FDg.more 9 (.string (btj D ++ btj [z])) hF hG hz (Below.refl _ _) rfl)
          unfold mkDc updU
          simp [e2, e8]
        refine AllOps.cons (fun L b W hJ hi hd K hK => ?_) ?_
        · obtain ⟨U, rfl, hF, hG, hz⟩ := hJ.ex
          have e9 : U 9 = .string (btj D ++ btj [z]) := hF 9 (by omega) (hd ⟨9, .data⟩ (by simp) rfl)
          unfold mkDc
          rw [e9]
          go_simp
          refine hK.out _ _ ?_
          refine JR.to ?_ (JR.next FDg.more 10 (.string (btj D ++ btj [z])) hF hG hz (Below.refl _ _) rfl)
          unfold mkDc updU
          simp [e9]
        exact AllOps.nil
end Go.Proofs.YtkdlipbegdiaaaaGreatDoor
namespace Go.Proofs.YtkdlipbegdiaaaaGreatDoor
open Go.RowKit
theorem run_addT (a b c : List UInt8) (h : a ++ b = c) (hl : a.length + b.length ≤ 1000000) (W : World) : (Op.stringOp .add (btj a) (btj b)).run Tryz.prog W = .ok (.string (btj c)) W := by
  have e1 : (btj a).size = a.length := by show a.toArray.size = _; simp
  have e2 : (btj b).size = b.length := by show b.toArray.size = _; simp
  rw [run_string_add_sum W _ _ (by rw [e1, e2]; omega), ← h]
  exact congrArg (fun x => Result.ok (Value.string x) W) (ByteArray.mk_append_mk a b)
end Go.Proofs.YtkdlipbegdiaaaaGreatDoor
namespace Go.Proofs.YtkdlipbegdiaaaaGreatDoor
theorem fstV_some {xs : List Int} : ∀ {g k r : Nat}, fstV xs k g = some r → k ≤ r ∧ r < k + g ∧ vfB xs (txt xs.length r) = true ∧ ∀ j, k ≤ j → j < r → vfB xs (txt xs.length j) = false := by
  intro g
  induction g with
  | zero => intro k r h; cases h
  | succ g ih =>
    intro k r h
    rw [fstV] at h
    cases hv : vfB xs (txt xs.length k) with
    | true =>
      rw [hv, if_pos rfl] at h
      have : k = r := Option.some.inj h
      subst this
      exact ⟨Nat.le_refl _, by omega, hv, fun j h1 h2 => by omega⟩
    | false =>
      rw [hv, if_neg (by decide)] at h
      obtain ⟨h1, h2, h3, h4⟩ := ih h
      refine ⟨by omega, by omega, h3, fun j hj1 hj2 => ?_⟩
      rcases Nat.lt_or_ge k j with e | e
      · exact h4 j (by omega) hj2
      · have : j = k := by omega
        rw [this]; exact hv
theorem vfo_some {xs : List Int} {r : Nat} (h : vfo xs = some r) : avB xs = true ∧ r < 2 ^ xs.length ∧ vfB xs (txt xs.length r) = true ∧ ∀ j, j < r → vfB xs (txt xs.length j) = false := by
  unfold vfo at h
  split at h
  · next ha =>
    obtain ⟨_, h2, h3, h4⟩ := fstV_some h
    exact ⟨ha, by omega, h3, fun j hj => h4 j (Nat.zero_le _) hj⟩
  · cases h
end Go.Proofs.YtkdlipbegdiaaaaGreatDoor
namespace Go.Proofs.YtkdlipbegdiaaaaGreatDoor
open Go.RowKit
theorem rowsT_snoc (l : List UInt8) (c : UInt8) : rowsT (l ++ [c]) = rowsT l * (if highB c then 2 else 1) := by
  unfold rowsT
  rw [List.countP_append, List.countP_singleton]
  split
  · rw [Nat.pow_add]
  · simp
theorem colsT_snoc (l : List UInt8) (c : UInt8) : colsT (l ++ [c]) = colsT l * (if wideL c then 2 else 1) := by
  unfold colsT
  rw [List.countP_append, List.countP_singleton]
  split
  · rw [Nat.pow_add]
  · simp
theorem size_listX (s : ByteArray) : s.data.toList.length = s.size := Array.length_toList
theorem byte_takeX {s : ByteArray} {k : Nat} (h : k < s.size) : s.data.toList.take (k + 1) = s.data.toList.take k ++ [s[k]] := by
  rw [List.take_succ_eq_append_getElem (by rw [size_listX]; exact h)]; rfl
theorem byte_memX {s : ByteArray} {k : Nat} (h : k < s.size) : s[k] ∈ s.data.toList := by
  have hl : k < s.data.toList.length := by rw [size_listX]; exact h
  exact List.getElem_mem hl
/-- rows, columns, is it a sheet -/
def sizeO (l : List UInt8) : Nat × Nat × Bool := if shB l then (rowsT l, colsT l, true) else (0, 0, false)
theorem Tryz.infoSz : (Tryz.prog.info? 155).map (·.size) = some 2 := by kernel_rfl
theorem res_size {fn : Func} {p u : Tmp} (h : fn.results = #[.cell p 155, .tmp u]) (tmps : Array Value) (w : World) (g : Nat) (x y : Value) (hp : tmps.getD p undef = .pointer (some ⟨g, 0, none⟩)) (hk : Blk w g 155 #[x, y]) :
    (results fn tmps).run Tryz.prog w = .ok (.tuple #[.agg #[x, y], tmps.getD u undef]) w := by
  rw [results_cell_tmp h, hp]
  simp [asAddr, Result.andThen, run_loadVar_row w g 155 155 #[x, y] (0, 0) _ hk Tryz.underlying155 rfl Tryz.infoSz]
set_option maxHeartbeats 4000000 in
set_option maxRecDepth 100000 in
theorem impl_sizeOf (s : ByteArray) (w : World) (hs : s.size ≤ 1000) :
    Calls Tryz.prog 158 #[.string s] w fun e w' => e = .returned (.tuple #[.agg #[.int .i64 (sizeO s.data.toList).1, .int .i64 (sizeO s.data.toList).2.1], .bool (sizeO s.data.toList).2.2]) ∧ Below w.heap.size w w' := by
  by_cases h5 : s.size ≤ 5
  · go_enter Tryz.func158, Tryz.ntmps158
    go_wp2_with fail
    obtain ⟨wb, hwb⟩ : ∃ wb, wb = (w.alloc (.cells #[.int .i64 0, .int .i64 0] 155)).alloc (.cells #[.int .i64 1, .int .i64 1] 155) := ⟨_, rfl⟩
    have hbw : Below w.heap.size w wb := by rw [hwb]; exact ((Below.refl _ _).alloc (Nat.le_refl _) _).alloc (by simp) _
    have hkr : Blk wb w.heap.size 155 #[.int .i64 0, .int .i64 0] := by rw [hwb]; exact (Blk.new w _ _).alloc _
    obtain ⟨bb, hq⟩ : ∃ q, q = w.heap.size + 1 := ⟨_, rfl⟩
    have hkb : Blk wb bb 155 #[.int .i64 (1 : Nat), .int .i64 (1 : Nat)] := by
      have h := Blk.new (w.alloc (.cells #[.int .i64 0, .int .i64 0] 155)) 155 #[.int .i64 (1 : Nat), .int .i64 (1 : Nat)]
      rw [hwb, hq]
      have e : (w.alloc (.cells #[.int .i64 0, .int .i64 0] 155)).heap.size = w.heap.size + 1 := by simp
      rw [e] at h; exact h
    obtain ⟨rb, hrb⟩ : ∃ p, p = w.heap.size := ⟨_, rfl⟩
    have hrq : rb ≠ bb := by omega
    have hbq : w.heap.size ≤ bb := by omega
    have hrw : w.heap.size ≤ rb := by omega
    rw [← hwb, ← hq]
    rw [← hrb] at hkr ⊢
    have HKR := Lib.hid hkr
    have HKB := Lib.hid hkb
    have HBW := Lib.hid hbw
    have HBQ := Lib.hid (And.intro hbq hrw)
    clear hwb hq hrb hkr hkb hbw hbq hrw
    go_loopg [5] (s.size + 1) (fun gg s5 wr => ∃ (k P Q : Nat), k ≤ s.size ∧ s5 = .int .i64 k ∧ s.size - k < gg ∧ (P ≤ 32 ∧ Q ≤ 32) ∧ Hid (P = rowsT (s.data.toList.take k) ∧ Q = colsT (s.data.toList.take k)) ∧ Hid ((s.data.toList.take k).all (fun c => wideL c || highB c) = true) ∧ Hid (Blk wr bb 155 #[.int .i64 P, .int .i64 Q]) ∧ Hid (wb.grownBy wr (some bb)))
    case atStart => exact ⟨0, 1, 1, Nat.zero_le _, rfl, by omega, ⟨by omega, by omega⟩, ⟨rfl, rfl⟩, rfl, HKB, World.grownBy.refl wb _⟩
    case round =>
      clear HKB
      obtain ⟨k, P, Q, hk, rfl, hg, hPQ, HPQ, HA, HK, HG⟩ := hrel
      cases gk with
      | zero => omega
      | succ g1 =>
      have c0 : wr.cell? ⟨bb, 0, none⟩ = some (.int .i64 P) := HK.out.cell 0
      have c1 : wr.cell? ⟨bb, 1, none⟩ = some (.int .i64 Q) := HK.out.cell 1
      have f0 := HK.out.frozen 0
      have f1 := HK.out.frozen 1
      have hkr := HKR.out.grown HG.out (fun e => hrq (Option.some.inj e))
      have d0 : wr.cell? ⟨rb, 0, none⟩ = some (.int .i64 0) := hkr.cell 0
      have d1 : wr.cell? ⟨rb, 1, none⟩ = some (.int .i64 0) := hkr.cell 1
      have e0 := hkr.frozen 0
      have e1 := hkr.frozen 1
      have HKRR := Lib.hid hkr
      clear hkr
      have HBE := Lib.hid (HBW.out.grown HG.out HBW.out.size (fun g e => by cases e; exact HBQ.out.1))
      have hp32 := hPQ.1
      have hq32 := hPQ.2
      by_cases hlt : k < s.size
      · have k1 : (k : Int) < (s.size : Int) := by omega
        have k0 : (0 : Int) ≤ (k : Int) := by omega
        have htk := byte_takeX hlt
        obtain ⟨ch, hch⟩ : ∃ ch : UInt8, ch = s[k] := ⟨_, rfl⟩
        have hch' : s[k] = ch := hch.symm
        cases hv : (wideL ch || highB ch) with
        | false =>
          have hn : sizeO s.data.toList = (0, 0, false) := by
            unfold sizeO
            rw [if_neg]
            intro hh
            unfold shB at hh
            simp only [Bool.and_eq_true] at hh
            have := List.all_eq_true.1 hh.2 _ (byte_memX hlt)
            rw [hch', hv] at this; cases this
          have HN := Lib.hid hn
          have hne : ∀ d : UInt8, (wideL d || highB d) = true → ch.toNat ≠ d.toNat := by
            intro d hd e
            have := UInt8.toNat_inj.1 e
            rw [this, hd] at hv; cases hv
          have n1 : (((s[k] : UInt8).toNat : Int) == 82) = false := by rw [hch', beq_eq_false_iff_ne]; have h := hne 82 rfl; have h2 : (82 : UInt8).toNat = 82 := rfl; omega
          have n2 : (((s[k] : UInt8).toNat : Int) == 76) = false := by rw [hch', beq_eq_false_iff_ne]; have h := hne 76 rfl; have h2 : (76 : UInt8).toNat = 76 := rfl; omega
          have n3 : (((s[k] : UInt8).toNat : Int) == 114) = false := by rw [hch', beq_eq_false_iff_ne]; have h := hne 114 rfl; have h2 : (114 : UInt8).toNat = 114 := rfl; omega
          have n4 : (((s[k] : UInt8).toNat : Int) == 108) = false := by rw [hch', beq_eq_false_iff_ne]; have h := hne 108 rfl; have h2 : (108 : UInt8).toNat = 108 := rfl; omega
          have n5 : (((s[k] : UInt8).toNat : Int) == 85) = false := by rw [hch', beq_eq_false_iff_ne]; have h := hne 85 rfl; have h2 : (85 : UInt8).toNat = 85 := rfl; omega
          have n6 : (((s[k] : UInt8).toNat : Int) == 68) = false := by rw [hch', beq_eq_false_iff_ne]; have h := hne 68 rfl; have h2 : (68 : UInt8).toNat = 68 := rfl; omega
          have n7 : (((s[k] : UInt8).toNat : Int) == 117) = false := by rw [hch', beq_eq_false_iff_ne]; have h := hne 117 rfl; have h2 : (117 : UInt8).toNat = 117 := rfl; omega
          have n8 : (((s[k] : UInt8).toNat : Int) == 100) = false := by rw [hch', beq_eq_false_iff_ne]; have h := hne 100 rfl; have h2 : (100 : UInt8).toNat = 100 := rfl; omega
          clear hne hch hch' hn hv htk
          go_wp2_with fail
          have hk2 : Blk ((wr.setCell ⟨rb, 0, none⟩ (.int .i64 0)).setCell ⟨rb, 1, none⟩ (.int .i64 0)) rb 155 #[.int .i64 0, .int .i64 0] := by simpa using (HKRR.out.set_ 0 (.int .i64 0)).set_ 1 (.int .i64 0)
          refine bodyPost_ret (res_size rfl _ _ rb _ _ (by rfl) hk2) rfl ⟨by rw [HN.out]; rfl, ?_⟩
          exact HBE.out.grown ((grown_setX wr rb 0 _).trans (grown_setX _ rb 1 _)) HBE.out.size (fun g e => by cases e; exact HBQ.out.2)
        | true =>
        rcases letter_cases hv with rfl | rfl | rfl | rfl | rfl | rfl | rfl | rfl
        · have hx : ((s[k] : UInt8).toNat : Int) = 82 := by rw [← hch]; rfl
          have HP2 : Hid (P = rowsT (s.data.toList.take (k + 1))) := by show _ = _; rw [htk, rowsT_snoc, hch', ← HPQ.out.1]; simp [highB]
          have HQ2 : Hid (Q * 2 = colsT (s.data.toList.take (k + 1))) := by show _ = _; rw [htk, colsT_snoc, hch', ← HPQ.out.2]; simp [wideL]; try omega
          have HA2 : Hid ((s.data.toList.take (k + 1)).all (fun c => wideL c || highB c) = true) := by show _ = _; rw [htk, List.all_append, HA.out, hch']; rfl
          have hle : Q * 2 ≤ 32 := by rw [HQ2.out]; exact colsT_le (by rw [List.length_take]; omega)
          clear hch hch' htk
          go_wp2_with fail
          have hK2 : Blk (wr.setCell ⟨bb, 1, none⟩ (.int .i64 ((Q * 2 : Nat) : Int))) bb 155 #[.int .i64 (P : Nat), .int .i64 (Q * 2 : Nat)] := by simpa using HK.out.set_ 1 (.int .i64 ((Q * 2 : Nat) : Int))
          have hG2 := HG.out.trans (grown_setX wr bb 1 (.int .i64 ((Q * 2 : Nat) : Int)))
          have ez : ((Q * 2 : Nat) : Int) = (Q : Int) * 2 := by omega
          rw [ez] at hK2 hG2
          have ez2 : ((Q * 2 : Nat) : Int) = (Q : Int) * 2 := by omega
          have HK2 : Hid (Blk (wr.setCell ⟨bb, 1, none⟩ (.int .i64 ((Q : Int) * 2))) bb 155 #[.int .i64 ((P : Nat) : Int), .int .i64 ((Q * 2 : Nat) : Int)]) := by
            show Blk _ _ _ _
            rw [ez2]; exact hK2
          have HG2 := Lib.hid hG2
          clear hK2 hG2 ez ez2
          go_roundg g1
          case measure => omega
          case rel => exact ⟨k + 1, P, Q * 2, by omega, by go_num, by omega, ⟨hPQ.1, hle⟩, ⟨HP2.out, HQ2.out⟩, HA2, HK2, HG2⟩
        · have hx : ((s[k] : UInt8).toNat : Int) = 76 := by rw [← hch]; rfl
          have HP2 : Hid (P = rowsT (s.data.toList.take (k + 1))) := by show _ = _; rw [htk, rowsT_snoc, hch', ← HPQ.out.1]; simp [highB]
          have HQ2 : Hid (Q * 2 = colsT (s.data.toList.take (k + 1))) := by show _ = _; rw [htk, colsT_snoc, hch', ← HPQ.out.2]; simp [wideL]; try omega
          have HA2 : Hid ((s.data.toList.take (k + 1)).all (fun c => wideL c || highB c) = true) := by show _ = _; rw [htk, List.all_append, HA.out, hch']; rfl
          have hle : Q * 2 ≤ 32 := by rw [HQ2.out]; exact colsT_le (by rw [List.length_take]; omega)
          clear hch hch' htk
          go_wp2_with fail
          have hK2 : Blk (wr.setCell ⟨bb, 1, none⟩ (.int .i64 ((Q * 2 : Nat) : Int))) bb 155 #[.int .i64 (P : Nat), .int .i64 (Q * 2 : Nat)] := by simpa using HK.out.set_ 1 (.int .i64 ((Q * 2 : Nat) : Int))
          have hG2 := HG.out.trans (grown_setX wr bb 1 (.int .i64 ((Q * 2 : Nat) : Int)))
          have ez : ((Q * 2 : Nat) : Int) = (Q : Int) * 2 := by omega
          rw [ez] at hK2 hG2
          have ez2 : ((Q * 2 : Nat) : Int) = (Q : Int) * 2 := by omega
          have HK2 : Hid (Blk (wr.setCell ⟨bb, 1, none⟩ (.int .i64 ((Q : Int) * 2))) bb 155 #[.int .i64 ((P : Nat) : Int), .int .i64 ((Q * 2 : Nat) : Int)]) := by
            show Blk _ _ _ _
            rw [ez2]; exact hK2
          have HG2 := Lib.hid hG2
          clear hK2 hG2 ez ez2
          go_roundg g1
          case measure => omega
          case rel => exact ⟨k + 1, P, Q * 2, by omega, by go_num, by omega, ⟨hPQ.1, hle⟩, ⟨HP2.out, HQ2.out⟩, HA2, HK2, HG2⟩
        · have hx : ((s[k] : UInt8).toNat : Int) = 114 := by rw [← hch]; rfl
          have HP2 : Hid (P = rowsT (s.data.toList.take (k + 1))) := by show _ = _; rw [htk, rowsT_snoc, hch', ← HPQ.out.1]; simp [highB]
          have HQ2 : Hid (Q * 2 = colsT (s.data.toList.take (k + 1))) := by show _ = _; rw [htk, colsT_snoc, hch', ← HPQ.out.2]; simp [wideL]; try omega
          have HA2 : Hid ((s.data.toList.take (k + 1)).all (fun c => wideL c || highB c) = true) := by show _ = _; rw [htk, List.all_append, HA.out, hch']; rfl
          have hle : Q * 2 ≤ 32 := by rw [HQ2.out]; exact colsT_le (by rw [List.length_take]; omega)
          clear hch hch' htk
          go_wp2_with fail
          have hK2 : Blk (wr.setCell ⟨bb, 1, none⟩ (.int .i64 ((Q * 2 : Nat) : Int))) bb 155 #[.int .i64 (P : Nat), .int .i64 (Q * 2 : Nat)] := by simpa using HK.out.set_ 1 (.int .i64 ((Q * 2 : Nat) : Int))
          have hG2 := HG.out.trans (grown_setX wr bb 1 (.int .i64 ((Q * 2 : Nat) : Int)))
          have ez : ((Q * 2 : Nat) : Int) = (Q : Int) * 2 := by omega
          rw [ez] at hK2 hG2
          have ez2 : ((Q * 2 : Nat) : Int) = (Q : Int) * 2 := by omega
          have HK2 : Hid (Blk (wr.setCell ⟨bb, 1, none⟩ (.int .i64 ((Q : Int) * 2))) bb 155 #[.int .i64 ((P : Nat) : Int), .int .i64 ((Q * 2 : Nat) : Int)]) := by
            show Blk _ _ _ _
            rw [ez2]; exact hK2
          have HG2 := Lib.hid hG2
          clear hK2 hG2 ez ez2
          go_roundg g1
          case measure => omega
          case rel => exact ⟨k + 1, P, Q * 2, by omega, by go_num, by omega, ⟨hPQ.1, hle⟩, ⟨HP2.out, HQ2.out⟩, HA2, HK2, HG2⟩
        · have hx : ((s[k] : UInt8).toNat : Int) = 108 := by rw [← hch]; rfl
          have HP2 : Hid (P = rowsT (s.data.toList.take (k + 1))) := by show _ = _; rw [htk, rowsT_snoc, hch', ← HPQ.out.1]; simp [highB]
          have HQ2 : Hid (Q * 2 = colsT (s.data.toList.take (k + 1))) := by show _ = _; rw [htk, colsT_snoc, hch', ← HPQ.out.2]; simp [wideL]; try omega
          have HA2 : Hid ((s.data.toList.take (k + 1)).all (fun c => wideL c || highB c) = true) := by show _ = _; rw [htk, List.all_append, HA.out, hch']; rfl
          have hle : Q * 2 ≤ 32 := by rw [HQ2.out]; exact colsT_le (by rw [List.length_take]; omega)
          clear hch hch' htk
          go_wp2_with fail
          have hK2 : Blk (wr.setCell ⟨bb, 1, none⟩ (.int .i64 ((Q * 2 : Nat) : Int))) bb 155 #[.int .i64 (P : Nat), .int .i64 (Q * 2 : Nat)] := by simpa using HK.out.set_ 1 (.int .i64 ((Q * 2 : Nat) : Int))
          have hG2 := HG.out.trans (grown_setX wr bb 1 (.int .i64 ((Q * 2 : Nat) : Int)))
          have ez : ((Q * 2 : Nat) : Int) = (Q : Int) * 2 := by omega
          rw [ez] at hK2 hG2
          have ez2 : ((Q * 2 : Nat) : Int) = (Q : Int) * 2 := by omega
          have HK2 : Hid (Blk (wr.setCell ⟨bb, 1, none⟩ (.int .i64 ((Q : Int) * 2))) bb 155 #[.int .i64 ((P : Nat) : Int), .int .i64 ((Q * 2 : Nat) : Int)]) := by
            show Blk _ _ _ _
            rw [ez2]; exact hK2
          have HG2 := Lib.hid hG2
          clear hK2 hG2 ez ez2
          go_roundg g1
          case measure => omega
          case rel => exact ⟨k + 1, P, Q * 2, by omega, by go_num, by omega, ⟨hPQ.1, hle⟩, ⟨HP2.out, HQ2.out⟩, HA2, HK2, HG2⟩
        · have hx : ((s[k] : UInt8).toNat : Int) = 85 := by rw [← hch]; rfl
          have HP2 : Hid (P * 2 = rowsT (s.data.toList.take (k + 1))) := by show _ = _; rw [htk, rowsT_snoc, hch', ← HPQ.out.1]; simp [highB]; try omega
          have HQ2 : Hid (Q = colsT (s.data.toList.take (k + 1))) := by show _ = _; rw [htk, colsT_snoc, hch', ← HPQ.out.2]; simp [wideL]
          have HA2 : Hid ((s.data.toList.take (k + 1)).all (fun c => wideL c || highB c) = true) := by show _ = _; rw [htk, List.all_append, HA.out, hch']; rfl
          have hle : P * 2 ≤ 32 := by rw [HP2.out]; exact rowsT_le (by rw [List.length_take]; omega)
          clear hch hch' htk
          go_wp2_with fail
          have hK2 : Blk (wr.setCell ⟨bb, 0, none⟩ (.int .i64 ((P * 2 : Nat) : Int))) bb 155 #[.int .i64 (P * 2 : Nat), .int .i64 (Q : Nat)] := by simpa using HK.out.set_ 0 (.int .i64 ((P * 2 : Nat) : Int))
          have hG2 := HG.out.trans (grown_setX wr bb 0 (.int .i64 ((P * 2 : Nat) : Int)))
          have ez : ((P * 2 : Nat) : Int) = (P : Int) * 2 := by omega
          rw [ez] at hK2 hG2
          have ez2 : ((P * 2 : Nat) : Int) = (P : Int) * 2 := by omega
          have HK2 : Hid (Blk (wr.setCell ⟨bb, 0, none⟩ (.int .i64 ((P : Int) * 2))) bb 155 #[.int .i64 ((P * 2 : Nat) : Int), .int .i64 ((Q : Nat) : Int)]) := by
            show Blk _ _ _ _
            rw [ez2]; exact hK2
          have HG2 := Lib.hid hG2
          clear hK2 hG2 ez ez2
          go_roundg g1
          case measure => omega
          case rel => exact ⟨k + 1, P * 2, Q, by omega, by go_num, by omega, ⟨hle, hPQ.2⟩, ⟨HP2.out, HQ2.out⟩, HA2, HK2, HG2⟩
        · have hx : ((s[k] : UInt8).toNat : Int) = 68 := by rw [← hch]; rfl
          have HP2 : Hid (P * 2 = rowsT (s.data.toList.take (k + 1))) := by show _ = _; rw [htk, rowsT_snoc, hch', ← HPQ.out.1]; simp [highB]; try omega
          have HQ2 : Hid (Q = colsT (s.data.toList.take (k + 1))) := by show _ = _; rw [htk, colsT_snoc, hch', ← HPQ.out.2]; simp [wideL]
          have HA2 : Hid ((s.data.toList.take (k + 1)).all (fun c => wideL c || highB c) = true) := by show _ = _; rw [htk, List.all_append, HA.out, hch']; rfl
          have hle : P * 2 ≤ 32 := by rw [HP2.out]; exact rowsT_le (by rw [List.length_take]; omega)
          clear hch hch' htk
          go_wp2_with fail
          have hK2 : Blk (wr.setCell ⟨bb, 0, none⟩ (.int .i64 ((P * 2 : Nat) : Int))) bb 155 #[.int .i64 (P * 2 : Nat), .int .i64 (Q : Nat)] := by simpa using HK.out.set_ 0 (.int .i64 ((P * 2 : Nat) : Int))
          have hG2 := HG.out.trans (grown_setX wr bb 0 (.int .i64 ((P * 2 : Nat) : Int)))
          have ez : ((P * 2 : Nat) : Int) = (P : Int) * 2 := by omega
          rw [ez] at hK2 hG2
          have ez2 : ((P * 2 : Nat) : Int) = (P : Int) * 2 := by omega
          have HK2 : Hid (Blk (wr.setCell ⟨bb, 0, none⟩ (.int .i64 ((P : Int) * 2))) bb 155 #[.int .i64 ((P * 2 : Nat) : Int), .int .i64 ((Q : Nat) : Int)]) := by
            show Blk _ _ _ _
            rw [ez2]; exact hK2
          have HG2 := Lib.hid hG2
          clear hK2 hG2 ez ez2
          go_roundg g1
          case measure => omega
          case rel => exact ⟨k + 1, P * 2, Q, by omega, by go_num, by omega, ⟨hle, hPQ.2⟩, ⟨HP2.out, HQ2.out⟩, HA2, HK2, HG2⟩
        · have hx : ((s[k] : UInt8).toNat : Int) = 117 := by rw [← hch]; rfl
          have HP2 : Hid (P * 2 = rowsT (s.data.toList.take (k + 1))) := by show _ = _; rw [htk, rowsT_snoc, hch', ← HPQ.out.1]; simp [highB]; try omega
          have HQ2 : Hid (Q = colsT (s.data.toList.take (k + 1))) := by show _ = _; rw [htk, colsT_snoc, hch', ← HPQ.out.2]; simp [wideL]
          have HA2 : Hid ((s.data.toList.take (k + 1)).all (fun c => wideL c || highB c) = true) := by show _ = _; rw [htk, List.all_append, HA.out, hch']; rfl
          have hle : P * 2 ≤ 32 := by rw [HP2.out]; exact rowsT_le (by rw [List.length_take]; omega)
          clear hch hch' htk
          go_wp2_with fail
          have hK2 : Blk (wr.setCell ⟨bb, 0, none⟩ (.int .i64 ((P * 2 : Nat) : Int))) bb 155 #[.int .i64 (P * 2 : Nat), .int .i64 (Q : Nat)] := by simpa using HK.out.set_ 0 (.int .i64 ((P * 2 : Nat) : Int))
          have hG2 := HG.out.trans (grown_setX wr bb 0 (.int .i64 ((P * 2 : Nat) : Int)))
          have ez : ((P * 2 : Nat) : Int) = (P : Int) * 2 := by omega
          rw [ez] at hK2 hG2
          have ez2 : ((P * 2 : Nat) : Int) = (P : Int) * 2 := by omega
          have HK2 : Hid (Blk (wr.setCell ⟨bb, 0, none⟩ (.int .i64 ((P : Int) * 2))) bb 155 #[.int .i64 ((P * 2 : Nat) : Int), .int .i64 ((Q : Nat) : Int)]) := by
            show Blk _ _ _ _
            rw [ez2]; exact hK2
          have HG2 := Lib.hid hG2
          clear hK2 hG2 ez ez2
          go_roundg g1
          case measure => omega
          case rel => exact ⟨k + 1, P * 2, Q, by omega, by go_num, by omega, ⟨hle, hPQ.2⟩, ⟨HP2.out, HQ2.out⟩, HA2, HK2, HG2⟩
        · have hx : ((s[k] : UInt8).toNat : Int) = 100 := by rw [← hch]; rfl
          have HP2 : Hid (P * 2 = rowsT (s.data.toList.take (k + 1))) := by show _ = _; rw [htk, rowsT_snoc, hch', ← HPQ.out.1]; simp [highB]; try omega
          have HQ2 : Hid (Q = colsT (s.data.toList.take (k + 1))) := by show _ = _; rw [htk, colsT_snoc, hch', ← HPQ.out.2]; simp [wideL]
          have HA2 : Hid ((s.data.toList.take (k + 1)).all (fun c => wideL c || highB c) = true) := by show _ = _; rw [htk, List.all_append, HA.out, hch']; rfl
          have hle : P * 2 ≤ 32 := by rw [HP2.out]; exact rowsT_le (by rw [List.length_take]; omega)
          clear hch hch' htk
          go_wp2_with fail
          have hK2 : Blk (wr.setCell ⟨bb, 0, none⟩ (.int .i64 ((P * 2 : Nat) : Int))) bb 155 #[.int .i64 (P * 2 : Nat), .int .i64 (Q : Nat)] := by simpa using HK.out.set_ 0 (.int .i64 ((P * 2 : Nat) : Int))
          have hG2 := HG.out.trans (grown_setX wr bb 0 (.int .i64 ((P * 2 : Nat) : Int)))
          have ez : ((P * 2 : Nat) : Int) = (P : Int) * 2 := by omega
          rw [ez] at hK2 hG2
          have ez2 : ((P * 2 : Nat) : Int) = (P : Int) * 2 := by omega
          have HK2 : Hid (Blk (wr.setCell ⟨bb, 0, none⟩ (.int .i64 ((P : Int) * 2))) bb 155 #[.int .i64 ((P * 2 : Nat) : Int), .int .i64 ((Q : Nat) : Int)]) := by
            show Blk _ _ _ _
            rw [ez2]; exact hK2
          have HG2 := Lib.hid hG2
          clear hK2 hG2 ez ez2
          go_roundg g1
          case measure => omega
          case rel => exact ⟨k + 1, P * 2, Q, by omega, by go_num, by omega, ⟨hle, hPQ.2⟩, ⟨HP2.out, HQ2.out⟩, HA2, HK2, HG2⟩
      · obtain rfl : k = s.size := by omega
        have hn : sizeO s.data.toList = (P, Q, true) := by
          have hA := HA.out
          have hp := HPQ.out
          rw [List.take_of_length_le (by rw [size_listX]; exact Nat.le_refl _)] at hA hp
          unfold sizeO
          rw [if_pos (by unfold shB; rw [Bool.and_eq_true]; exact ⟨by simp; omega, hA⟩), hp.1, hp.2]
        have HN := Lib.hid hn
        clear hn
        go_wp2_with fail
        have hk2 : Blk ((wr.setCell ⟨rb, 0, none⟩ (.int .i64 P)).setCell ⟨rb, 1, none⟩ (.int .i64 Q)) rb 155 #[.int .i64 P, .int .i64 Q] := by simpa using (HKRR.out.set_ 0 (.int .i64 P)).set_ 1 (.int .i64 Q)
        refine bodyPost_ret (res_size rfl _ _ rb _ _ (by rfl) hk2) rfl ⟨by rw [HN.out]; rfl, ?_⟩
        exact HBE.out.grown ((grown_setX wr rb 0 _).trans (grown_setX _ rb 1 _)) HBE.out.size (fun g e => by cases e; exact HBQ.out.2)
  · have hn : sizeO s.data.toList = (0, 0, false) := by
      unfold sizeO shB
      rw [if_neg]
      rw [Bool.and_eq_true]
      rintro ⟨h, _⟩
      simp at h; omega
    rw [hn]
    have d1 : decide ((5 : Int) < (s.size : Int)) = true := by simp; omega
    clear hn
    go_enter Tryz.func158, Tryz.ntmps158
    go_wp2_with fail
    refine bodyPost_ret (res_size rfl _ _ w.heap.size _ _ (by rfl) (Blk.new w _ _)) rfl ⟨rfl, (Below.refl _ _).alloc (Nat.le_refl _) _⟩
end Go.Proofs.YtkdlipbegdiaaaaGreatDoor
