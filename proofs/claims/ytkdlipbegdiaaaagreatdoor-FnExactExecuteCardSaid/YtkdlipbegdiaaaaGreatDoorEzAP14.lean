/- A number's digits: the laws' own. No condition but sizes. A number's digits: the reference's (written by mkDec.py out of XExeG). No condition but sizes. The program's 'foldsOfNumber': the text of so many folds with a rank. No condition but sizes. -/
import Derived.Test.YtkdlipbegdiaaaaGreatDoorEzAP2
import Derived.Test.YtkdlipbegdiaaaaGreatDoorEzAP0
import Derived.Lib.ItoaNum
import Derived.Laws.BitsAllLaws
import Derived.Laws.BitsLemmas
import Derived.Laws.OwnMore
import Derived.Test.YtkdlipbegdiaaaaGreatDoorEzAP7
namespace Go.Proofs.YtkdlipbegdiaaaaGreatDoor
open Go.RowKit
theorem digit_byte {n : Nat} (h : n < 10) : ((UInt8.ofNat (48 + n)).toNat : Int) = 48 + (n : Int) := by
  rw [UInt8.toNat_ofNat']
  omega
theorem decDigits_le : ∀ (b n : Nat), n < b → (Lib.decDigits n).length ≤ n + 1 := by
  intro b
  induction b with
  | zero => intro n h; omega
  | succ b ih =>
    intro n h
    by_cases h10 : n < 10
    · rw [Lib.decDigits_one h10]; simp
    · rw [Lib.decDigits, dif_neg h10, List.length_append]
      have := ih (n / 10) (by omega)
      simp only [List.length_cons, List.length_nil]; omega
theorem u8_small {x : Int} (h0 : 0 ≤ x) (h1 : x < 256) : IntKind.u8.wrap x = x := by
  unfold IntKind.wrap
  have e : (2 : Int) ^ IntKind.u8.bits = 256 := by decide
  have e2 : IntKind.u8.signed = false := rfl
  simp only [e, e2]
  simp
  omega
theorem run_one_string (w : World) (z : UInt8) (zi : Int) (hz : (z.toNat : Int) = zi) (g : Nat) (hc : w.cell? ⟨g, 0, none⟩ = some (.int .u8 zi)) : (convert 22 9 (.slice (some ⟨g, 0, none⟩) 1 1)).run Tryz.prog w = .ok (.string (btj [z])) w := by
  refine run_convert_bytes_back w 22 9 5 ⟨g, 0, none⟩ 1 [z] Tryz.underlying22 Tryz.underlying5 Tryz.underlying9 fun j hj => ?_
  have : j = 0 := by simpa using hj
  subst this
  rw [Addr.add_lit]
  simpa [hz] using hc
/-- the frame of the region of the digits -/
def mkDg (n : Int) (U : Nat → Value) : Act :=
  { tmps := #[.int .i64 n, undef, U 10, .int .i64 n, .bool false, undef, undef, undef, undef, undef, U 0, U 1, U 2, U 3, U 4, U 5, U 6, U 7, U 8, U 9], defers := [] }
def FDg (n q r : Int) (D Z S : ByteArray) (i : Nat) (v : Value) (W : World) : Prop :=
  match i with
  | 0 => v = .int .i64 n
  | 1 => v = .int .i64 q
  | 2 => v = .string D
  | 3 => v = .int .i64 n
  | 4 => v = .int .i64 r
  | 5 => v = .int .i64 (48 + r)
  | 6 => v = .int .u8 (48 + r)
  | 7 => ∃ g, v = .slice (some ⟨g, 0, none⟩) 1 1 ∧ g < W.heap.size ∧ W.cell? ⟨g, 0, none⟩ = some (.int .u8 (48 + r))
  | 8 => v = .string Z
  | 9 => v = .string S
  | _ => v = .string S
theorem FDg.more {n q r : Int} {D Z S : ByteArray} : ∀ (i : Nat) (v : Value) (W W' : World), FDg n q r D Z S i v W → Below W.heap.size W W' → FDg n q r D Z S i v W' := by
  intro i v W W' h hb
  unfold FDg at h ⊢
  split at h <;> first | exact h | skip
  obtain ⟨g, e, hl, hc⟩ := h
  exact ⟨g, e, Nat.lt_of_lt_of_le hl hb.size, (hb.cell (p := ⟨g, 0, none⟩) hl).trans hc⟩
set_option maxHeartbeats 2000000 in
set_option maxRecDepth 100000 in
theorem laws_digits : ∀ (b n : Nat), n < b → n ≤ 1000000000000 → ∀ w : World,
    Calls Tryz.prog 11 #[.int .i64 n] w fun e w' => e = .returned (.string (btj (Lib.decDigits n))) ∧ Below w.heap.size w w' := by
  intro b
  induction b with
  | zero => intro n h; omega
  | succ b ih =>
    intro n hb hn w
    by_cases h10 : n < 10
    · have d1 : decide ((n : Int) < 10) = true := by simp; omega
      have hc1 : (IntKind.u8.wrap (48 + (n : Int))) = 48 + (n : Int) := u8_small (by omega) (by omega)
      obtain ⟨z, hz⟩ : ∃ z, z = UInt8.ofNat (48 + n) := ⟨_, rfl⟩
      have hs1 : ∀ (W : World) (g : Nat), W.cell? ⟨g, 0, none⟩ = some (.int .u8 (48 + (n : Int))) → (convert 22 9 (.slice (some ⟨g, 0, none⟩) 1 1)).run Tryz.prog W = .ok (.string (btj [z])) W := fun W g h => run_one_string W _ _ (by rw [hz]; exact digit_byte h10) g h
      have HE : Hid (Lib.decDigits n = [z]) := by show _ = _; rw [hz]; exact Lib.decDigits_one h10
      clear hz ih
      go_enter Tryz.func11, Tryz.ntmps11
      go_wp2_with fail
      go_ret
      exact ⟨by rw [HE.out]; rfl, (Below.refl _ _).alloc (Nat.le_refl _) _⟩
    · have d1 : decide ((n : Int) < 10) = false := by simp; omega
      have hq : (n : Int).tdiv 10 = ((n / 10 : Nat) : Int) := by rw [Int.tdiv_eq_ediv_of_nonneg (by omega)]; rfl
      have hr : (n : Int).tmod 10 = ((n % 10 : Nat) : Int) := by rw [Int.tmod_eq_emod_of_nonneg (by omega)]; rfl
      have hc1 : (IntKind.u8.wrap (48 + ((n % 10 : Nat) : Int))) = 48 + ((n % 10 : Nat) : Int) := u8_small (by omega) (by omega)
      obtain ⟨z, hz⟩ : ∃ z, z = UInt8.ofNat (48 + n % 10) := ⟨_, rfl⟩
      obtain ⟨r, hrr⟩ : ∃ r, r = n % 10 := ⟨_, rfl⟩
      have hr10 : r < 10 := by omega
      have HC := Lib.hid (fun W : World => ih (n / 10) (by omega) (by omega) W)
      have HE : Hid (Lib.decDigits n = Lib.decDigits (n / 10) ++ [z]) := by show _ = _; rw [Lib.decDigits, dif_neg h10, hz]
      have hdl := decDigits_le (n / 10 + 1) (n / 10) (by omega)
      obtain ⟨q, hqq⟩ : ∃ q, q = n / 10 := ⟨_, rfl⟩
      rw [← hrr] at hr hc1 hz
      rw [← hqq] at hq HC HE hdl
      have hq12 : q ≤ 1000000000000 := by omega
      have hs1 : ∀ (W : World) (g : Nat), W.cell? ⟨g, 0, none⟩ = some (.int .u8 (48 + (r : Int))) → (convert 22 9 (.slice (some ⟨g, 0, none⟩) 1 1)).run Tryz.prog W = .ok (.string (btj [z])) W := fun W g h => run_one_string W _ _ (by rw [hz]; exact digit_byte hr10) g h
      obtain ⟨D, hD⟩ : ∃ D, D = Lib.decDigits q := ⟨_, rfl⟩
      rw [← hD] at HC HE hdl
      have b12 : ∀ W, (Op.stringOp .add (btj D) (btj [z])).run Tryz.prog W = .ok (.string (btj D ++ btj [z])) W := fun W => run_string_add_sum W _ _ (by
        have e1 : (btj D).size = D.length := by show (List.toArray _).size = _; simp
        have e2 : (btj [z]).size = 1 := rfl
        rw [e1, e2]; omega)
      have HF : Hid (btj D ++ btj [z] = btj (Lib.decDigits n)) := by
        show _ = _
        rw [HE.out]; exact ByteArray.mk_append_mk D [z]
      have wq : IntKind.i64.wrap (q : Int) = (q : Int) := IntWalk.i64_in _ (by omega)
      have wr : IntKind.i64.wrap (48 + (r : Int)) = 48 + (r : Int) := IntWalk.i64_in _ (by omega)
      clear ih hz hrr hqq hD h10 hdl HE
      go_enter Tryz.func11, Tryz.ntmps11
      go_wp2_with fail
      refine wp_region_inv (by kernel_rfl) (by repeat (first | exact AllOps.nil | refine AllOps.cons (by decide) ?_)) (JR (mkDg (n : Int)) (FDg (n : Int) (q : Int) (r : Int) (btj D) (btj [z]) (btj D ++ btj [z])) w.heap.size w 11) ?h0 ?hs ?he
      case h0 =>
        exact ⟨fun k => if k = 10 then .string ⟨#[]⟩ else undef, rfl, fun i hi hq => by simp at hq; omega, ⟨rfl, rfl, rfl, Nat.le_refl _, fun _ _ => rfl⟩, Nat.le_refl _⟩
      case he =>
        intro L b W hJ hall
        obtain ⟨U, rfl, hF, hG, hz⟩ := hJ.ex
        have e10 : U 10 = .string (btj D ++ btj [z]) := hF 10 (by omega) (hall 10 (by decide))
        have HG := Lib.hid hG
        unfold mkDg
        rw [e10]
        clear hF hG hall hJ e10
        go_wp2_with fail
        go_ret
        exact ⟨by rw [HF.out]; rfl, HG.out⟩
      case hs =>
        refine AllOps.cons (fun L b W hJ hi hd K hK => ?_) ?_
        · obtain ⟨U, rfl, hF, hG, hz⟩ := hJ.ex
          unfold mkDg
          go_simp
          refine hK.out _ _ ?_
          refine JR.to ?_ (JR.next FDg.more 0 (.int .i64 (n : Int)) hF hG hz (Below.refl _ _) rfl)
          rfl
        refine AllOps.cons (fun L b W hJ hi hd K hK => ?_) ?_
        · obtain ⟨U, rfl, hF, hG, hz⟩ := hJ.ex
          have e0 : U 0 = .int .i64 (n : Int) := hF 0 (by omega) (hd ⟨0, .data⟩ (by simp) rfl)
          unfold mkDg
          rw [e0]
          go_simp
          refine hK.out _ _ ?_
          refine JR.to ?_ (JR.next FDg.more 1 (.int .i64 (q : Int)) hF hG hz (Below.refl _ _) rfl)
          unfold mkDg updU
          simp [e0]
        refine AllOps.cons (fun L b W hJ hi hd K hK => ?_) ?_
        · obtain ⟨U, rfl, hF, hG, hz⟩ := hJ.ex
          have e1 : U 1 = .int .i64 (q : Int) := hF 1 (by omega) (hd ⟨1, .data⟩ (by simp) rfl)
          unfold mkDg
          rw [e1]
          go_simp
          go_at_call 11
          refine (HC.out W).mono ?_
          rintro e W' ⟨rfl, hbx⟩
          go_wp2_with fail
          refine hK.out _ _ ?_
          refine JR.to ?_ (JR.next FDg.more 2 (.string (btj D)) hF hG hz hbx rfl)
          unfold mkDg updU
          simp [e1]
        refine AllOps.cons (fun L b W hJ hi hd K hK => ?_) ?_
        · obtain ⟨U, rfl, hF, hG, hz⟩ := hJ.ex
          unfold mkDg
          go_simp
          refine hK.out _ _ ?_
          refine JR.to ?_ (JR.next FDg.more 3 (.int .i64 (n : Int)) hF hG hz (Below.refl _ _) rfl)
          rfl
        refine AllOps.cons (fun L b W hJ hi hd K hK => ?_) ?_
        · obtain ⟨U, rfl, hF, hG, hz⟩ := hJ.ex
          have e3 : U 3 = .int .i64 (n : Int) := hF 3 (by omega) (hd ⟨3, .data⟩ (by simp) rfl)
          unfold mkDg
          rw [e3]
          go_simp
          refine hK.out _ _ ?_
          refine JR.to ?_ (JR.next FDg.more 4 (.int .i64 (r : Int)) hF hG hz (Below.refl _ _) rfl)
          unfold mkDg updU
          simp [e3]
        refine AllOps.cons (fun L b W hJ hi hd K hK => ?_) ?_
        · obtain ⟨U, rfl, hF, hG, hz⟩ := hJ.ex
          have e4 : U 4 = .int .i64 (r : Int) := hF 4 (by omega) (hd ⟨4, .data⟩ (by simp) rfl)
          unfold mkDg
          rw [e4]
          go_simp
          refine hK.out _ _ ?_
          refine JR.to ?_ (JR.next FDg.more 5 (.int .i64 (48 + (r : Int))) hF hG hz (Below.refl _ _) rfl)
          unfold mkDg updU
          simp [e4]
        refine AllOps.cons (fun L b W hJ hi hd K hK => ?_) ?_
        · obtain ⟨U, rfl, hF, hG, hz⟩ := hJ.ex
          have e5 : U 5 = .int .i64 (48 + (r : Int)) := hF 5 (by omega) (hd ⟨5, .data⟩ (by simp) rfl)
          unfold mkDg
          rw [e5]
          go_simp
          refine hK.out _ _ ?_
          refine JR.to ?_ (JR.next FDg.more 6 (.int .u8 (48 + (r : Int))) hF hG hz (Below.refl _ _) rfl)
          unfold mkDg updU
          simp [e5]
        refine AllOps.cons (fun L b W hJ hi hd K hK => ?_) ?_
        · obtain ⟨U, rfl, hF, hG, hz⟩ := hJ.ex
          have e6 : U 6 = .int .u8 (48 + (r : Int)) := hF 6 (by omega) (hd ⟨6, .data⟩ (by simp) rfl)
          unfold mkDg
          rw [e6]
          go_simp
          refine hK.out _ _ ?_
          refine JR.to ?_ (JR.next FDg.more 7 (.slice (some ⟨W.heap.size, 0, none⟩) 1 1) hF hG hz ((Below.refl _ _).alloc (Nat.le_refl _) _) ⟨W.heap.size, rfl, by simp, (Blk.new W _ _).cell 0⟩)
          unfold mkDg updU
          simp [e6]
        refine AllOps.cons (fun L b W hJ hi hd K hK => ?_) ?_
        · obtain ⟨U, rfl, hF, hG, hz⟩ := hJ.ex
          obtain ⟨g, e7, hgl, hgc⟩ : ∃ g, U 7 = .slice (some ⟨g, 0, none⟩) 1 1 ∧ g < W.heap.size ∧ W.cell? ⟨g, 0, none⟩ = some (.int .u8 (48 + (r : Int))) := hF 7 (by omega) (hd ⟨7, .data⟩ (by simp) rfl)
          unfold mkDg
          rw [e7]
          have hcv := hs1 W g hgc
          go_simp
          refine hK.out _ _ ?_
          refine JR.to ?_ (JR.next FDg.more 8 (.string (btj [z])) hF hG hz (Below.refl _ _) rfl)
          unfold mkDg updU
          simp [e7]
        refine AllOps.cons (fun L b W hJ hi hd K hK => ?_) ?_
        · obtain ⟨U, rfl, hF, hG, hz⟩ := hJ.ex
          have e2 : U 2 = .string (btj D) := hF 2 (by omega) (hd ⟨2, .data⟩ (by simp) rfl)
          have e8 : U 8 = .string (btj [z]) := hF 8 (by omega) (hd ⟨8, .data⟩ (by simp) rfl)
          unfold mkDg
          rw [e2, e8]
          go_simp
          refine hK.out _ _ ?_
          refine JR.to ?_ (JR.next FDg.more 9 (.string (btj D ++ btj [z])) hF hG hz (Below.refl _ _) rfl)
          unfold mkDg updU
          simp [e2, e8]
        refine AllOps.cons (fun L b W hJ hi hd K hK => ?_) ?_
        · obtain ⟨U, rfl, hF, hG, hz⟩ := hJ.ex
          have e9 : U 9 = .string (btj D ++ btj [z]) := hF 9 (by omega) (hd ⟨9, .data⟩ (by simp) rfl)
          unfold mkDg
          rw [e9]
          go_simp
          refine hK.out _ _ ?_
          refine JR.to ?_ (JR.next FDg.more 10 (.string (btj D ++ btj [z])) hF hG hz (Below.refl _ _) rfl)
          unfold mkDg updU
          simp [e9]
        exact AllOps.nil
end Go.Proofs.YtkdlipbegdiaaaaGreatDoor
namespace Go.Proofs.YtkdlipbegdiaaaaGreatDoor
open Go.RowKit
/-- the frame of the region of the digits -/
def mkDc (n : Int) (U : Nat → Value) : Act :=
  { tmps := #[.int .i64 n, undef, U 10, .int .i64 n, .bool false, .int .i64 n, .bool false, undef, undef, undef, undef, .int .i64 n, .bool false, undef, undef, undef, undef, undef, U 0, U 1, U 2, U 3, U 4, U 5, U 6, U 7, U 8, U 9], defers := [] }
set_option maxHeartbeats 2000000 in
set_option maxRecDepth 100000 in
theorem spec_l6Dec : ∀ (b n : Nat), n < b → n ≤ 1000000000000 → ∀ w : World,
    Calls Tryz.prog 32 #[.int .i64 n] w fun e w' => e = .returned (.string (btj (Lib.decDigits n))) ∧ Below w.heap.size w w' := by
  intro b
  induction b with
  | zero => intro n h; omega
  | succ b ih =>
    intro n hb hn w
    by_cases h10 : n < 10
    · have d1 : decide ((n : Int) < 10) = true := by simp; omega
      have d2 : decide ((n : Int) < -9223372036854775807) = false := by rw [decide_eq_false_iff_not]; omega
      have d3 : decide ((n : Int) < 0) = false := by simp
      have hc1 : (IntKind.u8.wrap (48 + (n : Int))) = 48 + (n : Int) := u8_small (by omega) (by omega)
      obtain ⟨z, hz⟩ : ∃ z, z = UInt8.ofNat (48 + n) := ⟨_, rfl⟩
      have hs1 : ∀ (W : World) (g : Nat), W.cell? ⟨g, 0, none⟩ = some (.int .u8 (48 + (n : Int))) → (convert 22 9 (.slice (some ⟨g, 0, none⟩) 1 1)).run Tryz.prog W = .ok (.string (btj [z])) W := fun W g h => run_one_string W _ _ (by rw [hz]; exact digit_byte h10) g h
      have HE : Hid (Lib.decDigits n = [z]) := by show _ = _; rw [hz]; exact Lib.decDigits_one h10
      clear hz ih
      go_enter Tryz.func32, Tryz.ntmps32
      go_wp2_with fail
      go_ret
      exact ⟨by rw [HE.out]; rfl, (Below.refl _ _).alloc (Nat.le_refl _) _⟩
    · have d1 : decide ((n : Int) < 10) = false := by simp; omega
      have d2 : decide ((n : Int) < -9223372036854775807) = false := by rw [decide_eq_false_iff_not]; omega
      have d3 : decide ((n : Int) < 0) = false := by simp
      have hq : (n : Int).tdiv 10 = ((n / 10 : Nat) : Int) := by rw [Int.tdiv_eq_ediv_of_nonneg (by omega)]; rfl
      have hr : (n : Int).tmod 10 = ((n % 10 : Nat) : Int) := by rw [Int.tmod_eq_emod_of_nonneg (by omega)]; rfl
      have hc1 : (IntKind.u8.wrap (48 + ((n % 10 : Nat) : Int))) = 48 + ((n % 10 : Nat) : Int) := u8_small (by omega) (by omega)
      obtain ⟨z, hz⟩ : ∃ z, z = UInt8.ofNat (48 + n % 10) := ⟨_, rfl⟩
      obtain ⟨r, hrr⟩ : ∃ r, r = n % 10 := ⟨_, rfl⟩
      have hr10 : r < 10 := by omega
      have HC := Lib.hid (fun W : World => ih (n / 10) (by omega) (by omega) W)
      have HE : Hid (Lib.decDigits n = Lib.decDigits (n / 10) ++ [z]) := by show _ = _; rw [Lib.decDigits, dif_neg h10, hz]
      have hdl := decDigits_le (n / 10 + 1) (n / 10) (by omega)
      obtain ⟨q, hqq⟩ : ∃ q, q = n / 10 := ⟨_, rfl⟩
      rw [← hrr] at hr hc1 hz
      rw [← hqq] at hq HC HE hdl
      have hq12 : q ≤ 1000000000000 := by omega
      have hs1 : ∀ (W : World) (g : Nat), W.cell? ⟨g, 0, none⟩ = some (.int .u8 (48 + (r : Int))) → (convert 22 9 (.slice (some ⟨g, 0, none⟩) 1 1)).run Tryz.prog W = .ok (.string (btj [z])) W := fun W g h => run_one_string W _ _ (by rw [hz]; exact digit_byte hr10) g h
      obtain ⟨D, hD⟩ : ∃ D, D = Lib.decDigits q := ⟨_, rfl⟩
      rw [← hD] at HC HE hdl
      have b12 : ∀ W, (Op.stringOp .add (btj D) (btj [z])).run Tryz.prog W = .ok (.string (btj D ++ btj [z])) W := fun W => run_string_add_sum W _ _ (by
        have e1 : (btj D).size = D.length := by show (List.toArray _).size = _; simp
        have e2 : (btj [z]).size = 1 := rfl
        rw [e1, e2]; omega)
      have HF : Hid (btj D ++ btj [z] = btj (Lib.decDigits n)) := by
        show _ = _
        rw [HE.out]; exact ByteArray.mk_append_mk D [z]
      have wq : IntKind.i64.wrap (q : Int) = (q : Int) := IntWalk.i64_in _ (by omega)
      have wr : IntKind.i64.wrap (48 + (r : Int)) = 48 + (r : Int) := IntWalk.i64_in _ (by omega)
      clear ih hz hrr hqq hD h10 hdl HE
      go_enter Tryz.func32, Tryz.ntmps32
      go_wp2_with fail
      refine wp_region_inv (by kernel_rfl) (by repeat (first | exact AllOps.nil | refine AllOps.cons (by decide) ?_)) (JR (mkDc (n : Int)) (FDg (n : Int) (q : Int) (r : Int) (btj D) (btj [z]) (btj D ++ btj [z])) w.heap.size w 11) ?h0 ?hs ?he
      case h0 =>
        exact ⟨fun k => if k = 10 then .string ⟨#[]⟩ else undef, rfl, fun i hi hq => by simp at hq; omega, ⟨rfl, rfl, rfl, Nat.le_refl _, fun _ _ => rfl⟩, Nat.le_refl _⟩
      case he =>
        intro L b W hJ hall
        obtain ⟨U, rfl, hF, hG, hz⟩ := hJ.ex
        have e10 : U 10 = .string (btj D ++ btj [z]) := hF 10 (by omega) (hall 10 (by decide))
        have HG := Lib.hid hG
        unfold mkDc
        rw [e10]
        clear hF hG hall hJ e10
        go_wp2_with fail
        go_ret
        exact ⟨by rw [HF.out]; rfl, HG.out⟩
      case hs =>
        refine AllOps.cons (fun L b W hJ hi hd K hK => ?_) ?_
        · obtain ⟨U, rfl, hF, hG, hz⟩ := hJ.ex
          unfold mkDc
          go_simp
          refine hK.out _ _ ?_
          refine JR.to ?_ (JR.next FDg.more 0 (.int .i64 (n : Int)) hF hG hz (Below.refl _ _) rfl)
          rfl
        refine AllOps.cons (fun L b W hJ hi hd K hK => ?_) ?_
        · obtain ⟨U, rfl, hF, hG, hz⟩ := hJ.ex
          have e0 : U 0 = .int .i64 (n : Int) := hF 0 (by omega) (hd ⟨0, .data⟩ (by simp) rfl)
          unfold mkDc
          rw [e0]
          go_simp
          refine hK.out _ _ ?_
          refine JR.to ?_ (JR.next FDg.more 1 (.int .i64 (q : Int)) hF hG hz (Below.refl _ _) rfl)
          unfold mkDc updU
          simp [e0]
        refine AllOps.cons (fun L b W hJ hi hd K hK => ?_) ?_
        · obtain ⟨U, rfl, hF, hG, hz⟩ := hJ.ex
          have e1 : U 1 = .int .i64 (q : Int) := hF 1 (by omega) (hd ⟨1, .data⟩ (by simp) rfl)
          unfold mkDc
          rw [e1]
          go_simp
          go_at_call 32
          refine (HC.out W).mono ?_
          rintro e W' ⟨rfl, hbx⟩
          go_wp2_with fail
          refine hK.out _ _ ?_
          refine JR.to ?_ (JR.next FDg.more 2 (.string (btj D)) hF hG hz hbx rfl)
          unfold mkDc updU
          simp [e1]
        refine AllOps.cons (fun L b W hJ hi hd K hK => ?_) ?_
        · obtain ⟨U, rfl, hF, hG, hz⟩ := hJ.ex
          unfold mkDc
          go_simp
          refine hK.out _ _ ?_
          refine JR.to ?_ (JR.next FDg.more 3 (.int .i64 (n : Int)) hF hG hz (Below.refl _ _) rfl)
          rfl
        refine AllOps.cons (fun L b W hJ hi hd K hK => ?_) ?_
        · obtain ⟨U, rfl, hF, hG, hz⟩ := hJ.ex
          have e3 : U 3 = .int .i64 (n : Int) := hF 3 (by omega) (hd ⟨3, .data⟩ (by simp) rfl)
          unfold mkDc
          rw [e3]
          go_simp
          refine hK.out _ _ ?_
          refine JR.to ?_ (JR.next FDg.more 4 (.int .i64 (r : Int)) hF hG hz (Below.refl _ _) rfl)
          unfold mkDc updU
          simp [e3]
        refine AllOps.cons (fun L b W hJ hi hd K hK => ?_) ?_
        · obtain ⟨U, rfl, hF, hG, hz⟩ := hJ.ex
          have e4 : U 4 = .int .i64 (r : Int) := hF 4 (by omega) (hd ⟨4, .data⟩ (by simp) rfl)
          unfold mkDc
          rw [e4]
          go_simp
          refine hK.out _ _ ?_
          refine JR.to ?_ (JR.next FDg.more 5 (.int .i64 (48 + (r : Int))) hF hG hz (Below.refl _ _) rfl)
          unfold mkDc updU
          simp [e4]
        refine AllOps.cons (fun L b W hJ hi hd K hK => ?_) ?_
        · obtain ⟨U, rfl, hF, hG, hz⟩ := hJ.ex
          have e5 : U 5 = .int .i64 (48 + (r : Int)) := hF 5 (by omega) (hd ⟨5, .data⟩ (by simp) rfl)
          unfold mkDc
          rw [e5]
          go_simp
          refine hK.out _ _ ?_
          refine JR.to ?_ (JR.next FDg.more 6 (.int .u8 (48 + (r : Int))) hF hG hz (Below.refl _ _) rfl)
          unfold mkDc updU
          simp [e5]
        refine AllOps.cons (fun L b W hJ hi hd K hK => ?_) ?_
        · obtain ⟨U, rfl, hF, hG, hz⟩ := hJ.ex
          have e6 : U 6 = .int .u8 (48 + (r : Int)) := hF 6 (by omega) (hd ⟨6, .data⟩ (by simp) rfl)
          unfold mkDc
          rw [e6]
          go_simp
          refine hK.out _ _ ?_
          refine JR.to ?_ (JR.next FDg.more 7 (.slice (some ⟨W.heap.size, 0, none⟩) 1 1) hF hG hz ((Below.refl _ _).alloc (Nat.le_refl _) _) ⟨W.heap.size, rfl, by simp, (Blk.new W _ _).cell 0⟩)
          unfold mkDc updU
          simp [e6]
        refine AllOps.cons (fun L b W hJ hi hd K hK => ?_) ?_
        · obtain ⟨U, rfl, hF, hG, hz⟩ := hJ.ex
          obtain ⟨g, e7, hgl, hgc⟩ : ∃ g, U 7 = .slice (some ⟨g, 0, none⟩) 1 1 ∧ g < W.heap.size ∧ W.cell? ⟨g, 0, none⟩ = some (.int .u8 (48 + (r : Int))) := hF 7 (by omega) (hd ⟨7, .data⟩ (by simp) rfl)
          unfold mkDc
          rw [e7]
          have hcv := hs1 W g hgc
          go_simp
          refine hK.out _ _ ?_
          refine JR.to ?_ (JR.next FDg.more 8 (.string (btj [z])) hF hG hz (Below.refl _ _) rfl)
          unfold mkDc updU
          simp [e7]
        refine AllOps.cons (fun L b W hJ hi hd K hK => ?_) ?_
        · obtain ⟨U, rfl, hF, hG, hz⟩ := hJ.ex
          have e2 : U 2 = .string (btj D) := hF 2 (by omega) (hd ⟨2, .data⟩ (by simp) rfl)
          have e8 : U 8 = .string (btj [z]) := hF 8 (by omega) (hd ⟨8, .data⟩ (by simp) rfl)
          unfold mkDc
          rw [e2, e8]
          go_simp
          refine hK.out _ _ ?_
          refine JR.to ?_ (JR.next FDg.more 9 (.string (btj D ++ btj [z])) hF hG hz (Below.refl _ _) rfl)
          unfold mkDc updU
          simp [e2, e8]
        refine AllOps.cons (fun L b W hJ hi hd K hK => ?_) ?_
        · obtain ⟨U, rfl, hF, hG, hz⟩ := hJ.ex
          have e9 : U 9 = .string (btj D ++ btj [z]) := hF 9 (by omega) (hd ⟨9, .data⟩ (by simp) rfl)
          unfold mkDc
          rw [e9]
          go_simp
          refine hK.out _ _ ?_
          refine JR.to ?_ (JR.next FDg.more 10 (.string (btj D ++ btj [z])) hF hG hz (Below.refl _ _) rfl)
          unfold mkDc updU
          simp [e9]
        exact AllOps.nil
end Go.Proofs.YtkdlipbegdiaaaaGreatDoor
namespace Go.Proofs.YtkdlipbegdiaaaaGreatDoor
open Go.RowKit
theorem i64_and_one (a : Nat) (ha : a < 9223372036854775808) : bits .and .i64 (a : Int) 1 = ((a % 2 : Nat) : Int) := by
  have h1 : (BitVec.ofInt 64 (a : Int)).toNat = a := by rw [BitVec.ofInt_natCast, BitVec.toNat_ofNat]; exact Nat.mod_eq_of_lt (by omega)
  show IntKind.i64.wrap ((BitVec.ofInt 64 (a : Int) &&& BitVec.ofInt 64 (1 : Int)).toNat : Int) = _
  rw [BitVec.toNat_and, h1, show (BitVec.ofInt 64 (1 : Int)).toNat = 1 from by decide, Nat.and_one_is_mod, IntKind.wrap_i64]
  omega
theorem shr_nat (k m : Nat) : (k : Int) / 2 ^ m = ((k / 2 ^ m : Nat) : Int) := by simp
theorem byteVals_set (bs : List UInt8) (i : Nat) (c : UInt8) (ci : Int) (h : (c.toNat : Int) = ci) : (byteVals bs).set i (.int .u8 ci) = byteVals (bs.set i c) := by
  subst h; simp [byteVals, List.map_set]
theorem made_zero (n : Nat) : (madeCells (Value.int .u8 0).cells (n * 1)).toList = byteVals (List.replicate n 0) := by
  apply List.ext_getElem
  · simp [madeCells, byteVals]
  · intro i h1 h2
    simp [madeCells, byteVals, Value.cells, Nat.mod_one]
theorem ext_txtL (n k : Nat) (bs : List UInt8) (hl : bs.length = n) (h : ∀ j, j < n → bs[j]? = some (bitL k (n - 1 - j))) : bs = txtL n k := by
  apply List.ext_getElem?
  intro i
  by_cases hi : i < n
  · rw [h i hi, txtL_get n k i hi]
  · rw [List.getElem?_eq_none (by omega), List.getElem?_eq_none (by rw [txtL_len]; omega)]
set_option maxHeartbeats 1000000 in
theorem impl_foldsOfNumber (n k : Nat) (w : World) (hn : n ≤ 60) (hk : k ≤ 1000000000000) :
    Calls Tryz.prog 151 #[.int .i64 n, .int .i64 k] w fun e w' => e = .returned (.string (txt n k)) ∧ Below w.heap.size w w' := by
  go_enter Tryz.func151, Tryz.ntmps151
  obtain ⟨i0, hi, hz0, hz1, hz2⟩ := info_parts Tryz.infoByte
  obtain ⟨w1, hrun, ho1, hg1⟩ := run_make_full (P := Tryz.prog) w w.heap.size 22 5 i0 (.int .u8 0) 1 Tryz.underlying22 hi hz0 hz1 .i64 .i64 n (by rw [hz2]; omega) (by unfold maxLen; omega) (Nat.le_refl w.heap.size)
  rw [made_zero] at ho1
  have HB := Lib.hid ((Below.refl w.heap.size w).grown hg1 (Nat.le_refl _) (fun _ hh => by cases hh))
  have HO := Lib.hid ho1
  have HR := Lib.hid hrun
  clear ho1 hg1 hi hz0 hz1 hz2 hrun
  set_option maxRecDepth 100000 in
  go_wp2_with fail
  rw [HR.out]
  go_wp2_with fail
  go_loopg [11] (n + 1) (fun g s11 wr => ∃ (i : Nat) (bs : List UInt8), i ≤ n ∧ s11 = .int .i64 i ∧ n - i < g ∧ Below w.heap.size w wr ∧ bs.length = n ∧ Hid (∀ j, j < i → bs[j]? = some (bitL k (n - 1 - j))) ∧
    wr.ownsRow w.heap.size 5 1 (.slice (some ⟨w.heap.size, 0, none⟩) n n) n (byteVals bs))
  case atStart => exact ⟨0, List.replicate n 0, Nat.zero_le _, rfl, by omega, HB.out, by simp, fun j hj => absurd hj (Nat.not_lt_zero j), HO.out⟩
  case round =>
    obtain ⟨i, bs, hi, rfl, hg, hbel, hlen, HE, hown⟩ := hrel
    cases gk with
    | zero => omega
    | succ g =>
    by_cases hlt : i < n
    · have c1 := hown.cellAt i (by omega)
      rw [List.getElem?_eq_getElem (by simp [byteVals_len]; omega)] at c1
      have c2 := hown.frozenAt i
      have st1 := hown.stored i (.int .u8 77)
      rw [byteVals_set bs i 77 77 rfl] at st1
      have hb1 := hbel.grown st1.2 hbel.size (fun k hk => by cases hk; exact Nat.le_refl _)
      have st2 := st1.1.stored i (.int .u8 86)
      rw [byteVals_set _ i 86 86 rfl, List.set_set] at st2
      have hb2 := hb1.grown st2.2 hb1.size (fun k hk => by cases hk; exact Nat.le_refl _)
      have c3 := st1.1.frozenAt i
      have c4 := st1.1.cellAt i (by omega)
      rw [List.getElem?_eq_getElem (by simp [byteVals_len]; omega)] at c4
      have he : ∀ c : UInt8, bitL k (n - 1 - i) = c → ∀ j, j < i + 1 → (bs.set i c)[j]? = some (bitL k (n - 1 - j)) := by
        intro c hc j hj
        rw [List.getElem?_set]
        by_cases hji : i = j
        · subst hji; rw [if_pos rfl, if_pos (by omega), hc]
        · rw [if_neg hji]; exact HE.out j (by omega)
      have hbits : bits .and .i64 ((k : Int) / 2 ^ (n - 1 - i)) 1 = ((k / 2 ^ (n - 1 - i) % 2 : Nat) : Int) := by
        rw [shr_nat]
        exact i64_and_one _ (Nat.lt_of_le_of_lt (Nat.div_le_self _ _) (by omega))
      have S1 := Lib.hid (show _ ∧ _ ∧ _ from ⟨st1.1, hb1, he⟩)
      have S2 := Lib.hid (show _ ∧ _ from ⟨st2.1, hb2⟩)
      clear st1 st2 hb1 hb2 he hown hbel HE HB HO HR
      by_cases q : k / 2 ^ (n - 1 - i) % 2 = 0
      · have d1 : (bits .and .i64 ((k : Int) / 2 ^ (n - 1 - i)) 1 == 1) = false := by rw [hbits, q]; rfl
        have hb : bitL k (n - 1 - i) = 77 := if_pos q
        have HBB := Lib.hid hb
        clear hb q hbits
        go_wp2_with fail
        go_roundg g
        case measure => omega
        case rel => exact ⟨i + 1, bs.set i 77, by omega, by go_num, by omega, S1.out.2.1, by simp [hlen], S1.out.2.2 77 HBB.out, S1.out.1⟩
      · have d1 : (bits .and .i64 ((k : Int) / 2 ^ (n - 1 - i)) 1 == 1) = true := by rw [hbits, show k / 2 ^ (n - 1 - i) % 2 = 1 from by omega]; rfl
        have hb : bitL k (n - 1 - i) = 86 := if_neg q
        have HBB := Lib.hid hb
        clear hb q hbits
        go_wp2_with fail
        go_roundg g
        case measure => omega
        case rel => exact ⟨i + 1, bs.set i 86, by omega, by go_num, by omega, S2.out.2, by simp [hlen], S1.out.2.2 86 HBB.out, S2.out.1⟩
    · obtain rfl : i = n := by omega
      have hbe : bs = txtL i k := ext_txtL i k bs hlen HE.out
      subst hbe
      have ho : OwnB wr w.heap.size (.slice (some ⟨w.heap.size, 0, none⟩) i i) (txtL i k) := by
        have := hown; rw [← hlen] at this; simpa [OwnB, txtL_len] using this
      have hst : (convert 22 9 (.slice (some ⟨w.heap.size, 0, none⟩) i i)).run Tryz.prog wr = .ok (.string (txt i k)) wr := run_ownB_string ho
      clear ho hown HB HO HR
      go_wp2_with fail
      go_ret
      exact ⟨rfl, hbel⟩
end Go.Proofs.YtkdlipbegdiaaaaGreatDoor
