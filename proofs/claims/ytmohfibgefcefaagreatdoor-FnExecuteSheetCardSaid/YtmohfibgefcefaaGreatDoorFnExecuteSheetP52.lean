/- A number's digits: the laws' own. No condition but sizes. Numbers told by words, and the kinds of lines of the desk. No program, no condition. The line that tells angles: the laws' own. No condition but sizes. -/
import Derived.Test.YtmohfibgefcefaaGreatDoorFnExecuteSheetP50
import Derived.Test.YtmohfibgefcefaaGreatDoorBytes
import Derived.Test.YtmohfibgefcefaaGreatDoorFnExecuteSheetP51
import Derived.Lib.ItoaNum
import Derived.Test.YtmohfibgefcefaaGreatDoorFnExecuteSheetP49
namespace Go.Proofs.YtmohfibgefcefaaGreatDoor
open Go.RowKit

theorem digit_byte {n : Nat} (h : n < 10) : ((UInt8.ofNat (48 + n)).toNat : Int) = 48 + (n : Int) := by
  rw [UInt8.toNat_ofNat']
  omega
theorem decDigits_le : ∀ (b n : Nat), n < b → (Lib.decDigits n).length ≤ n + 1 := by
  intro b
  induction b with
  | zero => intro n h; omega
  | succ b ih =>
    intro n h
    by_cases h10 : n < 10
    · rw [Lib.decDigits_one h10]; simp
    · rw [Lib.decDigits, dif_neg h10, List.length_append]
      have := ih (n / 10) (by omega)
      simp only [List.length_cons, List.length_nil]; omega
theorem u8_small {x : Int} (h0 : 0 ≤ x) (h1 : x < 256) : IntKind.u8.wrap x = x := by
  unfold IntKind.wrap
  have e : (2 : Int) ^ IntKind.u8.bits = 256 := by decide
  have e2 : IntKind.u8.signed = false := rfl
  simp only [e, e2]
  simp
  omega
theorem run_one_string (w : World) (z : UInt8) (zi : Int) (hz : (z.toNat : Int) = zi) (g : Nat) (hc : w.cell? ⟨g, 0, none⟩ = some (.int .u8 zi)) : (convert 22 9 (.slice (some ⟨g, 0, none⟩) 1 1)).run Tryz.prog w = .ok (.string (btj [z])) w := by
  refine run_convert_bytes_back w 22 9 5 ⟨g, 0, none⟩ 1 [z] Tryz.underlying22 Tryz.underlying5 Tryz.underlying9 fun j hj => ?_
  have : j = 0 := by simpa using hj
  subst this
  rw [Addr.add_lit]
  simpa [hz] using hc
/-- the frame of the region of the digits -/
def mkDg (n : Int) (U : Nat → Value) : Act :=
  { tmps := #[.int .i64 n, undef, U 10, .int .i64 n, .bool false, undef, undef, undef, undef, undef, U 0, U 1, U 2, U 3, U 4, U 5, U 6, U 7, U 8, U 9], defers := [] }
def FDg (n q r : Int) (D Z S : ByteArray) (i : Nat) (v : Value) (W : World) : Prop :=
  match i with
  | 0 => v = .int .i64 n
  | 1 => v = .int .i64 q
  | 2 => v = .string D
  | 3 => v = .int .i64 n
  | 4 => v = .int .i64 r
  | 5 => v = .int .i64 (48 + r)
  | 6 => v = .int .u8 (48 + r)
  | 7 => ∃ g, v = .slice (some ⟨g, 0, none⟩) 1 1 ∧ g < W.heap.size ∧ W.cell? ⟨g, 0, none⟩ = some (.int .u8 (48 + r))
  | 8 => v = .string Z
  | 9 => v = .string S
  | _ => v = .string S
theorem FDg.more {n q r : Int} {D Z S : ByteArray} : ∀ (i : Nat) (v : Value) (W W' : World), FDg n q r D Z S i v W → Below W.heap.size W W' → FDg n q r D Z S i v W' := by
  intro i v W W' h hb
  unfold FDg at h ⊢
  split at h <;> first | exact h | skip
  obtain ⟨g, e, hl, hc⟩ := h
  exact ⟨g, e, Nat.lt_of_lt_of_le hl hb.size, (hb.cell (p := ⟨g, 0, none⟩) hl).trans hc⟩
set_option maxHeartbeats 2000000 in
set_option maxRecDepth 100000 in
theorem laws_digits : ∀ (b n : Nat), n < b → n ≤ 1000000000000 → ∀ w : World,
    Calls Tryz.prog 11 #[.int .i64 n] w fun e w' => e = .returned (.string (btj (Lib.decDigits n))) ∧ Below w.heap.size w w' := by
  intro b
  induction b with
  | zero => intro n h; omega
  | succ b ih =>
    intro n hb hn w
    by_cases h10 : n < 10
    · have d1 : decide ((n : Int) < 10) = true := by simp; omega
      have hc1 : (IntKind.u8.wrap (48 + (n : Int))) = 48 + (n : Int) := u8_small (by omega) (by omega)
      obtain ⟨z, hz⟩ : ∃ z, z = UInt8.ofNat (48 + n) := ⟨_, rfl⟩
      have hs1 : ∀ (W : World) (g : Nat), W.cell? ⟨g, 0, none⟩ = some (.int .u8 (48 + (n : Int))) → (convert 22 9 (.slice (some ⟨g, 0, none⟩) 1 1)).run Tryz.prog W = .ok (.string (btj [z])) W := fun W g h => run_one_string W _ _ (by rw [hz]; exact digit_byte h10) g h
      have HE : Hid (Lib.decDigits n = [z]) := by show _ = _; rw [hz]; exact Lib.decDigits_one h10
      clear hz ih
      go_enter Tryz.func11, Tryz.ntmps11
      go_wp2_with fail
      go_ret
      exact ⟨by rw [HE.out]; rfl, (Below.refl _ _).alloc (Nat.le_refl _) _⟩
    · have d1 : decide ((n : Int) < 10) = false := by simp; omega
      have hq : (n : Int).tdiv 10 = ((n / 10 : Nat) : Int) := by rw [Int.tdiv_eq_ediv_of_nonneg (by omega)]; rfl
      have hr : (n : Int).tmod 10 = ((n % 10 : Nat) : Int) := by rw [Int.tmod_eq_emod_of_nonneg (by omega)]; rfl
      have hc1 : (IntKind.u8.wrap (48 + ((n % 10 : Nat) : Int))) = 48 + ((n % 10 : Nat) : Int) := u8_small (by omega) (by omega)
      obtain ⟨z, hz⟩ : ∃ z, z = UInt8.ofNat (48 + n % 10) := ⟨_, rfl⟩
      obtain ⟨r, hrr⟩ : ∃ r, r = n % 10 := ⟨_, rfl⟩
      have hr10 : r < 10 := by omega
      have HC := Lib.hid (fun W : World => ih (n / 10) (by omega) (by omega) W)
      have HE : Hid (Lib.decDigits n = Lib.decDigits (n / 10) ++ [z]) := by show _ = _; rw [Lib.decDigits, dif_neg h10, hz]
      have hdl := decDigits_le (n / 10 + 1) (n / 10) (by omega)
      obtain ⟨q, hqq⟩ : ∃ q, q = n / 10 := ⟨_, rfl⟩
      rw [← hrr] at hr hc1 hz
      rw [← hqq] at hq HC HE hdl
      have hq12 : q ≤ 1000000000000 := by omega
      have hs1 : ∀ (W : World) (g : Nat), W.cell? ⟨g, 0, none⟩ = some (.int .u8 (48 + (r : Int))) → (convert 22 9 (.slice (some ⟨g, 0, none⟩) 1 1)).run Tryz.prog W = .ok (.string (btj [z])) W := fun W g h => run_one_string W _ _ (by rw [hz]; exact digit_byte hr10) g h
      obtain ⟨D, hD⟩ : ∃ D, D = Lib.decDigits q := ⟨_, rfl⟩
      rw [← hD] at HC HE hdl
      have b12 : ∀ W, (Op.stringOp .add (btj D) (btj [z])).run Tryz.prog W = .ok (.string (btj D ++ btj [z])) W := fun W => run_string_add_sum W _ _ (by
        have e1 : (btj D).size = D.length := by show (List.toArray _).size = _; simp
        have e2 : (btj [z]).size = 1 := rfl
        rw [e1, e2]; omega)
      have HF : Hid (btj D ++ btj [z] = btj (Lib.decDigits n)) := by
        show _ = _
        rw [HE.out]; exact ByteArray.mk_append_mk D [z]
      have wq : IntKind.i64.wrap (q : Int) = (q : Int) := IntWalk.i64_in _ (by omega)
      have wr : IntKind.i64.wrap (48 + (r : Int)) = 48 + (r : Int) := IntWalk.i64_in _ (by omega)
      clear ih hz hrr hqq hD h10 hdl HE
      go_enter Tryz.func11, Tryz.ntmps11
      go_wp2_with fail
      refine wp_region_inv (by kernel_rfl) (by repeat (first | exact AllOps.nil | refine AllOps.cons (by decide) ?_)) (JR (mkDg (n : Int)) (FDg (n : Int) (q : Int) (r : Int) (btj D) (btj [z]) (btj D ++ btj [z])) w.heap.size w 11) ?h0 ?hs ?he
      case h0 =>
        exact ⟨fun k => if k = 10 then .string ⟨#[]⟩ else undef, rfl, fun i hi hq => by simp at hq; omega, ⟨rfl, rfl, rfl, Nat.le_refl _, fun _ _ => rfl⟩, Nat.le_refl _⟩
      case he =>
        intro L b W hJ hall
        obtain ⟨U, rfl, hF, hG, hz⟩ := hJ.ex
        have e10 : U 10 = .string (btj D ++ btj [z]) := hF 10 (by omega) (hall 10 (by decide))
        have HG := Lib.hid hG
        unfold mkDg
        rw [e10]
        clear hF hG hall hJ e10
        go_wp2_with fail
        go_ret
        exact ⟨by rw [HF.out]; rfl, HG.out⟩
      case hs =>
        refine AllOps.cons (fun L b W hJ hi hd K hK => ?_) ?_
        · obtain ⟨U, rfl, hF, hG, hz⟩ := hJ.ex
          unfold mkDg
          go_simp
          refine hK.out _ _ ?_
          refine JR.to ?_ (JR.next FDg.more 0 (.int .i64 (n : Int)) hF hG hz (Below.refl _ _) rfl)
          rfl
        refine AllOps.cons (fun L b W hJ hi hd K hK => ?_) ?_
        · obtain ⟨U, rfl, hF, hG, hz⟩ := hJ.ex
          have e0 : U 0 = .int .i64 (n : Int) := hF 0 (by omega) (hd ⟨0, .data⟩ (by simp) rfl)
          unfold mkDg
          rw [e0]
          go_simp
          refine hK.out _ _ ?_
          refine JR.to ?_ (JR.next FDg.more 1 (.int .i64 (q : Int)) hF hG hz (Below.refl _ _) rfl)
          unfold mkDg updU
          simp [e0]
        refine AllOps.cons (fun L b W hJ hi hd K hK => ?_) ?_
        · obtain ⟨U, rfl, hF, hG, hz⟩ := hJ.ex
          have e1 : U 1 = .int .i64 (q : Int) := hF 1 (by omega) (hd ⟨1, .data⟩ (by simp) rfl)
          unfold mkDg
          rw [e1]
          go_simp
          go_at_call 11
          refine (HC.out W).mono ?_
          rintro e W' ⟨rfl, hbx⟩
          go_wp2_with fail
          refine hK.out _ _ ?_
          refine JR.to ?_ (JR.next FDg.more 2 (.string (btj D)) hF hG hz hbx rfl)
          unfold mkDg updU
          simp [e1]
        refine AllOps.cons (fun L b W hJ hi hd K hK => ?_) ?_
        · obtain ⟨U, rfl, hF, hG, hz⟩ := hJ.ex
          unfold mkDg
          go_simp
          refine hK.out _ _ ?_
          refine JR.to ?_ (JR.next FDg.more 3 (.int .i64 (n : Int)) hF hG hz (Below.refl _ _) rfl)
          rfl
        refine AllOps.cons (fun L b W hJ hi hd K hK => ?_) ?_
        · obtain ⟨U, rfl, hF, hG, hz⟩ := hJ.ex
          have e3 : U 3 = .int .i64 (n : Int) := hF 3 (by omega) (hd ⟨3, .data⟩ (by simp) rfl)
          unfold mkDg
          rw [e3]
          go_simp
          refine hK.out _ _ ?_
          refine JR.to ?_ (JR.next FDg.more 4 (.int .i64 (r : Int)) hF hG hz (Below.refl _ _) rfl)
          unfold mkDg updU
          simp [e3]
        refine AllOps.cons (fun L b W hJ hi hd K hK => ?_) ?_
        · obtain ⟨U, rfl, hF, hG, hz⟩ := hJ.ex
          have e4 : U 4 = .int .i64 (r : Int) := hF 4 (by omega) (hd ⟨4, .data⟩ (by simp) rfl)
          unfold mkDg
          rw [e4]
          go_simp
          refine hK.out _ _ ?_
          refine JR.to ?_ (JR.next FDg.more 5 (.int .i64 (48 + (r : Int))) hF hG hz (Below.refl _ _) rfl)
          unfold mkDg updU
          simp [e4]
        refine AllOps.cons (fun L b W hJ hi hd K hK => ?_) ?_
        · obtain ⟨U, rfl, hF, hG, hz⟩ := hJ.ex
          have e5 : U 5 = .int .i64 (48 + (r : Int)) := hF 5 (by omega) (hd ⟨5, .data⟩ (by simp) rfl)
          unfold mkDg
          rw [e5]
          go_simp
          refine hK.out _ _ ?_
          refine JR.to ?_ (JR.next FDg.more 6 (.int .u8 (48 + (r : Int))) hF hG hz (Below.refl _ _) rfl)
          unfold mkDg updU
          simp [e5]
        refine AllOps.cons (fun L b W hJ hi hd K hK => ?_) ?_
        · obtain ⟨U, rfl, hF, hG, hz⟩ := hJ.ex
          have e6 : U 6 = .int .u8 (48 + (r : Int)) := hF 6 (by omega) (hd ⟨6, .data⟩ (by simp) rfl)
          unfold mkDg
          rw [e6]
          go_simp
          refine hK.out _ _ ?_
          refine JR.to ?_ (JR.next FDg.more 7 (.slice (some ⟨W.heap.size, 0, none⟩) 1 1) hF hG hz ((Below.refl _ _).alloc (Nat.le_refl _) _) ⟨W.heap.size, rfl, by simp, (Blk.new W _ _).cell 0⟩)
          unfold mkDg updU
          simp [e6]
        refine AllOps.cons (fun L b W hJ hi hd K hK => ?_) ?_
        · obtain ⟨U, rfl, hF, hG, hz⟩ := hJ.ex
          obtain ⟨g, e7, hgl, hgc⟩ : ∃ g, U 7 = .slice (some ⟨g, 0, none⟩) 1 1 ∧ g < W.heap.size ∧ W.cell? ⟨g, 0, none⟩ = some (.int .u8 (48 + (r : Int))) := hF 7 (by omega) (hd ⟨7, .data⟩ (by simp) rfl)
          unfold mkDg
          rw [e7]
          have hcv := hs1 W g hgc
          go_simp
          refine hK.out _ _ ?_
          refine JR.to ?_ (JR.next FDg.more 8 (.string (btj [z])) hF hG hz (Below.refl _ _) rfl)
          unfold mkDg updU
          simp [e7]
        refine AllOps.cons (fun L b W hJ hi hd K hK => ?_) ?_
        · obtain ⟨U, rfl, hF, hG, hz⟩ := hJ.ex
          have e2 : U 2 = .string (btj D) := hF 2 (by omega) (hd ⟨2, .data⟩ (by simp) rfl)
          have e8 : U 8 = .string (btj [z]) := hF 8 (by omega) (hd ⟨8, .data⟩ (by simp) rfl)
          unfold mkDg
          rw [e2, e8]
          go_simp
          refine hK.out _ _ ?_
          refine JR.to ?_ (JR.next FDg.more 9 (.string (btj D ++ btj [z])) hF hG hz (Below.refl _ _) rfl)
          unfold mkDg updU
          simp [e2, e8]
        refine AllOps.cons (fun L b W hJ hi hd K hK => ?_) ?_
        · obtain ⟨U, rfl, hF, hG, hz⟩ := hJ.ex
          have e9 : U 9 = .string (btj D ++ btj [z]) := hF 9 (by omega) (hd ⟨9, .data⟩ (by simp) rfl)
          unfold mkDg
          rw [e9]
          go_simp
          refine hK.out _ _ ?_
          refine JR.to ?_ (JR.next FDg.more 10 (.string (btj D ++ btj [z])) hF hG hz (Below.refl _ _) rfl)
          unfold mkDg updU
          simp [e9]
        exact AllOps.nil
end Go.Proofs.YtmohfibgefcefaaGreatDoor
namespace Go.Proofs.YtmohfibgefcefaaGreatDoor
open Go

/-- the digits of a word read behind a number -/
def numD : List UInt8 → Nat → Option Nat
  | [], a => some a
  | c :: r, a => if c.toNat < 48 ∨ 57 < c.toNat then none else numD r (a * 10 + (c.toNat - 48))
theorem numD_cons (c : UInt8) (r : List UInt8) (a : Nat) : numD (c :: r) a = if c.toNat < 48 ∨ 57 < c.toNat then none else numD r (a * 10 + (c.toNat - 48)) := rfl
/-- the number that a word tells -/
def numV (s : List UInt8) : Nat := if s.length < 1 ∨ 4 < s.length then 0 else (numD s 0).getD 0
theorem numD_dec : ∀ (b n : Nat), n < b → ∀ (a : Nat) (r : List UInt8), numD (Lib.decDigits n ++ r) a = numD r (a * 10 ^ (Lib.decDigits n).length + n) := by
  intro b
  induction b with
  | zero => intro n h; omega
  | succ b ih =>
    intro n h a r
    by_cases h10 : n < 10
    · rw [Lib.decDigits_one h10]
      have e : (UInt8.ofNat (48 + n)).toNat = 48 + n := by rw [UInt8.toNat_ofNat']; omega
      show (if (UInt8.ofNat (48 + n)).toNat < 48 ∨ 57 < (UInt8.ofNat (48 + n)).toNat then none else numD r (a * 10 + ((UInt8.ofNat (48 + n)).toNat - 48))) = _
      rw [e, if_neg (by omega)]
      congr 1
      simp
    · rw [Lib.decDigits, dif_neg h10, List.append_assoc, ih (n / 10) (by omega)]
      have e : (UInt8.ofNat (48 + n % 10)).toNat = 48 + n % 10 := by rw [UInt8.toNat_ofNat']; omega
      show (if (UInt8.ofNat (48 + n % 10)).toNat < 48 ∨ 57 < (UInt8.ofNat (48 + n % 10)).toNat then none else numD r (_ * 10 + ((UInt8.ofNat (48 + n % 10)).toNat - 48))) = _
      rw [e, if_neg (by omega)]
      congr 1
      rw [List.length_append, List.length_singleton, Nat.pow_succ, Nat.add_mul, Nat.mul_assoc]
      omega
theorem decDigits_pos : ∀ (n : Nat), 1 ≤ (Lib.decDigits n).length := by
  intro n
  by_cases h10 : n < 10
  · rw [Lib.decDigits_one h10]; simp
  · rw [Lib.decDigits, dif_neg h10, List.length_append]; simp
theorem decDigits_step {n m k : Nat} (h : n < m * 10) (ih : n / 10 < m → (Lib.decDigits (n / 10)).length ≤ k) : (Lib.decDigits n).length ≤ k + 1 := by
  by_cases h10 : n < 10
  · rw [Lib.decDigits_one h10]; simp
  · rw [Lib.decDigits, dif_neg h10, List.length_append]
    have := ih (by omega)
    simp; omega
theorem decDigits_one_le {n : Nat} (h : n < 10) : (Lib.decDigits n).length ≤ 1 := by rw [Lib.decDigits_one h]; simp
theorem decDigits_four {n : Nat} (h : n < 10000) : (Lib.decDigits n).length ≤ 4 :=
  decDigits_step (m := 1000) (by omega) fun h => decDigits_step (m := 100) (by omega) fun h => decDigits_step (m := 10) (by omega) fun h => decDigits_one_le h
theorem decDigits_three {n : Nat} (h : n < 1000) : (Lib.decDigits n).length ≤ 3 :=
  decDigits_step (m := 100) (by omega) fun h => decDigits_step (m := 10) (by omega) fun h => decDigits_one_le h
theorem numV_dec {n : Nat} (h : n < 10000) : numV (Lib.decDigits n) = n := by
  unfold numV
  have h1 := decDigits_pos n
  have h4 := decDigits_four h
  rw [if_neg (by omega)]
  have := numD_dec (n + 1) n (by omega) 0 []
  rw [List.append_nil] at this
  rw [this]
  show (some _).getD 0 = n
  simp
theorem numD_le : ∀ (s : List UInt8) (a : Nat), ∀ v, numD s a = some v → v < (a + 1) * 10 ^ s.length := by
  intro s
  induction s with
  | nil => intro a v h; cases h; simp
  | cons c r ih =>
    intro a v h
    unfold numD at h
    split at h
    · cases h
    · rename_i hc
      have := ih _ _ h
      rw [List.length_cons, Nat.pow_succ]
      refine Nat.lt_of_lt_of_le this ?_
      rw [Nat.mul_comm (10 ^ r.length) 10, ← Nat.mul_assoc]
      exact Nat.mul_le_mul_right _ (by omega)
theorem numV_lt (s : List UInt8) : numV s < 10000 := by
  unfold numV
  split
  · omega
  · rename_i h
    cases hv : numD s 0 with
    | none => simp
    | some v =>
      have := numD_le s 0 v hv
      have h2 : 10 ^ s.length ≤ 10 ^ 4 := Nat.pow_le_pow_right (by omega) (by omega)
      simp at this ⊢
      omega
theorem dec_no {c : UInt8} (hc : c.toNat < 48) : ∀ (b n : Nat), n < b → c ∉ Lib.decDigits n := by
  intro b
  induction b with
  | zero => intro n h; omega
  | succ b ih =>
    intro n h hm
    by_cases h10 : n < 10
    · rw [Lib.decDigits_one h10, List.mem_singleton] at hm
      subst hm
      rw [UInt8.toNat_ofNat'] at hc; omega
    · rw [Lib.decDigits, dif_neg h10, List.mem_append, List.mem_singleton] at hm
      rcases hm with hm | hm
      · exact ih (n / 10) (by omega) hm
      · subst hm
        rw [UInt8.toNat_ofNat'] at hc; omega

/-- the name of a kind of line -/
def cmdName : Nat → List UInt8
  | 0 => [97, 110, 103, 108, 101, 115]
  | 1 => [102, 111, 108, 100, 115]
  | 2 => [109, 97, 110, 121]
  | 3 => [102, 105, 114, 115, 116]
  | 4 => [116, 101, 115, 116]
  | 5 => [99, 114, 105, 109, 112]
  | 6 => [115, 116, 114, 105, 112]
  | 7 => [115, 116, 97, 99, 107]
  | 8 => [119, 111, 114, 100]
  | _ => [115, 116, 97, 109, 112, 115]
/-- how many further words it has at least -/
def cmdLeast : Nat → Nat
  | 0 => 1
  | 1 => 1
  | 2 => 0
  | 3 => 0
  | 4 => 0
  | 5 => 1
  | 6 => 2
  | 7 => 1
  | 8 => 1
  | _ => 1
/-- and at most -/
def cmdMost : Nat → Nat
  | 0 => 301
  | 1 => 1
  | 2 => 0
  | 3 => 0
  | 4 => 0
  | 5 => 1
  | 6 => 301
  | 7 => 1
  | 8 => 1
  | _ => 1
/-- whether a line's words are of a kind -/
def cmdIs (k : Nat) (x : List UInt8) (m : Nat) : Bool := cmdName k == x && decide (cmdLeast k ≤ m) && decide (m ≤ cmdMost k)
theorem cmdName_inj {i j : Nat} (hi : i < 10) (hj : j < 10) (h : cmdName i = cmdName j) : i = j := by
  have : ∀ i : Fin 10, ∀ j : Fin 10, cmdName i = cmdName j → i = j := by decide
  exact congrArg Fin.val (this ⟨i, hi⟩ ⟨j, hj⟩ h)
end Go.Proofs.YtmohfibgefcefaaGreatDoor
namespace Go.Proofs.YtmohfibgefcefaaGreatDoor
open Go.RowKit

theorem run_addT (a b c : List UInt8) (h : a ++ b = c) (hl : a.length + b.length ≤ 1000000) (W : World) : (Op.stringOp .add (btj a) (btj b)).run Tryz.prog W = .ok (.string (btj c)) W := by
  have e1 : (btj a).size = a.length := by show a.toArray.size = _; simp
  have e2 : (btj b).size = b.length := by show b.toArray.size = _; simp
  rw [run_string_add_sum W _ _ (by rw [e1, e2]; omega), ← h]
  exact congrArg (fun x => Result.ok (Value.string x) W) (ByteArray.mk_append_mk a b)
/-- numbers behind a word, each with a blank ahead -/
def numsT (xs : List Int) : List UInt8 := xs.flatMap fun x => 32 :: Lib.decDigits x.toNat
/-- the line that tells angles -/
def angT (xs : List Int) : List UInt8 := [97, 110, 103, 108, 101, 115] ++ numsT xs ++ [10]
theorem numsT_take {xs : List Int} {k : Nat} (hk : k < xs.length) : numsT (xs.take (k + 1)) = (numsT (xs.take k) ++ [32]) ++ Lib.decDigits xs[k].toNat := by
  rw [List.take_succ_eq_append_getElem hk]
  unfold numsT
  rw [List.flatMap_append]; simp
theorem numsT_len {xs : List Int} (h : ∀ x ∈ xs, 0 ≤ x ∧ x < 10000) : (numsT xs).length ≤ xs.length * 5 := by
  induction xs with
  | nil => simp [numsT]
  | cons x r ih =>
    have h1 := decDigits_four (n := x.toNat) (by have := h x (by simp); omega)
    have h2 := ih fun y hy => h y (by simp [hy])
    unfold numsT at h2 ⊢
    rw [List.flatMap_cons, List.length_append, List.length_cons, List.length_cons]
    omega
theorem numsT_join (x0 : List UInt8) (xs : List Int) : joinC 32 (x0 :: xs.map fun x => Lib.decDigits x.toNat) = x0 ++ numsT xs := by
  induction xs generalizing x0 with
  | nil => simp [joinC, numsT]
  | cons x r ih =>
    show x0 ++ 32 :: joinC 32 (Lib.decDigits x.toNat :: r.map fun x => Lib.decDigits x.toNat) = _
    rw [ih]
    unfold numsT
    rw [List.flatMap_cons]; simp
set_option maxHeartbeats 2000000 in
set_option maxRecDepth 100000 in
theorem laws_anglesLine (A : Option Addr) (c : Nat) (xs : List Int) (w : World) (h : Ints w A xs) (hl : xs.length ≤ 20) (hx : ∀ x ∈ xs, 0 ≤ x ∧ x < 10000) :
    Calls Tryz.prog 17 #[.slice A xs.length c] w fun e w' => e = .returned (.string (btj (angT xs))) ∧ Below w.heap.size w w' := by
  have HI := Lib.hid h
  have HX := Lib.hid hx
  clear h hx
  go_enter Tryz.func17, Tryz.ntmps17
  go_wp2_with fail
  go_loopg [3, 4] (xs.length + 1) (fun gg s3 s4 wr => ∃ (k : Nat), k ≤ xs.length ∧ s3 = .string (btj ([97, 110, 103, 108, 101, 115] ++ numsT (xs.take k))) ∧ s4 = .int .i64 k ∧ xs.length - k < gg ∧ Hid (Below w.heap.size w wr))
  case atStart => exact ⟨0, Nat.zero_le _, rfl, rfl, by omega, Below.refl _ _⟩
  case round =>
    obtain ⟨k, hk, rfl, rfl, hg, HB⟩ := hrel
    cases gk with
    | zero => omega
    | succ gl =>
    by_cases hlt : k < xs.length
    · have k1 : (k : Int) < (xs.length : Int) := by omega
      have k0 : (0 : Int) ≤ (k : Int) := by omega
      obtain ⟨b, off, x, rfl, hbb, hdr, hc, hxm⟩ := (HI.out.below HB.out).at_ hlt
      have hxe : xs[k] = x := by
        have := hdr.out
        rw [List.drop_eq_getElem_cons hlt] at this
        exact (List.cons.inj this).1
      have hxb := HX.out x hxm
      have hsucc := numsT_take hlt
      rw [hxe] at hsucc
      have hnl := numsT_len (xs := xs.take k) fun y hy => HX.out y (List.mem_of_mem_take hy)
      have hnl2 : (xs.take k).length ≤ 20 := by rw [List.length_take]; omega
      have hdl := decDigits_four (n := x.toNat) (by omega)
      have HD := Lib.hid (fun W : World => laws_digits (x.toNat + 1) x.toNat (by omega) (by omega) W)
      have exn : ((x.toNat : Nat) : Int) = x := by omega
      rw [exn] at HD
      obtain ⟨D, hD⟩ : ∃ D, D = Lib.decDigits x.toNat := ⟨_, rfl⟩
      obtain ⟨C, hC⟩ : ∃ C, C = [97, 110, 103, 108, 101, 115] ++ numsT (xs.take k) := ⟨_, rfl⟩
      obtain ⟨C', hC'⟩ : ∃ C', C' = [97, 110, 103, 108, 101, 115] ++ numsT (xs.take (k + 1)) := ⟨_, rfl⟩
      have hCl : C.length ≤ 200 := by rw [hC]; simp; omega
      rw [← hD] at HD hdl hsucc
      rw [← hC]
      have a1 : ∀ W, (Op.stringOp .add (btj C) (btj [32])).run Tryz.prog W = .ok (.string (btj (C ++ [32]))) W := fun W => run_addT _ _ _ rfl (by simp; omega) W
      have a2 : ∀ W, (Op.stringOp .add (btj (C ++ [32])) (btj D)).run Tryz.prog W = .ok (.string (btj C')) W := fun W => run_addT _ _ _ (by rw [hC', hsucc, hC]; simp) (by simp; omega) W
      have HC' := Lib.hid hC'
      clear hsucc hnl hnl2 hC hC' hD hdr hxe hxm exn hxb hCl hdl
      go_wp2_with fail
      refine (HD.out wr).mono ?_
      rintro e w6 ⟨rfl, hb6⟩
      have HB6 := Lib.hid (below_from HB.out hb6 HB.out.size)
      clear hb6 HB HD
      go_wp2_with fail
      go_roundg gl
      case measure => omega
      case rel => exact ⟨k + 1, by omega, by rw [HC'.out], by go_num, by omega, HB6⟩
    · obtain rfl : k = xs.length := by omega
      rw [List.take_of_length_le (Nat.le_refl _)]
      have hnl := numsT_len HX.out
      obtain ⟨C, hC⟩ : ∃ C, C = [97, 110, 103, 108, 101, 115] ++ numsT xs := ⟨_, rfl⟩
      have hCl : C.length ≤ 200 := by rw [hC]; simp; omega
      rw [← hC]
      have a1 : ∀ W, (Op.stringOp .add (btj C) (btj [10])).run Tryz.prog W = .ok (.string (btj (C ++ [10]))) W := fun W => run_addT _ _ _ rfl (by simp; omega) W
      have HE : Hid (C ++ [10] = angT xs) := by show _ = _; rw [hC]; rfl
      clear hC hnl hCl
      go_wp2_with fail
      go_ret
      exact ⟨by rw [← HE.out]; rfl, HB.out⟩
end Go.Proofs.YtmohfibgefcefaaGreatDoor
