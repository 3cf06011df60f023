/- The drawn scripts: 'l6Many', 'l92Line', 'DrawExecute'. No condition but sizes. -/
import Derived.Test.YtkdlipbegdiaaaaGreatDoorEzBP14
import Derived.Test.YtkdlipbegdiaaaaGreatDoorEzBP3
import Derived.Test.YtkdlipbegdiaaaaGreatDoorEzBP15
namespace Go.Proofs.YtkdlipbegdiaaaaGreatDoor
open Go.RowKit
set_option maxRecDepth 100000 in
/-- a small number, told -/
theorem spec_l6DecZ (x : Int) (h1 : -2000 ≤ x) (h2 : x ≤ 2000) (w : World) :
    Calls Tryz.prog 32 #[.int .i64 x] w fun e w' => ∃ s : ByteArray, e = .returned (.string s) ∧ s.size ≤ 5 ∧ Below w.heap.size w w' := by
  by_cases h0 : 0 ≤ x
  · have e : ((x.toNat : Nat) : Int) = x := by omega
    have hd := decDigits_four (n := x.toNat) (by omega)
    have := spec_l6Dec (x.toNat + 1) x.toNat (by omega) (by omega) w
    rw [e] at this
    refine this.mono ?_
    rintro e w' ⟨rfl, hb⟩
    exact ⟨_, rfl, by show (List.toArray _).size ≤ 5; simp; omega, hb⟩
  · have d0 : ¬ (x < -9223372036854775807) := by omega
    have d1 : x < 0 := by omega
    have iw : IntKind.i64.wrap (-x) = -x := IntWalk.i64_in _ (by omega)
    have e : (((-x).toNat : Nat) : Int) = -x := by omega
    have hd := decDigits_four (n := (-x).toNat) (by omega)
    have HC := Lib.hid (fun W : World => spec_l6Dec ((-x).toNat + 1) (-x).toNat (by omega) (by omega) W)
    rw [e] at HC
    obtain ⟨D, hD⟩ : ∃ D, D = Lib.decDigits (-x).toNat := ⟨_, rfl⟩
    rw [← hD] at HC hd
    have b12 : ∀ W, (Op.stringOp .add (btj [45]) (btj D)).run Tryz.prog W = .ok (.string (btj (45 :: D))) W := fun W => run_addT _ _ _ rfl (by simp; omega) W
    clear hD e h0 h1 h2
    go_enter Tryz.func32, Tryz.ntmps32
    go_wp2_with fail
    refine (HC.out w).mono ?_
    rintro e w2 ⟨rfl, hb2⟩
    go_wp2_with fail
    go_ret
    exact ⟨_, rfl, by show (List.toArray _).size ≤ 5; simp; omega, hb2⟩
set_option maxHeartbeats 1000000 in
set_option maxRecDepth 100000 in
/-- a text so many times -/
theorem spec_l6ManyB (s : ByteArray) (n : Nat) (w : World) (hs : s.size * n ≤ 1000) (h1 : 1 ≤ n) (_hn : n ≤ 1000) :
    Calls Tryz.prog 36 #[.string s, .int .i64 n] w fun e w' => ∃ t : ByteArray, e = .returned (.string t) ∧ t.size ≤ 1000 ∧ Below w.heap.size w w' := by
  have hs0 : s.size ≤ 1000 := Nat.le_trans (Nat.le_mul_of_pos_right _ h1) hs
  go_enter Tryz.func36, Tryz.ntmps36
  go_wp2_with fail
  go_loopg [0, 1, 5] (n + 1) (fun gg s0 s1 s5 wr => ∃ (k : Nat) (a t : ByteArray), s0 = .string a ∧ s1 = .int .i64 k ∧ s5 = .string t ∧ k < gg ∧ Hid (t.size + a.size * k ≤ 1000) ∧ a.size ≤ 2000 ∧ t.size ≤ 1000 ∧ k ≤ n ∧ Hid (Below w.heap.size w wr))
  case atStart => exact ⟨n, s, ⟨#[]⟩, rfl, rfl, rfl, by omega, by show 0 + _ ≤ _; omega, by omega, by show 0 ≤ _; omega, Nat.le_refl _, Below.refl _ _⟩
  case round =>
    obtain ⟨k, a, t, rfl, rfl, rfl, hg, HI, ha, ht, hkn, HB⟩ := hrel
    cases gk with
    | zero => omega
    | succ gl =>
    have n1000 : k ≤ 1000000000000 := by omega
    by_cases hk : 0 < k
    · have k1 : (0 : Int) < (k : Int) := by omega
      obtain ⟨qq, hqq⟩ : ∃ qq, qq = k / 2 := ⟨_, rfl⟩
      have hq : (k : Int).tdiv 2 = (qq : Int) := by rw [Int.tdiv_eq_ediv_of_nonneg (by omega), hqq]; rfl
      have wq : IntKind.i64.wrap (qq : Int) = (qq : Int) := IntWalk.i64_in _ (by omega)
      have hal : t.size + a.size ≤ 1000 := by
        have h1 : a.size ≤ a.size * k := Nat.le_mul_of_pos_right _ hk
        have := HI.out
        omega
      have baa : ∀ W, (Op.stringOp .add a a).run Tryz.prog W = .ok (.string (a ++ a)) W := fun W => run_string_add_sum W _ _ (by omega)
      have haa : (a ++ a).size = a.size + a.size := ByteArray.size_append
      have hqk : qq < k := by omega
      by_cases ho : k % 2 = 1
      · have hr : (k : Int).tmod 2 = 1 := by rw [Int.tmod_eq_emod_of_nonneg (by omega)]; omega
        have bta : ∀ W, (Op.stringOp .add t a).run Tryz.prog W = .ok (.string (t ++ a)) W := fun W => run_string_add_sum W _ _ (by omega)
        have hta : (t ++ a).size = t.size + a.size := ByteArray.size_append
        have HJ : Hid ((t ++ a).size + (a ++ a).size * qq ≤ 1000) := by
          show _ ≤ _
          have e1 : k = 2 * qq + 1 := by omega
          have e2 : a.size * k = (a.size + a.size) * qq + a.size := by rw [e1, Nat.mul_add, Nat.mul_one, Nat.mul_left_comm, ← Nat.mul_assoc]; congr 1; rw [Nat.two_mul]
          have := HI.out
          rw [hta, haa]; omega
        have l1 : (a ++ a).size ≤ 2000 := by omega
        have l2 : (t ++ a).size ≤ 1000 := by omega
        clear hqq haa hta hal
        go_wp2_with fail
        go_roundg gl
        case measure => omega
        case rel => exact ⟨qq, a ++ a, t ++ a, rfl, rfl, rfl, by omega, HJ, l1, l2, by omega, HB⟩
      · have hr : (k : Int).tmod 2 = 0 := by rw [Int.tmod_eq_emod_of_nonneg (by omega)]; omega
        have HJ : Hid (t.size + (a ++ a).size * qq ≤ 1000) := by
          show _ ≤ _
          have e1 : k = 2 * qq := by omega
          have e2 : a.size * k = (a.size + a.size) * qq := by rw [e1, Nat.mul_left_comm, ← Nat.mul_assoc, Nat.two_mul]
          have := HI.out
          rw [haa]; omega
        have l1 : (a ++ a).size ≤ 2000 := by omega
        clear hqq haa hal
        go_wp2_with fail
        go_roundg gl
        case measure => omega
        case rel => exact ⟨qq, a ++ a, t, rfl, rfl, rfl, by omega, HJ, l1, ht, by omega, HB⟩
    · obtain rfl : k = 0 := by omega
      go_wp2_with fail
      go_ret
      exact ⟨t, rfl, ht, HB.out⟩
theorem str_cellsY (w : World) (ss : List ByteArray) (t : TypeId) : ∀ k s, ss[k]? = some s → (w.alloc (.cells (ss.map Value.string).toArray t)).cell? ⟨w.heap.size, k, none⟩ = some (.string s) := by
  intro k s hk
  rw [(Blk.new w t (ss.map Value.string).toArray).cell k]
  simp [hk]
def lineS1 : List ByteArray := [⟨#[77, 32, 50, 32, 49]⟩, ⟨#[77, 86, 32, 50, 32, 49, 32, 50]⟩, ⟨#[86, 86, 32, 49, 32, 49, 32, 49]⟩, ⟨#[45, 32, 53]⟩, ⟨#[77, 32, 49]⟩, ⟨#[120, 32, 49, 32, 50]⟩]
def lineS2 : List ByteArray := [⟨#[82]⟩, ⟨#[82, 76]⟩, ⟨#[85, 114, 68]⟩, ⟨#[120]⟩, ⟨#[76, 108, 82]⟩]
def lineS3 : List ByteArray := [⟨#[82]⟩, ⟨#[82, 76, 114]⟩, ⟨#[85]⟩, ⟨#[108, 108, 82]⟩]
def lineS5 : List ByteArray := [⟨#[]⟩, ⟨#[122, 122, 122]⟩, ⟨#[109, 97, 110, 121, 32, 49]⟩, ⟨#[97, 110, 103, 108, 101, 115]⟩, ⟨#[97, 110, 103, 108, 101, 115, 32, 49, 56, 48]⟩, ⟨#[97, 110, 103, 108, 101, 115, 32, 48, 49, 56, 48, 32, 49, 56, 48]⟩, ⟨#[102, 111, 108, 100, 115]⟩, ⟨#[102, 111, 108, 100, 115, 32, 77, 88]⟩, ⟨#[115, 116, 97, 109, 112, 115, 32, 120]⟩, ⟨#[115, 116, 114, 105, 112, 32, 77]⟩]
def lineS9 : List ByteArray := [⟨#[109, 97, 110, 121]⟩, ⟨#[102, 105, 114, 115, 116]⟩, ⟨#[116, 101, 115, 116]⟩]
set_option maxHeartbeats 4000000 in
set_option maxRecDepth 100000 in
/-- a line drawn is short -/
theorem spec_l92Line (w : World) (r : Nat) (A : Option Addr) (cap : Nat) (bs : List UInt8) (q : Nat) (h : Rd w r A cap bs q) (hq : q ≤ 700000) :
    Calls Tryz.prog 35 #[ptr r] w fun e w' => ∃ (s : ByteArray) (q' : Nat), e = .returned (.string s) ∧ s.size ≤ 40 ∧ q' ≤ q + 10 ∧ Rd w' r A cap bs q' ∧ w.grownBy w' (some r) := by
  have hrw := h.blk.lt
  go_enter Tryz.func35, Tryz.ntmps35
  go_wp2_with fail
  refine (spec_pick w r A cap bs q 9 h (by omega) (by omega)).mono ?_
  rintro e w1 ⟨k, rfl, _, R1, g1⟩
  have HG1 := Lib.hid g1
  have HR1 := Lib.hid R1
  have hr1 : r < w1.heap.size := R1.blk.lt
  clear g1 R1 h hrw
  by_cases k0 : k = 0
  · subst k0
    go_wp2_with fail
    refine (spec_pick w1 r A cap bs (q + 1) 5 HR1.out (by omega) (by omega)).mono ?_
    rintro e w2 ⟨z, rfl, hz, R2, g2⟩
    have HG2 := Lib.hid (HG1.out.trans g2)
    have HR2 := Lib.hid R2
    have hz7 : z ≤ 7 := by omega
    clear R2 g2 HR1 HG1 hz
    go_wp2_with fail
    refine (spec_l6DecZ (z : Int) (by omega) (by omega) w2).mono ?_
    rintro e w3 ⟨s, rfl, hs, hb3⟩
    have HG3 := Lib.hid (grown_below HG2.out (hb3.mono HG2.out.size))
    have HR3 := Lib.hid (HR2.out.below hb3 HR2.out.blk.lt)
    have b12 : ∀ W, (Op.stringOp .add ⟨#[99, 114, 105, 109, 112, 32]⟩ s).run Tryz.prog W = .ok (.string (⟨#[99, 114, 105, 109, 112, 32]⟩ ++ s)) W := fun W => run_string_add_sum W _ _ (by show 6 + s.size ≤ _; omega)
    have HZ : Hid ((⟨#[99, 114, 105, 109, 112, 32]⟩ ++ s : ByteArray).size ≤ 40) := by show _ ≤ _; rw [ByteArray.size_append]; show 6 + s.size ≤ 40; omega
    clear hb3 HG2 HR2 hs
    go_wp2_with fail
    go_ret
    exact ⟨_, _, rfl, HZ.out, by omega, HR3.out, HG3.out⟩
  · have e0 : ((k : Int) == 0) = false := by rw [beq_eq_false_iff_ne]; omega
    by_cases k1 : k = 1
    · subst k1
      clear e0 k0
      have R2 := HR1.out.far (.cells #[.string ⟨#[77, 32, 50, 32, 49]⟩, .string ⟨#[77, 86, 32, 50, 32, 49, 32, 50]⟩, .string ⟨#[86, 86, 32, 49, 32, 49, 32, 49]⟩, .string ⟨#[45, 32, 53]⟩, .string ⟨#[77, 32, 49]⟩, .string ⟨#[120, 32, 49, 32, 50]⟩] 9)
      have HG2 := Lib.hid (HG1.out.trans (grown_alloc w1 (.cells #[.string ⟨#[77, 32, 50, 32, 49]⟩, .string ⟨#[77, 86, 32, 50, 32, 49, 32, 50]⟩, .string ⟨#[86, 86, 32, 49, 32, 49, 32, 49]⟩, .string ⟨#[45, 32, 53]⟩, .string ⟨#[77, 32, 49]⟩, .string ⟨#[120, 32, 49, 32, 50]⟩] 9) (some r)))
      have hcell := str_cellsY w1 lineS1 9
      clear HR1 HG1
      go_wp2_with fail
      refine (spec_of _ r A cap bs (q + 1) w1.heap.size 6 lineS1 R2 (by omega) (by decide) (by decide) (by omega) (by simp) hcell).mono ?_
      rintro e w5 ⟨s, hs, rfl, R5, g5⟩
      have HG5 := Lib.hid (HG2.out.trans g5)
      have HR5 := Lib.hid R5
      have hs1 : s.size ≤ 20 := by
        simp [lineS1] at hs
        rcases hs with rfl | rfl | rfl | rfl | rfl | rfl <;> decide
      have b12 : ∀ W, (Op.stringOp .add ⟨#[115, 116, 114, 105, 112, 32]⟩ s).run Tryz.prog W = .ok (.string (⟨#[115, 116, 114, 105, 112, 32]⟩ ++ s)) W := fun W => run_string_add_sum W _ _ (by show 6 + s.size ≤ _; omega)
      have HZ : Hid ((⟨#[115, 116, 114, 105, 112, 32]⟩ ++ s : ByteArray).size ≤ 40) := by show _ ≤ _; rw [ByteArray.size_append]; show 6 + s.size ≤ 40; omega
      clear hs hcell hs1 g5 R2 R5 HG2
      go_wp2_with fail
      go_ret
      exact ⟨_, _, rfl, HZ.out, by omega, HR5.out, HG5.out⟩
    · have e1 : ((k : Int) == 1) = false := by rw [beq_eq_false_iff_ne]; omega
      by_cases k2 : k = 2
      · subst k2
        clear e0 k0 e1 k1
        have R2 := HR1.out.far (.cells #[.string ⟨#[82]⟩, .string ⟨#[82, 76]⟩, .string ⟨#[85, 114, 68]⟩, .string ⟨#[120]⟩, .string ⟨#[76, 108, 82]⟩] 9)
        have HG2 := Lib.hid (HG1.out.trans (grown_alloc w1 (.cells #[.string ⟨#[82]⟩, .string ⟨#[82, 76]⟩, .string ⟨#[85, 114, 68]⟩, .string ⟨#[120]⟩, .string ⟨#[76, 108, 82]⟩] 9) (some r)))
        have hcell := str_cellsY w1 lineS2 9
        clear HR1 HG1
        go_wp2_with fail
        refine (spec_of _ r A cap bs (q + 1) w1.heap.size 5 lineS2 R2 (by omega) (by decide) (by decide) (by omega) (by simp) hcell).mono ?_
        rintro e w5 ⟨s, hs, rfl, R5, g5⟩
        have HG5 := Lib.hid (HG2.out.trans g5)
        have HR5 := Lib.hid R5
        have hs1 : s.size ≤ 20 := by
          simp [lineS2] at hs
          rcases hs with rfl | rfl | rfl | rfl | rfl <;> decide
        have b12 : ∀ W, (Op.stringOp .add ⟨#[115, 116, 97, 99, 107, 32]⟩ s).run Tryz.prog W = .ok (.string (⟨#[115, 116, 97, 99, 107, 32]⟩ ++ s)) W := fun W => run_string_add_sum W _ _ (by show 6 + s.size ≤ _; omega)
        have HZ : Hid ((⟨#[115, 116, 97, 99, 107, 32]⟩ ++ s : ByteArray).size ≤ 40) := by show _ ≤ _; rw [ByteArray.size_append]; show 6 + s.size ≤ 40; omega
        clear hs hcell hs1 g5 R2 R5 HG2
        go_wp2_with fail
        go_ret
        exact ⟨_, _, rfl, HZ.out, by omega, HR5.out, HG5.out⟩
      · have e2 : ((k : Int) == 2) = false := by rw [beq_eq_false_iff_ne]; omega
        by_cases k3 : k = 3
        · subst k3
          clear e0 k0 e1 k1 e2 k2
          have R2 := HR1.out.far (.cells #[.string ⟨#[82]⟩, .string ⟨#[82, 76, 114]⟩, .string ⟨#[85]⟩, .string ⟨#[108, 108, 82]⟩] 9)
          have HG2 := Lib.hid (HG1.out.trans (grown_alloc w1 (.cells #[.string ⟨#[82]⟩, .string ⟨#[82, 76, 114]⟩, .string ⟨#[85]⟩, .string ⟨#[108, 108, 82]⟩] 9) (some r)))
          have hcell := str_cellsY w1 lineS3 9
          clear HR1 HG1
          go_wp2_with fail
          refine (spec_of _ r A cap bs (q + 1) w1.heap.size 4 lineS3 R2 (by omega) (by decide) (by decide) (by omega) (by simp) hcell).mono ?_
          rintro e w5 ⟨s, hs, rfl, R5, g5⟩
          have HG5 := Lib.hid (HG2.out.trans g5)
          have HR5 := Lib.hid R5
          have hs1 : s.size ≤ 20 := by
            simp [lineS3] at hs
            rcases hs with rfl | rfl | rfl | rfl <;> decide
          have b12 : ∀ W, (Op.stringOp .add ⟨#[119, 111, 114, 100, 32]⟩ s).run Tryz.prog W = .ok (.string (⟨#[119, 111, 114, 100, 32]⟩ ++ s)) W := fun W => run_string_add_sum W _ _ (by show 5 + s.size ≤ _; omega)
          have HZ : Hid ((⟨#[119, 111, 114, 100, 32]⟩ ++ s : ByteArray).size ≤ 40) := by show _ ≤ _; rw [ByteArray.size_append]; show 5 + s.size ≤ 40; omega
          clear hs hcell hs1 g5 R2 R5 HG2
          go_wp2_with fail
          go_ret
          exact ⟨_, _, rfl, HZ.out, by omega, HR5.out, HG5.out⟩
        · have e3 : ((k : Int) == 3) = false := by rw [beq_eq_false_iff_ne]; omega
          by_cases k4 : k = 4
          · subst k4
            clear e0 k0 e1 k1 e2 k2 e3 k3
            go_wp2_with fail
            refine (spec_pick w1 r A cap bs (q + 1) 7 HR1.out (by omega) (by omega)).mono ?_
            rintro e w2 ⟨z, rfl, hz, R2, g2⟩
            have HG2 := Lib.hid (HG1.out.trans g2)
            have HR2 := Lib.hid R2
            have hz7 : z ≤ 7 := by omega
            clear R2 g2 HR1 HG1 hz
            go_wp2_with fail
            refine (spec_l6DecZ (z : Int) (by omega) (by omega) w2).mono ?_
            rintro e w3 ⟨s, rfl, hs, hb3⟩
            have HG3 := Lib.hid (grown_below HG2.out (hb3.mono HG2.out.size))
            have HR3 := Lib.hid (HR2.out.below hb3 HR2.out.blk.lt)
            have b12 : ∀ W, (Op.stringOp .add ⟨#[115, 116, 97, 109, 112, 115, 32]⟩ s).run Tryz.prog W = .ok (.string (⟨#[115, 116, 97, 109, 112, 115, 32]⟩ ++ s)) W := fun W => run_string_add_sum W _ _ (by show 7 + s.size ≤ _; omega)
            have HZ : Hid ((⟨#[115, 116, 97, 109, 112, 115, 32]⟩ ++ s : ByteArray).size ≤ 40) := by show _ ≤ _; rw [ByteArray.size_append]; show 7 + s.size ≤ 40; omega
            clear hb3 HG2 HR2 hs
            go_wp2_with fail
            go_ret
            exact ⟨_, _, rfl, HZ.out, by omega, HR3.out, HG3.out⟩
          · have e4 : ((k : Int) == 4) = false := by rw [beq_eq_false_iff_ne]; omega
            by_cases k5 : k = 5
            · subst k5
              clear e0 k0 e1 k1 e2 k2 e3 k3 e4 k4
              have R2 := HR1.out.far (.cells #[.string ⟨#[]⟩, .string ⟨#[122, 122, 122]⟩, .string ⟨#[109, 97, 110, 121, 32, 49]⟩, .string ⟨#[97, 110, 103, 108, 101, 115]⟩, .string ⟨#[97, 110, 103, 108, 101, 115, 32, 49, 56, 48]⟩, .string ⟨#[97, 110, 103, 108, 101, 115, 32, 48, 49, 56, 48, 32, 49, 56, 48]⟩, .string ⟨#[102, 111, 108, 100, 115]⟩, .string ⟨#[102, 111, 108, 100, 115, 32, 77, 88]⟩, .string ⟨#[115, 116, 97, 109, 112, 115, 32, 120]⟩, .string ⟨#[115, 116, 114, 105, 112, 32, 77]⟩] 9)
              have HG2 := Lib.hid (HG1.out.trans (grown_alloc w1 (.cells #[.string ⟨#[]⟩, .string ⟨#[122, 122, 122]⟩, .string ⟨#[109, 97, 110, 121, 32, 49]⟩, .string ⟨#[97, 110, 103, 108, 101, 115]⟩, .string ⟨#[97, 110, 103, 108, 101, 115, 32, 49, 56, 48]⟩, .string ⟨#[97, 110, 103, 108, 101, 115, 32, 48, 49, 56, 48, 32, 49, 56, 48]⟩, .string ⟨#[102, 111, 108, 100, 115]⟩, .string ⟨#[102, 111, 108, 100, 115, 32, 77, 88]⟩, .string ⟨#[115, 116, 97, 109, 112, 115, 32, 120]⟩, .string ⟨#[115, 116, 114, 105, 112, 32, 77]⟩] 9) (some r)))
              have hcell := str_cellsY w1 lineS5 9
              clear HR1 HG1
              go_wp2_with fail
              refine (spec_of _ r A cap bs (q + 1) w1.heap.size 10 lineS5 R2 (by omega) (by decide) (by decide) (by omega) (by simp) hcell).mono ?_
              rintro e w5 ⟨s, hs, rfl, R5, g5⟩
              have HG5 := Lib.hid (HG2.out.trans g5)
              have HR5 := Lib.hid R5
              have hs1 : s.size ≤ 20 := by
                simp [lineS5] at hs
                rcases hs with rfl | rfl | rfl | rfl | rfl | rfl | rfl | rfl | rfl | rfl <;> decide
              clear hs hcell g5 R2 R5 HG2
              go_wp2_with fail
              go_ret
              exact ⟨s, _, rfl, by omega, by omega, HR5.out, HG5.out⟩
            · have e5 : ((k : Int) == 5) = false := by rw [beq_eq_false_iff_ne]; omega
              have R2 := HR1.out.far (.cells #[.string ⟨#[109, 97, 110, 121]⟩, .string ⟨#[102, 105, 114, 115, 116]⟩, .string ⟨#[116, 101, 115, 116]⟩] 9)
              have HG2 := Lib.hid (HG1.out.trans (grown_alloc w1 (.cells #[.string ⟨#[109, 97, 110, 121]⟩, .string ⟨#[102, 105, 114, 115, 116]⟩, .string ⟨#[116, 101, 115, 116]⟩] 9) (some r)))
              have hcell := str_cellsY w1 lineS9 9
              clear HR1 HG1
              go_wp2_with fail
              refine (spec_of _ r A cap bs (q + 1) w1.heap.size 3 lineS9 R2 (by omega) (by decide) (by decide) (by omega) (by simp) hcell).mono ?_
              rintro e w5 ⟨s, hs, rfl, R5, g5⟩
              have HG5 := Lib.hid (HG2.out.trans g5)
              have HR5 := Lib.hid R5
              have hs1 : s.size ≤ 20 := by
                simp [lineS9] at hs
                rcases hs with rfl | rfl | rfl <;> decide
              clear hs hcell g5 R2 R5 HG2
              go_wp2_with fail
              go_ret
              exact ⟨s, _, rfl, by omega, by omega, HR5.out, HG5.out⟩
set_option maxHeartbeats 4000000 in
set_option maxRecDepth 100000 in
/-- a script drawn is some text, none too long -/
theorem spec_DrawExecute (w : World) (A : Option Addr) (cap : Nat) (bs0 : List UInt8) (h : Codes w w.heap.size A bs0) (hl : bs0.length ≤ 1048576) (hcap : bs0.length ≤ cap) (hcm : cap ≤ maxLen) :
    Calls Tryz.prog 15 #[.slice A bs0.length cap] w fun e w' => ∃ s : ByteArray, e = .returned (.string s) ∧ s.size ≤ 10000 ∧ Below w.heap.size w w' := by
  go_enter Tryz.func15, Tryz.ntmps15
  go_wp2_with fail
  refine (spec_l6Open w A cap bs0 h hl hcap hcm).mono ?_
  rintro e w1 ⟨bs, rfl, R1, hb1⟩
  have hsz := R1.blk.lt
  obtain ⟨r, hr⟩ : ∃ r, r = w.heap.size := ⟨_, rfl⟩
  rw [← hr] at R1 hsz ⊢
  have HB1 := Lib.hid hb1
  have HR := Lib.hid hr
  clear hb1 hr h
  go_wp2_with fail
  refine (spec_pick w1 r A cap bs 0 6 R1 (by omega) (by omega)).mono ?_
  rintro e w2 ⟨k, rfl, _, R2, g2⟩
  have HR2 := Lib.hid R2
  have HG2 := Lib.hid g2
  clear R1 R2 g2
  have HFIN : Hid (∀ W : World, w1.grownBy W (some r) → Below w.heap.size w W) := (fun W hg => by
    have e := HR.out
    subst e
    exact grown_fresh HB1.out hg hsz : ∀ W : World, w1.grownBy W (some r) → Below w.heap.size w W)
  by_cases hk0 : k = 0
  · subst hk0
    have HRT := HR2
    have HGT := HG2
    clear HR2 HG2
    go_wp2_with fail
    refine (spec_pick w2 r A cap bs (0 + 1) 6 HRT.out (by omega) (by omega)).mono ?_
    rintro e wa ⟨n, rfl, hn, Ra, ga⟩
    have hn6 : n ≤ 6 := by omega
    have HRa := Lib.hid Ra
    have HGa := Lib.hid (HGT.out.trans ga)
    clear Ra ga hn HRT HGT
    go_wp2_with fail
    go_loopg [4, 9] (n + 1) (fun gg s4 s9 wr => ∃ (i q2 : Nat) (t : ByteArray), i ≤ n ∧ s9 = .int .i64 i ∧ s4 = .string t ∧ t.size ≤ 200 + 41 * i ∧ n - i < gg ∧ q2 ≤ 400 + 10 * i ∧ Hid (Rd wr r A cap bs q2) ∧ Hid (w1.grownBy wr (some r)))
    case atStart => exact ⟨0, _, ⟨#[]⟩, Nat.zero_le _, rfl, rfl, by first | omega | decide, by omega, by omega, HRa, HGa⟩
    case round =>
      clear HRa HGa
      obtain ⟨i, q2, t, hi, rfl, rfl, hts, hg, hq2, HR2, HG2⟩ := hrel
      cases gk with
      | zero => omega
      | succ gl =>
      by_cases hlt : i < n
      · have i1 : (i : Int) < (n : Int) := by omega
        go_wp2_with fail
        refine (spec_l92Line wr r A cap bs q2 HR2.out (by omega)).mono ?_
        rintro e wb ⟨u, q3, rfl, hu, hq3, Rb, gb⟩
        have HRb := Lib.hid Rb
        have HGb := Lib.hid (HG2.out.trans gb)
        have b1 : ∀ W, (Op.stringOp .add t u).run Tryz.prog W = .ok (.string (t ++ u)) W := fun W => run_string_add_sum W _ _ (by omega)
        have hz : (t ++ u).size ≤ 240 + 41 * i := by rw [ByteArray.size_append]; omega
        obtain ⟨v, hv⟩ : ∃ v, v = t ++ u := ⟨_, rfl⟩
        rw [← hv] at b1 hz
        have b2 : ∀ W, (Op.stringOp .add v ⟨#[10]⟩).run Tryz.prog W = .ok (.string (v ++ ⟨#[10]⟩)) W := fun W => run_string_add_sum W _ _ (by show v.size + 1 ≤ _; omega)
        have hz2 : (v ++ (⟨#[10]⟩ : ByteArray)).size ≤ 200 + 41 * (i + 1) := by rw [ByteArray.size_append]; show v.size + 1 ≤ _; omega
        clear Rb gb hv HR2 HG2
        go_wp2_with fail
        go_roundg gl
        case measure => omega
        case rel => exact ⟨i + 1, q3, _, by omega, by go_num, rfl, hz2, by omega, by omega, HRb, HGb⟩
      · obtain rfl : i = n := by omega
        have hts2 : t.size ≤ 1000 := by omega
        go_wp2_with fail
        refine (spec_pick wr r A cap bs q2 24 HR2.out (by omega) (by omega)).mono ?_
        rintro e wc ⟨k9, rfl, _, Rc, gc⟩
        have HGc := Lib.hid (HG2.out.trans gc)
        clear Rc gc HG2 HR2
        by_cases v0 : k9 = 0
        · subst v0
          have b1 : ∀ W, (Op.stringOp .add t ⟨#[109, 97, 110, 121]⟩).run Tryz.prog W = .ok (.string (t ++ ⟨#[109, 97, 110, 121]⟩)) W := fun W => run_string_add_sum W _ _ (by show t.size + 4 ≤ _; omega)
          have hz : (t ++ (⟨#[109, 97, 110, 121]⟩ : ByteArray)).size ≤ 10000 := by rw [ByteArray.size_append]; show t.size + 4 ≤ _; omega
          go_wp2_with fail
          go_ret
          exact ⟨_, rfl, hz, HFIN.out _ HGc.out⟩
        · have e0 : ((k9 : Int) == 0) = false := by rw [beq_eq_false_iff_ne]; omega
          by_cases v1 : k9 = 1
          · subst v1
            clear e0 v0
            go_wp2_with fail
            refine (spec_l6ManyB ⟨#[109, 97, 110, 121, 10]⟩ 90 wc (by decide) (by decide) (by decide)).mono ?_
            rintro e wd ⟨u, rfl, hu, hbd⟩
            have HGd := Lib.hid (grown_below HGc.out (hbd.mono HGc.out.size))
            have b1 : ∀ W, (Op.stringOp .add t u).run Tryz.prog W = .ok (.string (t ++ u)) W := fun W => run_string_add_sum W _ _ (by omega)
            have hz : (t ++ u).size ≤ 10000 := by rw [ByteArray.size_append]; omega
            clear hbd HGc
            go_wp2_with fail
            go_ret
            exact ⟨_, rfl, hz, HFIN.out _ HGd.out⟩
          · have e1 : ((k9 : Int) == 1) = false := by rw [beq_eq_false_iff_ne]; omega
            clear v0 v1
            go_wp2_with fail
            go_ret
            exact ⟨t, rfl, by omega, HFIN.out _ HGc.out⟩
  · have d1 : (0 : Int) < (k : Int) := by omega
    clear hk0
    go_wp2_with fail
    refine (spec_l91Vertex w2 r A cap bs (0 + 1) 6 HR2.out (by omega) (by omega) (by omega)).mono ?_
    rintro e w3 ⟨B, xs, c, f, q3, rfl, hA, hc, hcm2, hxm, hSm, hf, hq3, R3, G3⟩
    have HRV := Lib.hid R3
    have HGV := Lib.hid (HG2.out.trans G3)
    have HI := Lib.hid hA.ints
    have HSm := Lib.hid hSm
    have HBV := Lib.hid (Below.refl w3.heap.size w3)
    clear R3 G3 hA hSm HR2 HG2 hc hcm2
    go_wp2_with fail
    go_loopg [4, 7] (xs.length + 1) (fun gg s4 s7 wr => ∃ (i : Nat) (t : ByteArray), i ≤ xs.length ∧ s7 = .int .i64 i ∧ s4 = .string t ∧ t.size ≤ 6 + 6 * i ∧ xs.length - i < gg ∧ Hid (Below w3.heap.size w3 wr))
    case atStart => exact ⟨0, _, Nat.zero_le _, rfl, rfl, by show 6 ≤ _; omega, by omega, HBV⟩
    case round =>
      clear HBV
      obtain ⟨i, t, hi, rfl, rfl, hts, hg, HBV⟩ := hrel
      cases gk with
      | zero => omega
      | succ gl =>
      by_cases hlt : i < xs.length
      · have i1 : (i : Int) < (xs.length : Int) := by omega
        have i0 : (0 : Int) ≤ (i : Int) := by omega
        obtain ⟨b, off, x, rfl, hbb, hdr, hcx, hxm2⟩ := (HI.out.below HBV.out).at_ hlt
        have hxb := HSm.out x hxm2
        have b0 : ∀ W, (Op.stringOp .add t ⟨#[32]⟩).run Tryz.prog W = .ok (.string (t ++ ⟨#[32]⟩)) W := fun W => run_string_add_sum W _ _ (by show t.size + 1 ≤ _; omega)
        have hz0 : (t ++ (⟨#[32]⟩ : ByteArray)).size ≤ 7 + 6 * i := by rw [ByteArray.size_append]; show t.size + 1 ≤ _; omega
        obtain ⟨v, hv⟩ : ∃ v, v = t ++ (⟨#[32]⟩ : ByteArray) := ⟨_, rfl⟩
        rw [← hv] at b0 hz0
        clear hv hdr hxm2
        go_wp2_with fail
        refine (spec_l6DecZ x hxb.1 hxb.2 wr).mono ?_
        rintro e wb ⟨u, rfl, hu, hbu⟩
        have HBW := Lib.hid (HBV.out.trans (hbu.mono HBV.out.size))
        have b1 : ∀ W, (Op.stringOp .add v u).run Tryz.prog W = .ok (.string (v ++ u)) W := fun W => run_string_add_sum W _ _ (by omega)
        have hz : (v ++ u).size ≤ 6 + 6 * (i + 1) := by rw [ByteArray.size_append]; omega
        clear hbu HBV hxb
        go_wp2_with fail
        go_roundg gl
        case measure => omega
        case rel => exact ⟨i + 1, _, by omega, by go_num, rfl, hz, by omega, HBW⟩
      · obtain rfl : i = xs.length := by omega
        have b0 : ∀ W, (Op.stringOp .add t ⟨#[10]⟩).run Tryz.prog W = .ok (.string (t ++ ⟨#[10]⟩)) W := fun W => run_string_add_sum W _ _ (by show t.size + 1 ≤ _; omega)
        have hz0 : (t ++ (⟨#[10]⟩ : ByteArray)).size ≤ 50 := by rw [ByteArray.size_append]; show t.size + 1 ≤ _; omega
        obtain ⟨v, hv⟩ : ∃ v, v = t ++ (⟨#[10]⟩ : ByteArray) := ⟨_, rfl⟩
        rw [← hv] at b0 hz0
        have HR4 := Lib.hid (HRV.out.below HBV.out HRV.out.blk.lt)
        have HG4 := Lib.hid (grown_below HGV.out (HBV.out.mono HGV.out.size))
        clear hv HRV HGV HBV HI HSm hts
        go_wp2_with fail
        refine (spec_pick wr r A cap bs q3 4 HR4.out (by omega) (by omega)).mono ?_
        rintro e wf ⟨k4, rfl, _, R5, g5⟩
        have HRT := Lib.hid R5
        have HGT := Lib.hid (HG4.out.trans g5)
        clear R5 g5 HR4 HG4
        by_cases h4 : k4 = 0
        · subst h4
          go_wp2_with fail
          refine (spec_pick wf r A cap bs (q3 + 1) 6 HRT.out (by omega) (by omega)).mono ?_
          rintro e wa ⟨n, rfl, hn, Ra, ga⟩
          have hn6 : n ≤ 6 := by omega
          have HRa := Lib.hid Ra
          have HGa := Lib.hid (HGT.out.trans ga)
          clear Ra ga hn HRT HGT
          go_wp2_with fail
          go_loopg [4, 9] (n + 1) (fun gg s4 s9 wr => ∃ (i q2 : Nat) (t : ByteArray), i ≤ n ∧ s9 = .int .i64 i ∧ s4 = .string t ∧ t.size ≤ 200 + 41 * i ∧ n - i < gg ∧ q2 ≤ 400 + 10 * i ∧ Hid (Rd wr r A cap bs q2) ∧ Hid (w1.grownBy wr (some r)))
          case atStart => exact ⟨0, _, v, Nat.zero_le _, rfl, rfl, by first | omega | decide, by omega, by omega, HRa, HGa⟩
          case round =>
            clear HRa HGa
            obtain ⟨i, q2, t, hi, rfl, rfl, hts, hg, hq2, HR2, HG2⟩ := hrel
            cases gk with
            | zero => omega
            | succ gl =>
            by_cases hlt : i < n
            · have i1 : (i : Int) < (n : Int) := by omega
              go_wp2_with fail
              refine (spec_l92Line wr r A cap bs q2 HR2.out (by omega)).mono ?_
              rintro e wb ⟨u, q3, rfl, hu, hq3, Rb, gb⟩
              have HRb := Lib.hid Rb
              have HGb := Lib.hid (HG2.out.trans gb)
              have b1 : ∀ W, (Op.stringOp .add t u).run Tryz.prog W = .ok (.string (t ++ u)) W := fun W => run_string_add_sum W _ _ (by omega)
              have hz : (t ++ u).size ≤ 240 + 41 * i := by rw [ByteArray.size_append]; omega
              obtain ⟨v, hv⟩ : ∃ v, v = t ++ u := ⟨_, rfl⟩
              rw [← hv] at b1 hz
              have b2 : ∀ W, (Op.stringOp .add v ⟨#[10]⟩).run Tryz.prog W = .ok (.string (v ++ ⟨#[10]⟩)) W := fun W => run_string_add_sum W _ _ (by show v.size + 1 ≤ _; omega)
              have hz2 : (v ++ (⟨#[10]⟩ : ByteArray)).size ≤ 200 + 41 * (i + 1) := by rw [ByteArray.size_append]; show v.size + 1 ≤ _; omega
              clear Rb gb hv HR2 HG2
              go_wp2_with fail
              go_roundg gl
              case measure => omega
              case rel => exact ⟨i + 1, q3, _, by omega, by go_num, rfl, hz2, by omega, by omega, HRb, HGb⟩
            · obtain rfl : i = n := by omega
              have hts2 : t.size ≤ 1000 := by omega
              go_wp2_with fail
              refine (spec_pick wr r A cap bs q2 24 HR2.out (by omega) (by omega)).mono ?_
              rintro e wc ⟨k9, rfl, _, Rc, gc⟩
              have HGc := Lib.hid (HG2.out.trans gc)
              clear Rc gc HG2 HR2
              by_cases v0 : k9 = 0
              · subst v0
                have b1 : ∀ W, (Op.stringOp .add t ⟨#[109, 97, 110, 121]⟩).run Tryz.prog W = .ok (.string (t ++ ⟨#[109, 97, 110, 121]⟩)) W := fun W => run_string_add_sum W _ _ (by show t.size + 4 ≤ _; omega)
                have hz : (t ++ (⟨#[109, 97, 110, 121]⟩ : ByteArray)).size ≤ 10000 := by rw [ByteArray.size_append]; show t.size + 4 ≤ _; omega
                go_wp2_with fail
                go_ret
                exact ⟨_, rfl, hz, HFIN.out _ HGc.out⟩
              · have e0 : ((k9 : Int) == 0) = false := by rw [beq_eq_false_iff_ne]; omega
                by_cases v1 : k9 = 1
                · subst v1
                  clear e0 v0
                  go_wp2_with fail
                  refine (spec_l6ManyB ⟨#[109, 97, 110, 121, 10]⟩ 90 wc (by decide) (by decide) (by decide)).mono ?_
                  rintro e wd ⟨u, rfl, hu, hbd⟩
                  have HGd := Lib.hid (grown_below HGc.out (hbd.mono HGc.out.size))
                  have b1 : ∀ W, (Op.stringOp .add t u).run Tryz.prog W = .ok (.string (t ++ u)) W := fun W => run_string_add_sum W _ _ (by omega)
                  have hz : (t ++ u).size ≤ 10000 := by rw [ByteArray.size_append]; omega
                  clear hbd HGc
                  go_wp2_with fail
                  go_ret
                  exact ⟨_, rfl, hz, HFIN.out _ HGd.out⟩
                · have e1 : ((k9 : Int) == 1) = false := by rw [beq_eq_false_iff_ne]; omega
                  clear v0 v1
                  go_wp2_with fail
                  go_ret
                  exact ⟨t, rfl, by omega, HFIN.out _ HGc.out⟩
        · have d4 : (0 : Int) < (k4 : Int) := by omega
          have b1 : ∀ W, (Op.stringOp .add v ⟨#[102, 111, 108, 100, 115, 32]⟩).run Tryz.prog W = .ok (.string (v ++ ⟨#[102, 111, 108, 100, 115, 32]⟩)) W := fun W => run_string_add_sum W _ _ (by show v.size + 6 ≤ _; omega)
          have hz1 : (v ++ (⟨#[102, 111, 108, 100, 115, 32]⟩ : ByteArray)).size ≤ 56 := by rw [ByteArray.size_append]; show v.size + 6 ≤ _; omega
          obtain ⟨v1, hv1⟩ : ∃ v1, v1 = v ++ (⟨#[102, 111, 108, 100, 115, 32]⟩ : ByteArray) := ⟨_, rfl⟩
          rw [← hv1] at b1 hz1
          have b2 : ∀ W, (Op.stringOp .add v1 f).run Tryz.prog W = .ok (.string (v1 ++ f)) W := fun W => run_string_add_sum W _ _ (by omega)
          have hz2 : (v1 ++ f).size ≤ 76 := by rw [ByteArray.size_append]; omega
          obtain ⟨v2, hv2⟩ : ∃ v2, v2 = v1 ++ f := ⟨_, rfl⟩
          rw [← hv2] at b2 hz2
          have b3 : ∀ W, (Op.stringOp .add v2 ⟨#[10]⟩).run Tryz.prog W = .ok (.string (v2 ++ ⟨#[10]⟩)) W := fun W => run_string_add_sum W _ _ (by show v2.size + 1 ≤ _; omega)
          have hz3 : (v2 ++ (⟨#[10]⟩ : ByteArray)).size ≤ 77 := by rw [ByteArray.size_append]; show v2.size + 1 ≤ _; omega
          obtain ⟨v3, hv3⟩ : ∃ v3, v3 = v2 ++ (⟨#[10]⟩ : ByteArray) := ⟨_, rfl⟩
          rw [← hv3] at b3 hz3
          clear hv1 hv2 hv3 h4 b0 hz0 hz1 hz2
          go_wp2_with fail
          refine (spec_pick wf r A cap bs (q3 + 1) 6 HRT.out (by omega) (by omega)).mono ?_
          rintro e wa ⟨n, rfl, hn, Ra, ga⟩
          have hn6 : n ≤ 6 := by omega
          have HRa := Lib.hid Ra
          have HGa := Lib.hid (HGT.out.trans ga)
          clear Ra ga hn HRT HGT
          go_wp2_with fail
          go_loopg [4, 9] (n + 1) (fun gg s4 s9 wr => ∃ (i q2 : Nat) (t : ByteArray), i ≤ n ∧ s9 = .int .i64 i ∧ s4 = .string t ∧ t.size ≤ 200 + 41 * i ∧ n - i < gg ∧ q2 ≤ 400 + 10 * i ∧ Hid (Rd wr r A cap bs q2) ∧ Hid (w1.grownBy wr (some r)))
          case atStart => exact ⟨0, _, v3, Nat.zero_le _, rfl, rfl, by first | omega | decide, by omega, by omega, HRa, HGa⟩
          case round =>
            clear HRa HGa
            obtain ⟨i, q2, t, hi, rfl, rfl, hts, hg, hq2, HR2, HG2⟩ := hrel
            cases gk with
            | zero => omega
            | succ gl =>
            by_cases hlt : i < n
            · have i1 : (i : Int) < (n : Int) := by omega
              go_wp2_with fail
              refine (spec_l92Line wr r A cap bs q2 HR2.out (by omega)).mono ?_
              rintro e wb ⟨u, q3, rfl, hu, hq3, Rb, gb⟩
              have HRb := Lib.hid Rb
              have HGb := Lib.hid (HG2.out.trans gb)
              have b1 : ∀ W, (Op.stringOp .add t u).run Tryz.prog W = .ok (.string (t ++ u)) W := fun W => run_string_add_sum W _ _ (by omega)
              have hz : (t ++ u).size ≤ 240 + 41 * i := by rw [ByteArray.size_append]; omega
              obtain ⟨v, hv⟩ : ∃ v, v = t ++ u := ⟨_, rfl⟩
              rw [← hv] at b1 hz
              have b2 : ∀ W, (Op.stringOp .add v ⟨#[10]⟩).run Tryz.prog W = .ok (.string (v ++ ⟨#[10]⟩)) W := fun W => run_string_add_sum W _ _ (by show v.size + 1 ≤ _; omega)
              have hz2 : (v ++ (⟨#[10]⟩ : ByteArray)).size ≤ 200 + 41 * (i + 1) := by rw [ByteArray.size_append]; show v.size + 1 ≤ _; omega
              clear Rb gb hv HR2 HG2
              go_wp2_with fail
              go_roundg gl
              case measure => omega
              case rel => exact ⟨i + 1, q3, _, by omega, by go_num, rfl, hz2, by omega, by omega, HRb, HGb⟩
            · obtain rfl : i = n := by omega
              have hts2 : t.size ≤ 1000 := by omega
              go_wp2_with fail
              refine (spec_pick wr r A cap bs q2 24 HR2.out (by omega) (by omega)).mono ?_
              rintro e wc ⟨k9, rfl, _, Rc, gc⟩
              have HGc := Lib.hid (HG2.out.trans gc)
              clear Rc gc HG2 HR2
              by_cases v0 : k9 = 0
              · subst v0
                have b1 : ∀ W, (Op.stringOp .add t ⟨#[109, 97, 110, 121]⟩).run Tryz.prog W = .ok (.string (t ++ ⟨#[109, 97, 110, 121]⟩)) W := fun W => run_string_add_sum W _ _ (by show t.size + 4 ≤ _; omega)
                have hz : (t ++ (⟨#[109, 97, 110, 121]⟩ : ByteArray)).size ≤ 10000 := by rw [ByteArray.size_append]; show t.size + 4 ≤ _; omega
                go_wp2_with fail
                go_ret
                exact ⟨_, rfl, hz, HFIN.out _ HGc.out⟩
              · have e0 : ((k9 : Int) == 0) = false := by rw [beq_eq_false_iff_ne]; omega
                by_cases v1 : k9 = 1
                · subst v1
                  clear e0 v0
                  go_wp2_with fail
                  refine (spec_l6ManyB ⟨#[109, 97, 110, 121, 10]⟩ 90 wc (by decide) (by decide) (by decide)).mono ?_
                  rintro e wd ⟨u, rfl, hu, hbd⟩
                  have HGd := Lib.hid (grown_below HGc.out (hbd.mono HGc.out.size))
                  have b1 : ∀ W, (Op.stringOp .add t u).run Tryz.prog W = .ok (.string (t ++ u)) W := fun W => run_string_add_sum W _ _ (by omega)
                  have hz : (t ++ u).size ≤ 10000 := by rw [ByteArray.size_append]; omega
                  clear hbd HGc
                  go_wp2_with fail
                  go_ret
                  exact ⟨_, rfl, hz, HFIN.out _ HGd.out⟩
                · have e1 : ((k9 : Int) == 1) = false := by rw [beq_eq_false_iff_ne]; omega
                  clear v0 v1
                  go_wp2_with fail
                  go_ret
                  exact ⟨t, rfl, by omega, HFIN.out _ HGc.out⟩
end Go.Proofs.YtkdlipbegdiaaaaGreatDoor
