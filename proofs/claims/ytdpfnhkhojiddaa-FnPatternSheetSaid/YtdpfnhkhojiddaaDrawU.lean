/- Drawn sheets and cells. No condition but sizes. -/
import Derived.Test.YtdpfnhkhojiddaaSheetC
import Derived.Test.YtdpfnhkhojiddaaReadB
namespace Go.Proofs.Ytdpfnhkhojiddaa
open Go.RowKit

theorem Rd.farU {w : World} {r : Nat} {A : Option Addr} {cap : Nat} {bs : List UInt8} {q : Nat} (h : Rd w r A cap bs q) (o : Obj) : Rd (w.alloc o) r A cap bs q := by
  refine ⟨h.blk.alloc o, fun hn => ?_, h.len⟩
  obtain ⟨b, off, e, hb, hc⟩ := h.codes hn
  refine ⟨b, off, e, hb, fun k c hk => ?_⟩
  have hlt : b < w.heap.size := Nat.lt_trans hb h.blk.lt
  exact (((Below.refl w.heap.size w).alloc (Nat.le_refl _) o).cell (p := ⟨b, off + k, none⟩) hlt).trans (hc k c hk)
theorem grown_allocU (w : World) (o : Obj) (row : Option Nat) : w.grownBy (w.alloc o) row := World.grownBy_alloc w o row
theorem app_list (a b : ByteArray) : (a ++ b).data.toList = a.data.toList ++ b.data.toList := by rw [ByteArray.data_append, Array.toList_append]
/-- all letters fold -/
def LetP (s : ByteArray) : Prop := ∀ c ∈ s.data.toList, (wideL c || highB c) = true
theorem LetP.app {a b : ByteArray} (h : LetP a) (h' : LetP b) : LetP (a ++ b) := by
  intro c hc
  rw [app_list] at hc
  rcases List.mem_append.1 hc with hc | hc
  · exact h c hc
  · exact h' c hc
theorem shB_let {s : ByteArray} (h : LetP s) (hs : s.size ≤ 5) : shB s.data.toList = true := by
  unfold shB
  rw [Bool.and_eq_true, decide_eq_true_eq, size_listX]
  exact ⟨hs, List.all_eq_true.2 h⟩
theorem drawT_short {s : ByteArray} (h : s.size ≤ 4) : DrawT s.data.toList := fun _ => Or.inl (by rw [size_listX]; exact h)
theorem drawT_bad {a b : ByteArray} {c : UInt8} (hc : c ∈ b.data.toList) (hn : (wideL c || highB c) = false) : DrawT (a ++ b).data.toList := by
  intro h
  have := (shB_parts h).2 c (by rw [app_list]; exact List.mem_append_right _ hc)
  rw [hn] at this; cases this
/-- the cells of drawn strings -/
theorem str_cells (w : World) (ss : List ByteArray) (t : TypeId) : ∀ k s, ss[k]? = some s → (w.alloc (.cells (ss.map Value.string).toArray t)).cell? ⟨w.heap.size, k, none⟩ = some (.string s) := by
  intro k s hk
  rw [(Blk.new w t (ss.map Value.string).toArray).cell k]
  simp [hk]
def eightL : List ByteArray := [⟨#[82]⟩, ⟨#[76]⟩, ⟨#[85]⟩, ⟨#[68]⟩, ⟨#[114]⟩, ⟨#[108]⟩, ⟨#[117]⟩, ⟨#[100]⟩]
def badL : List ByteArray := [⟨#[120]⟩, ⟨#[77]⟩, ⟨#[32]⟩]
set_option maxHeartbeats 2000000 in
set_option maxRecDepth 100000 in
theorem spec_l92Sheet (w : World) (r : Nat) (A : Option Addr) (cap : Nat) (bs : List UInt8) (q : Nat) (h : Rd w r A cap bs q) (hq : q ≤ 800000) :
    Calls Try.prog 29 #[ptr r] w fun e w' => ∃ (s : ByteArray) (q' : Nat), e = .returned (.string s) ∧ DrawT s.data.toList ∧ s.size ≤ 40 ∧ q' ≤ q + 100 ∧ Rd w' r A cap bs q' ∧ w.grownBy w' (some r) := by
  go_enter Try.func29, Try.ntmps29
  go_wp2_with fail
  refine (spec_pick w r A cap bs q 5 h (by omega) (by omega)).mono ?_
  rintro e w1 ⟨n, rfl, hn, R1, g1⟩
  have hn5 : n ≤ 4 := by omega
  have HG1 := Lib.hid g1
  have HR1 := Lib.hid R1
  clear hn g1 R1 h
  go_wp2_with fail
  go_loopg [3, 5] (n + 1) (fun g s4 s6 wr => ∃ (i : Nat) (t : ByteArray), i ≤ n ∧ s6 = .int .i64 i ∧ s4 = .string t ∧ t.size ≤ 100 ∧ Hid (t.size = i) ∧ n - i < g ∧ Hid (Rd wr r A cap bs (q + 1 + i)) ∧ Hid (w.grownBy wr (some r)))
  case atStart => exact ⟨0, ByteArray.empty, Nat.zero_le _, rfl, rfl, by decide, rfl, by omega, HR1, HG1⟩
  case round =>
    clear HR1 HG1
    obtain ⟨i, t, hi, rfl, rfl, hts, HT, hg, HR, HG⟩ := hrel
    cases gk with
    | zero => omega
    | succ g =>
    by_cases hlt : i < n
    · have hrl := HR.out.blk.lt
      have R2 := HR.out.farU (.cells #[.string ⟨#[82]⟩, .string ⟨#[76]⟩, .string ⟨#[85]⟩, .string ⟨#[68]⟩, .string ⟨#[114]⟩, .string ⟨#[108]⟩, .string ⟨#[117]⟩, .string ⟨#[100]⟩] 9)
      have hgr2 := HG.out.trans (grown_allocU wr (.cells #[.string ⟨#[82]⟩, .string ⟨#[76]⟩, .string ⟨#[85]⟩, .string ⟨#[68]⟩, .string ⟨#[114]⟩, .string ⟨#[108]⟩, .string ⟨#[117]⟩, .string ⟨#[100]⟩] 9) (some r))
      have hcell := str_cells wr eightL 9
      have HG2 := Lib.hid hgr2
      clear HR HG hgr2
      go_wp2_with fail
      refine (spec_of _ r A cap bs (q + 1 + i) wr.heap.size 8 eightL R2 (by omega) (by decide) (by decide) (by omega) (by simp) hcell).mono ?_
      rintro e w2 ⟨s, hs, rfl, R3, hgr3⟩
      have HG4 := Lib.hid (HG2.out.trans hgr3)
      have hs1 : s.size = 1 := by
        simp [eightL] at hs
        rcases hs with rfl | rfl | rfl | rfl | rfl | rfl | rfl | rfl <;> rfl
      have h63 : t.size + s.size ≤ 9223372036854775807 := by omega
      have b12 : ∀ W, (Op.stringOp .add t s).run Try.prog W = .ok (.string (t ++ s)) W := fun W => run_string_add_sum W _ _ h63
      have HS := Lib.hid hs1
      have HR3 := Lib.hid R3
      have hi100 : i + 1 ≤ 100 := by omega
      clear hs hcell hs1 h63 hgr3 R2 R3 HG2
      go_wp2_with fail
      go_roundg g
      case measure => omega
      case rel => exact ⟨i + 1, t ++ s, by omega, by go_num, rfl, by rw [ByteArray.size_append, HS.out, HT.out]; exact hi100, by show _ = _; rw [ByteArray.size_append, HS.out, HT.out], by omega, HR3, HG4⟩
    · obtain rfl : i = n := by omega
      have hti : t.size ≤ 4 := by rw [HT.out]; exact hn5
      go_wp2_with fail
      refine (spec_pick wr r A cap bs (q + 1 + i) 24 HR.out (by omega) (by omega)).mono ?_
      rintro e w3 ⟨k, rfl, _, R3, hgr3⟩
      have HG3 := Lib.hid (HG.out.trans hgr3)
      have HR3 := Lib.hid R3
      clear R3 hgr3 HG HR
      by_cases hk0 : k = 0
      · have d1 : ((k : Int) == 0) = true := by rw [beq_iff_eq]; omega
        clear hk0
        have hrl := HR3.out.blk.lt
        have R2 := HR3.out.farU (.cells #[.string ⟨#[120]⟩, .string ⟨#[77]⟩, .string ⟨#[32]⟩] 9)
        have hgr2 := HG3.out.trans (grown_allocU w3 (.cells #[.string ⟨#[120]⟩, .string ⟨#[77]⟩, .string ⟨#[32]⟩] 9) (some r))
        have hcell := str_cells w3 badL 9
        have HG2 := Lib.hid hgr2
        clear HR3 HG3 hgr2
        go_wp2_with fail
        refine (spec_of _ r A cap bs (q + 1 + i + 1) w3.heap.size 3 badL R2 (by omega) (by decide) (by decide) (by omega) (by simp) hcell).mono ?_
        rintro e w5 ⟨s, hs, rfl, R5, hgr5⟩
        have HG5 := Lib.hid (HG2.out.trans hgr5)
        have HR5 := Lib.hid R5
        have hs1 : s.size ≤ 2 := by
          simp [badL] at hs
          rcases hs with rfl | rfl | rfl <;> decide
        have hD : DrawT (t ++ s).data.toList := by
          simp [badL] at hs
          rcases hs with rfl | rfl | rfl
          · exact drawT_bad (c := 120) (by decide) (by decide)
          · exact drawT_bad (c := 77) (by decide) (by decide)
          · exact drawT_bad (c := 32) (by decide) (by decide)
        have b12 : ∀ W, (Op.stringOp .add t s).run Try.prog W = .ok (.string (t ++ s)) W := fun W => run_string_add_sum W _ _ (by omega)
        have hz : (t ++ s).size ≤ 40 := by rw [ByteArray.size_append]; omega
        have HZ := Lib.hid hz
        have HD := Lib.hid hD
        clear hs hcell hs1 hgr5 R2 R5 HG2 hz hD
        go_wp2_with fail
        go_ret
        exact ⟨_, _, rfl, HD.out, HZ.out, by omega, HR5.out, HG5.out⟩
      · have d0 : ((k : Int) == 0) = false := by rw [beq_eq_false_iff_ne]; omega
        by_cases hk1 : k = 1
        · have d1 : ((k : Int) == 1) = true := by rw [beq_iff_eq]; omega
          have HD : Hid (DrawT [82, 85, 68, 76, 114, 108]) := by
            show DrawT _
            intro h
            exact absurd h (by decide)
          clear hk0 hk1
          go_wp2_with fail
          go_ret
          exact ⟨_, _, rfl, HD.out, by decide, by omega, HR3.out, HG3.out⟩
        · have d1 : ((k : Int) == 1) = false := by rw [beq_eq_false_iff_ne]; omega
          by_cases hk2 : k = 2
          · have d2 : ((k : Int) == 2) = true := by rw [beq_iff_eq]; omega
            have HD : Hid (DrawT [82, 85, 76, 68, 114]) := fun _ => Or.inr rfl
            clear hk0 hk1 hk2
            go_wp2_with fail
            go_ret
            exact ⟨_, _, rfl, HD.out, by decide, by omega, HR3.out, HG3.out⟩
          · have d2 : ((k : Int) == 2) = false := by rw [beq_eq_false_iff_ne]; omega
            have HD := Lib.hid (drawT_short hti)
            clear hk0 hk1 hk2
            go_wp2_with fail
            go_ret
            exact ⟨t, _, rfl, HD.out, by omega, by omega, HR3.out, HG3.out⟩
set_option maxHeartbeats 2000000 in
set_option maxRecDepth 100000 in
theorem spec_l92Cell (w : World) (r : Nat) (A : Option Addr) (cap : Nat) (bs : List UInt8) (q : Nat) (h : Rd w r A cap bs q) (hq : q ≤ 700000) :
    Calls Try.prog 13 #[ptr r] w fun e w' => ∃ (s : ByteArray) (y x : Int), e = .returned (.tuple #[.string s, .int .i64 y, .int .i64 x]) ∧ DrawT s.data.toList ∧ s.size ≤ 40 ∧ (-500 ≤ y ∧ y ≤ 500) ∧ (-500 ≤ x ∧ x ≤ 500) ∧ w.grownBy w' (some r) := by
  go_enter Try.func13, Try.ntmps13
  go_wp2_with fail
  refine (spec_l92Sheet w r A cap bs q h (by omega)).mono ?_
  rintro e w1 ⟨s, q1, rfl, hD, hs, hq1, R1, g1⟩
  have HD := Lib.hid hD
  have HR1 := Lib.hid R1
  have HG1 := Lib.hid g1
  have HZ := Lib.hid (spec_SheetSize s w1 (by omega))
  clear hD R1 g1 h
  cases hv : shB s.data.toList with
  | false =>
    rw [sizeO_no hv] at HZ
    clear hv
    go_wp2_with fail
    refine HZ.out.mono ?_
    rintro e _ ⟨rfl, rfl⟩
    go_wp2_with fail
    refine (spec_pick w1 r A cap bs q1 5 HR1.out (by omega) (by omega)).mono ?_
    rintro e w2 ⟨k1, rfl, hk1, R2, g2⟩
    have HG2 := Lib.hid (HG1.out.trans g2)
    have hk1' : k1 ≤ 5 := by omega
    clear hk1 g2
    go_wp2_with fail
    refine (spec_pick w2 r A cap bs (q1 + 1) 5 R2 (by omega) (by omega)).mono ?_
    rintro e w3 ⟨k2, rfl, hk2, R3, g3⟩
    have HG3 := Lib.hid (HG2.out.trans g3)
    have hk2' : k2 ≤ 5 := by omega
    clear hk2 g3
    go_wp2_with fail
    go_ret3
    exact ⟨s, _, _, rfl, HD.out, hs, by omega, by omega, HG3.out⟩
  | true =>
    rw [sizeO_yes hv] at HZ
    have hR32 : rowsT s.data.toList ≤ 32 := rowsT_le (shB_parts hv).1
    have hC32 : colsT s.data.toList ≤ 32 := colsT_le (shB_parts hv).1
    obtain ⟨R, hR⟩ : ∃ R, R = rowsT s.data.toList := ⟨_, rfl⟩
    obtain ⟨C, hC⟩ : ∃ C, C = colsT s.data.toList := ⟨_, rfl⟩
    rw [← hR, ← hC] at HZ
    rw [← hR] at hR32
    rw [← hC] at hC32
    clear hv hR hC
    go_wp2_with fail
    refine HZ.out.mono ?_
    rintro e _ ⟨rfl, rfl⟩
    go_wp2_with fail
    refine (spec_pick w1 r A cap bs q1 16 HR1.out (by omega) (by omega)).mono ?_
    rintro e w2 ⟨k0, rfl, _, R2, g2⟩
    have HG2 := Lib.hid (HG1.out.trans g2)
    clear g2
    by_cases h0 : k0 = 0
    · have d0 : ((k0 : Int) == 0) = true := by rw [beq_iff_eq]; omega
      clear h0
      go_wp2_with fail
      refine (spec_pick w2 r A cap bs (q1 + 1) 5 R2 (by omega) (by omega)).mono ?_
      rintro e w3 ⟨k1, rfl, hk1, R3, g3⟩
      have HG3 := Lib.hid (HG2.out.trans g3)
      have hk1' : k1 ≤ 5 := by omega
      clear hk1 g3
      go_wp2_with fail
      refine (spec_pick w3 r A cap bs (q1 + 1 + 1) 5 R3 (by omega) (by omega)).mono ?_
      rintro e w4 ⟨k2, rfl, hk2, R4, g4⟩
      have HG4 := Lib.hid (HG3.out.trans g4)
      have hk2' : k2 ≤ 5 := by omega
      clear hk2 g4
      go_wp2_with fail
      go_ret3
      exact ⟨s, _, _, rfl, HD.out, hs, by omega, by omega, HG4.out⟩
    · have d0 : ((k0 : Int) == 0) = false := by rw [beq_eq_false_iff_ne]; omega
      clear h0
      go_wp2_with fail
      refine (spec_pick w2 r A cap bs (q1 + 1) R R2 (by omega) (by omega)).mono ?_
      rintro e w3 ⟨k1, rfl, hk1, R3, g3⟩
      have HG3 := Lib.hid (HG2.out.trans g3)
      have hk1' : k1 ≤ 40 := by omega
      clear hk1 g3
      go_wp2_with fail
      refine (spec_pick w3 r A cap bs (q1 + 1 + 1) C R3 (by omega) (by omega)).mono ?_
      rintro e w4 ⟨k2, rfl, hk2, R4, g4⟩
      have HG4 := Lib.hid (HG3.out.trans g4)
      have hk2' : k2 ≤ 40 := by omega
      clear hk2 g4
      go_wp2_with fail
      go_ret3
      exact ⟨s, _, _, rfl, HD.out, hs, by omega, by omega, HG4.out⟩
theorem below_of_grownU {w w1 w2 : World} {r : Nat} (h1 : Below w.heap.size w w1) (h2 : w1.grownBy w2 (some r)) (hr : w.heap.size ≤ r) (hs : w.heap.size ≤ w1.heap.size) : Below w.heap.size w w2 :=
  h1.grown h2 hs (fun g e => by cases e; exact hr)
def wideS : List ByteArray := [⟨#[82]⟩, ⟨#[76]⟩, ⟨#[114]⟩, ⟨#[108]⟩]
def highS : List ByteArray := [⟨#[85]⟩, ⟨#[68]⟩, ⟨#[117]⟩, ⟨#[100]⟩]
def moreS : List ByteArray := [⟨#[82]⟩, ⟨#[108]⟩, ⟨#[85]⟩, ⟨#[100]⟩, ⟨#[76, 114]⟩, ⟨#[117, 68]⟩, ⟨#[85, 114]⟩, ⟨#[108, 68]⟩]
theorem letP_in {L : List ByteArray} (h : L.all (fun s => s.data.toList.all fun c => wideL c || highB c) = true) {s : ByteArray} (hs : s ∈ L) : LetP s := by
  have := List.all_eq_true.1 h s hs
  exact List.all_eq_true.1 this
set_option maxHeartbeats 4000000 in
set_option maxRecDepth 100000 in
theorem spec_DrawSheetCorner (w : World) (A : Option Addr) (cap : Nat) (bs0 : List UInt8) (h : Codes w w.heap.size A bs0) (hl : bs0.length ≤ 1048576) (hcap : bs0.length ≤ cap) (hcm : cap ≤ maxLen) :
    Calls Try.prog 5 #[.slice A bs0.length cap] w fun e w' => ∃ (s : ByteArray) (y x : Int), e = .returned (.tuple #[.string s, .int .i64 y, .int .i64 x]) ∧ DrawT s.data.toList ∧ s.size ≤ 40 ∧ (-500 ≤ y ∧ y ≤ 500) ∧ (-500 ≤ x ∧ x ≤ 500) ∧ Below w.heap.size w w' := by
  go_enter Try.func5, Try.ntmps5
  go_wp2_with fail
  refine (spec_l6Open w A cap bs0 h hl hcap hcm).mono ?_
  rintro e w0 ⟨bs, rfl, R0, hb0⟩
  clear h hl hcap hcm
  obtain ⟨r, hr⟩ : ∃ r, r = w.heap.size := ⟨_, rfl⟩
  have HRR := Lib.hid hr
  have HB0 := Lib.hid hb0
  rw [← hr] at R0 ⊢
  have R1 := R0.farU (.cells #[.string ⟨#[82]⟩, .string ⟨#[76]⟩, .string ⟨#[114]⟩, .string ⟨#[108]⟩] 9)
  have hrl0 := R0.blk.lt
  have hcell := str_cells w0 wideS 9
  clear hr hb0
  go_wp2_with fail
  refine (spec_of _ r A cap bs 0 w0.heap.size 4 wideS R1 (by omega) (by decide) (by decide) (by omega) (by simp) hcell).mono ?_
  rintro e w1 ⟨s1, hs1, rfl, R2, g2⟩
  have HG2 := Lib.hid ((grown_allocU w0 (.cells #[.string ⟨#[82]⟩, .string ⟨#[76]⟩, .string ⟨#[114]⟩, .string ⟨#[108]⟩] 9) (some r)).trans g2)
  have hz1 : s1.size = 1 := by
    simp [wideS] at hs1
    rcases hs1 with rfl | rfl | rfl | rfl <;> rfl
  have HL1 := Lib.hid (letP_in (L := wideS) (by decide) hs1)
  have R3 := R2.farU (.cells #[.string ⟨#[85]⟩, .string ⟨#[68]⟩, .string ⟨#[117]⟩, .string ⟨#[100]⟩] 9)
  have hcell2 := str_cells w1 highS 9
  have hrl2 := R2.blk.lt
  clear hs1 hcell g2 R1 R0
  go_wp2_with fail
  refine (spec_of _ r A cap bs (0 + 1) w1.heap.size 4 highS R3 (by omega) (by decide) (by decide) (by omega) (by simp) hcell2).mono ?_
  rintro e w2 ⟨s2, hs2, rfl, R4, g4⟩
  have HG4 := Lib.hid ((HG2.out.trans (grown_allocU w1 (.cells #[.string ⟨#[85]⟩, .string ⟨#[68]⟩, .string ⟨#[117]⟩, .string ⟨#[100]⟩] 9) (some r))).trans g4)
  have hz2 : s2.size = 1 := by
    simp [highS] at hs2
    rcases hs2 with rfl | rfl | rfl | rfl <;> rfl
  have HL2 := Lib.hid (letP_in (L := highS) (by decide) hs2)
  have b12 : ∀ W, (Op.stringOp .add s1 s2).run Try.prog W = .ok (.string (s1 ++ s2)) W := fun W => run_string_add_sum W _ _ (by omega)
  obtain ⟨t, ht⟩ : ∃ t, t = s1 ++ s2 := ⟨_, rfl⟩
  have htz : t.size = 2 := by rw [ht, ByteArray.size_append]; omega
  have HLT : Hid (LetP t) := by show LetP t; rw [ht]; exact HL1.out.app HL2.out
  rw [← ht] at b12
  have HR4 := Lib.hid R4
  clear hs2 hcell2 g4 R2 R3 R4 ht HG2 HL1 HL2
  go_wp2_with fail
  refine (spec_pick w2 r A cap bs (0 + 1 + 1) 3 HR4.out (by omega) (by omega)).mono ?_
  rintro e w3 ⟨k, rfl, _, R5, g5⟩
  have HG5 := Lib.hid (HG4.out.trans g5)
  have HR5 := Lib.hid R5
  clear R5 g5 HG4 HR4
  by_cases hk0 : k = 0
  · have d0 : ((k : Int) == 0) = true := by rw [beq_iff_eq]; omega
    clear hk0
    go_wp2_with fail
    refine (spec_l92Cell w3 r A cap bs (0 + 1 + 1 + 1) HR5.out (by omega)).mono ?_
    rintro e w4 ⟨s, y, x, rfl, hD, hs, hy, hx, g6⟩
    have HB := Lib.hid (below_of_grownU HB0.out (HG5.out.trans g6) (by rw [HRR.out]; exact Nat.le_refl _) HB0.out.size)
    go_wp2_with fail
    go_ret3
    exact ⟨s, y, x, rfl, hD, hs, hy, hx, HB.out⟩
  · have d0 : ((k : Int) == 0) = false := by rw [beq_eq_false_iff_ne]; omega
    clear hk0
    go_wp2_with fail
    refine (spec_pick w3 r A cap bs (0 + 1 + 1 + 1) 3 HR5.out (by omega) (by omega)).mono ?_
    rintro e w4 ⟨m, rfl, _, R6, g6⟩
    have HG6 := Lib.hid (HG5.out.trans g6)
    have HR6 := Lib.hid R6
    clear R6 g6 HG5 HR5
    by_cases hm0 : m = 0
    · subst hm0
      have hv := shB_let HLT.out (by omega)
      have HZ := Lib.hid (fun W : World => spec_SheetSize t W (by omega))
      rw [sizeO_yes hv] at HZ
      have hR32 : rowsT t.data.toList ≤ 32 := rowsT_le (shB_parts hv).1
      have hC32 : colsT t.data.toList ≤ 32 := colsT_le (shB_parts hv).1
      have hR0 := rowsT_pos t.data.toList
      have hC0 := colsT_pos t.data.toList
      obtain ⟨R, hR⟩ : ∃ R, rowsT t.data.toList = R + 1 := ⟨rowsT t.data.toList - 1, by omega⟩
      obtain ⟨C, hC⟩ : ∃ C, colsT t.data.toList = C + 1 := ⟨colsT t.data.toList - 1, by omega⟩
      rw [hR, hC] at HZ
      rw [hR] at hR32
      rw [hC] at hC32
      have HZ2 : Hid (∀ W : World, Calls Try.prog 14 #[.string t] W fun e w' => e = .returned (.tuple #[.int .i64 ((R : Int) + 1), .int .i64 ((C : Int) + 1), .bool true]) ∧ W = w') := HZ.out
      have HD := Lib.hid (drawT_short (s := t) (by omega))
      clear hv hR hC hR0 hC0 HZ
      go_wp2_with fail
      refine (HZ2.out w4).mono ?_
      rintro e _ ⟨rfl, rfl⟩
      go_wp2_with fail
      refine (spec_pick w4 r A cap bs (0 + 1 + 1 + 1 + 1) R HR6.out (by omega) (by omega)).mono ?_
      rintro e w5 ⟨k1, rfl, hk1, R7, g7⟩
      have HG7 := Lib.hid (HG6.out.trans g7)
      have hk1' : k1 ≤ 40 := by omega
      clear hk1 g7
      go_wp2_with fail
      refine (spec_pick w5 r A cap bs (0 + 1 + 1 + 1 + 1 + 1) C R7 (by omega) (by omega)).mono ?_
      rintro e w6 ⟨k2, rfl, hk2, R8, g8⟩
      have HB := Lib.hid (below_of_grownU HB0.out (HG7.out.trans g8) (by rw [HRR.out]; exact Nat.le_refl _) HB0.out.size)
      have hk2' : k2 ≤ 40 := by omega
      clear hk2 g8
      go_wp2_with fail
      go_ret3
      exact ⟨t, _, _, rfl, HD.out, by omega, by omega, by omega, HB.out⟩
    · have dm : decide ((0 : Int) < (m : Int)) = true := by simp; omega
      have R7 := HR6.out.farU (.cells #[.string ⟨#[82]⟩, .string ⟨#[108]⟩, .string ⟨#[85]⟩, .string ⟨#[100]⟩, .string ⟨#[76, 114]⟩, .string ⟨#[117, 68]⟩, .string ⟨#[85, 114]⟩, .string ⟨#[108, 68]⟩] 9)
      have hcell3 := str_cells w4 moreS 9
      have hrl4 := HR6.out.blk.lt
      have hm1 : 0 < m := by omega
      clear hm0
      go_wp2_with fail
      refine (spec_of _ r A cap bs (0 + 1 + 1 + 1 + 1) w4.heap.size 8 moreS R7 (by omega) (by decide) (by decide) (by omega) (by simp) hcell3).mono ?_
      rintro e w5 ⟨s3, hs3, rfl, R8, g8⟩
      have HG8 := Lib.hid ((HG6.out.trans (grown_allocU w4 (.cells #[.string ⟨#[82]⟩, .string ⟨#[108]⟩, .string ⟨#[85]⟩, .string ⟨#[100]⟩, .string ⟨#[76, 114]⟩, .string ⟨#[117, 68]⟩, .string ⟨#[85, 114]⟩, .string ⟨#[108, 68]⟩] 9) (some r))).trans g8)
      have hz3 : s3.size ≤ 2 := by
        simp [moreS] at hs3
        rcases hs3 with rfl | rfl | rfl | rfl | rfl | rfl | rfl | rfl <;> decide
      have HL3 := Lib.hid (letP_in (L := moreS) (by decide) hs3)
      have b34 : ∀ W, (Op.stringOp .add t s3).run Try.prog W = .ok (.string (t ++ s3)) W := fun W => run_string_add_sum W _ _ (by omega)
      obtain ⟨u, hu⟩ : ∃ u, u = t ++ s3 := ⟨_, rfl⟩
      have huz : u.size ≤ 4 := by rw [hu, ByteArray.size_append]; omega
      have hlu : LetP u := by rw [hu]; exact HLT.out.app HL3.out
      rw [← hu] at b34
      have hv := shB_let hlu (by omega)
      have HZ := Lib.hid (fun W : World => spec_SheetSize u W (by omega))
      rw [sizeO_yes hv] at HZ
      have hR32 : rowsT u.data.toList ≤ 32 := rowsT_le (shB_parts hv).1
      have hC32 : colsT u.data.toList ≤ 32 := colsT_le (shB_parts hv).1
      have hR0 := rowsT_pos u.data.toList
      have hC0 := colsT_pos u.data.toList
      obtain ⟨R, hR⟩ : ∃ R, rowsT u.data.toList = R + 1 := ⟨rowsT u.data.toList - 1, by omega⟩
      obtain ⟨C, hC⟩ : ∃ C, colsT u.data.toList = C + 1 := ⟨colsT u.data.toList - 1, by omega⟩
      rw [hR, hC] at HZ
      rw [hR] at hR32
      rw [hC] at hC32
      have HZ2 : Hid (∀ W : World, Calls Try.prog 14 #[.string u] W fun e w' => e = .returned (.tuple #[.int .i64 ((R : Int) + 1), .int .i64 ((C : Int) + 1), .bool true]) ∧ W = w') := HZ.out
      have HD := Lib.hid (drawT_short (s := u) huz)
      have HR8 := Lib.hid R8
      clear hv hR hC hR0 hC0 HZ hs3 hcell3 g8 R7 R8 hlu hu HG6 HR6
      go_wp2_with fail
      refine (HZ2.out w5).mono ?_
      rintro e _ ⟨rfl, rfl⟩
      go_wp2_with fail
      refine (spec_pick w5 r A cap bs (0 + 1 + 1 + 1 + 1 + 1) R HR8.out (by omega) (by omega)).mono ?_
      rintro e w6 ⟨k1, rfl, hk1, R9, g9⟩
      have HG9 := Lib.hid (HG8.out.trans g9)
      have hk1' : k1 ≤ 40 := by omega
      clear hk1 g9
      go_wp2_with fail
      refine (spec_pick w6 r A cap bs (0 + 1 + 1 + 1 + 1 + 1 + 1) C R9 (by omega) (by omega)).mono ?_
      rintro e w7 ⟨k2, rfl, hk2, R10, g10⟩
      have HB := Lib.hid (below_of_grownU HB0.out (HG9.out.trans g10) (by rw [HRR.out]; exact Nat.le_refl _) HB0.out.size)
      have hk2' : k2 ≤ 40 := by omega
      clear hk2 g10
      go_wp2_with fail
      go_ret3
      exact ⟨u, _, _, rfl, HD.out, by omega, by omega, by omega, HB.out⟩
end Go.Proofs.Ytdpfnhkhojiddaa
