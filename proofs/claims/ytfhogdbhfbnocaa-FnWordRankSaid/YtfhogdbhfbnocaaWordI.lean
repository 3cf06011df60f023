/- Drawn texts of words. No condition but sizes. -/
import Derived.Test.YtfhogdbhfbnocaaWordB
import Derived.Test.YtfhogdbhfbnocaaWRead
namespace Go.Proofs.Ytfhogdbhfbnocaa
open Go.RowKit

theorem Rd.far' {w : World} {r : Nat} {A : Option Addr} {cap : Nat} {bs : List UInt8} {q : Nat} (h : Rd w r A cap bs q) (o : Obj) : Rd (w.alloc o) r A cap bs q := by
  refine ⟨h.blk.alloc o, fun hn => ?_, h.len⟩
  obtain ⟨b, off, e, hb, hc⟩ := h.codes hn
  refine ⟨b, off, e, hb, fun k c hk => ?_⟩
  have hlt : b < w.heap.size := Nat.lt_trans hb h.blk.lt
  exact (((Below.refl w.heap.size w).alloc (Nat.le_refl _) o).cell (p := ⟨b, off + k, none⟩) hlt).trans (hc k c hk)
theorem World.grownBy_drewN' (w : World) (n : Nat) (row : Option Nat) : w.grownBy (w.drewN n) row := ⟨rfl, rfl, rfl, Nat.le_refl _, fun _ _ _ => rfl⟩
theorem grown_alloc' (w : World) (o : Obj) (row : Option Nat) : w.grownBy (w.alloc o) row := World.grownBy_alloc w o row
set_option maxHeartbeats 1000000 in
theorem spec_l5Of (k : Nat) (s : ByteArray) (w : World) (hk : k ≤ 6) (hs : s.size = k) :
    Calls Try.prog 38 #[.string s] w fun e w' => (∃ t : ByteArray, e = .returned (.string t) ∧ t.size + 1 = 2 ^ k) ∧ w = w' := by
  induction k generalizing s w with
  | zero =>
    have h0 : s = ByteArray.empty := by
      apply ByteArray.ext; apply Array.ext'
      have : s.data.toList = [] := List.eq_nil_of_length_eq_zero (by rw [size_list]; exact hs)
      rw [this]; rfl
    subst h0
    go_enter Try.func38, Try.ntmps38
    go_wp2_with fail
    go_ret
    exact ⟨⟨_, rfl, rfl⟩, rfl⟩
  | succ k ih =>
    have hp : 2 ^ (k + 1) ≤ 64 := Nat.le_trans (Nat.pow_le_pow_right (by omega) hk) (by decide)
    have hp2 : 2 ^ (k + 1) = 2 * 2 ^ k := by rw [Nat.pow_succ]; omega
    have d0 : s.toList.isEmpty = false := by
      rw [ByteArray.toList_eq]
      cases e : s.data.toList with
      | nil =>
        have : s.data.toList.length = 0 := by rw [e]; rfl
        rw [size_list] at this
        omega
      | cons _ _ => rfl
    obtain ⟨T, hT⟩ : ∃ T, T = s.extract 1 s.size := ⟨_, rfl⟩
    have hTs : T.size = k := by rw [hT, ByteArray.size_extract]; omega
    have e1 : s.extract 1 s.size = T := hT.symm
    have s1 : (1 : Int) ≤ (s.size : Int) := by omega
    have s0 : (0 : Int) < (s.size : Int) := by omega
    have hih := fun W : World => ih T W (by omega) hTs
    have HIH := Lib.hid hih
    have HP := Lib.hid hp2
    obtain ⟨P, hP⟩ : ∃ P, P = 2 ^ k := ⟨_, rfl⟩
    have HPP := Lib.hid hP
    rw [← hP] at hp2
    clear hT ih hih hP
    have h0s : 0 < s.size := by omega
    clear hs
    go_enter Try.func38, Try.ntmps38
    go_wp2_with fail
    refine (HIH.out w).mono ?_
    rintro e _ ⟨⟨t, rfl, ht⟩, rfl⟩
    rw [← HPP.out] at ht
    have hts : t.size ≤ 63 := by omega
    obtain ⟨O, hO⟩ : ∃ O, O = bts (othL t.data.toList) := ⟨_, rfl⟩
    have hos : O.size = t.size := by rw [hO]; show (List.toArray _).size = _; rw [List.size_toArray, othL_len, size_list]
    have ho : ∀ W : World, Calls Try.prog 31 #[.string t] W fun e w' => e = .returned (.string O) ∧ W = w' := fun W => by
      rw [hO]; exact spec_l5Other t W (by omega)
    have HO := Lib.hid ho
    clear hO ho
    have fin : ∀ (m : ByteArray), m.size = 1 → ∀ (a b : ByteArray), a.size = t.size → b.size = t.size → (a ++ m ++ b).size + 1 = 2 ^ (k + 1) := fun m hm a b ha hb => by
      rw [ByteArray.size_append, ByteArray.size_append, HP.out, ← HPP.out]; omega
    have FIN := Lib.hid fin
    have b1 : ∀ (m a : ByteArray) (W : World), m.size = 1 → a.size = t.size → (Op.stringOp .add a m).run Try.prog W = .ok (.string (a ++ m)) W := fun m a W hm ha => run_string_add_sum W _ _ (by omega)
    have b2 : ∀ (m a b : ByteArray) (W : World), m.size = 1 → a.size = t.size → b.size = t.size → (Op.stringOp .add (a ++ m) b).run Try.prog W = .ok (.string (a ++ m ++ b)) W := fun m a b W hm ha hb => run_string_add_sum W _ _ (by rw [ByteArray.size_append]; omega)
    have a1 := fun W => b1 (ByteArray.mk #[86]) t W rfl rfl
    have a2 := fun W => b2 (ByteArray.mk #[86]) t O W rfl rfl hos
    have a3 := fun W => b1 (ByteArray.mk #[86]) O W rfl hos
    have a4 := fun W => b2 (ByteArray.mk #[86]) O t W rfl hos rfl
    have a5 := fun W => b1 (ByteArray.mk #[77]) t W rfl rfl
    have a6 := fun W => b2 (ByteArray.mk #[77]) t O W rfl rfl hos
    have a7 := fun W => b1 (ByteArray.mk #[77]) O W rfl hos
    have a8 := fun W => b2 (ByteArray.mk #[77]) O t W rfl hos rfl
    clear fin b1 b2 hp hp2
    have HOS := Lib.hid hos
    clear hos
    go_wp2_with (go_at_call 31; refine (HO.out _).mono ?_; rintro e _ ⟨rfl, rfl⟩)
    all_goals
      try go_wp2_with fail
      go_ret
      first
        | exact ⟨⟨_, rfl, FIN.out (ByteArray.mk #[86]) rfl t O rfl HOS.out⟩, rfl⟩
        | exact ⟨⟨_, rfl, FIN.out (ByteArray.mk #[86]) rfl O t HOS.out rfl⟩, rfl⟩
        | exact ⟨⟨_, rfl, FIN.out (ByteArray.mk #[77]) rfl t O rfl HOS.out⟩, rfl⟩
        | exact ⟨⟨_, rfl, FIN.out (ByteArray.mk #[77]) rfl O t HOS.out rfl⟩, rfl⟩
set_option maxHeartbeats 2000000 in
set_option maxRecDepth 100000 in
theorem spec_l92Word (w : World) (r : Nat) (A : Option Addr) (cap : Nat) (bs : List UInt8) (q : Nat) (h : Rd w r A cap bs q) (hq : q ≤ 800000) :
    Calls Try.prog 30 #[ptr r, .int .i64 5] w fun e w' => ∃ s : ByteArray, e = .returned (.string s) ∧ s.size ≤ 40 ∧ w.grownBy w' (some r) := by
  go_enter Try.func30, Try.ntmps30
  go_wp2_with fail
  refine (spec_pick w r A cap bs q 6 h (by omega) (by omega)).mono ?_
  rintro e w1 ⟨n, rfl, hn, R1, g1⟩
  have hn5 : n ≤ 5 := by omega
  have HG1 := Lib.hid g1
  have HR1 := Lib.hid R1
  clear hn g1 R1
  go_wp2_with fail
  go_loopg [5, 7] (n + 1) (fun g s5 s7 wr => ∃ (i : Nat) (t : ByteArray), i ≤ n ∧ s7 = .int .i64 i ∧ s5 = .string t ∧ t.size ≤ 100 ∧ Hid (t.size = i) ∧ n - i < g ∧ Hid (Rd wr r A cap bs (q + 1 + i)) ∧ Hid (w.grownBy wr (some r)))
  case atStart => exact ⟨0, ByteArray.empty, Nat.zero_le _, rfl, rfl, by decide, rfl, by omega, HR1, HG1⟩
  case round =>
    clear HR1 HG1
    obtain ⟨i, t, hi, rfl, rfl, hts, HT, hg, HR, HG⟩ := hrel
    cases gk with
    | zero => omega
    | succ g =>
    by_cases hlt : i < n
    · have hrl := HR.out.blk.lt
      have R2 := HR.out.far' (.cells #[.string ⟨#[82]⟩, .string ⟨#[114]⟩, .string ⟨#[76]⟩, .string ⟨#[108]⟩] 9)
      have hgr2 := HG.out.trans (grown_alloc' wr (.cells #[.string ⟨#[82]⟩, .string ⟨#[114]⟩, .string ⟨#[76]⟩, .string ⟨#[108]⟩] 9) (some r))
      have hcell : ∀ k s, [ByteArray.mk #[82], ByteArray.mk #[114], ByteArray.mk #[76], ByteArray.mk #[108]][k]? = some s → (wr.alloc (.cells #[.string ⟨#[82]⟩, .string ⟨#[114]⟩, .string ⟨#[76]⟩, .string ⟨#[108]⟩] 9)).cell? ⟨wr.heap.size, k, none⟩ = some (.string s) := by
        intro k s hk
        rw [(Blk.new wr 9 #[.string ⟨#[82]⟩, .string ⟨#[114]⟩, .string ⟨#[76]⟩, .string ⟨#[108]⟩]).cell k]
        match k, hk with
        | 0, hk => cases hk; rfl
        | 1, hk => cases hk; rfl
        | 2, hk => cases hk; rfl
        | 3, hk => cases hk; rfl
      have HG2 := Lib.hid hgr2
      clear HR HG hgr2
      go_wp2_with fail
      refine (spec_of _ r A cap bs (q + 1 + i) wr.heap.size 4 [ByteArray.mk #[82], ByteArray.mk #[114], ByteArray.mk #[76], ByteArray.mk #[108]] R2 (by omega) (by decide) (by decide) (by omega) (by simp) hcell).mono ?_
      rintro e w2 ⟨s, hs, rfl, R3, hgr3⟩
      have HG4 := Lib.hid (HG2.out.trans hgr3)
      have hs1 : s.size = 1 := by
        simp at hs
        rcases hs with rfl | rfl | rfl | rfl <;> rfl
      have h63 : t.size + s.size ≤ 9223372036854775807 := by omega
      have b12 : ∀ W, (Op.stringOp .add t s).run Try.prog W = .ok (.string (t ++ s)) W := fun W => run_string_add_sum W _ _ h63
      have HS := Lib.hid hs1
      have HR3 := Lib.hid R3
      have hi100 : i + 1 ≤ 100 := by omega
      clear hs hcell hs1 h63 hgr3 R2 R3 HG2
      go_wp2_with fail
      go_roundg g
      case measure => omega
      case rel => exact ⟨i + 1, t ++ s, by omega, by go_num, rfl, by rw [ByteArray.size_append, HS.out, HT.out]; exact hi100, by show _ = _; rw [ByteArray.size_append, HS.out, HT.out], by omega, HR3, HG4⟩
    · obtain rfl : i = n := by omega
      have hp : 2 ^ i ≤ 32 := Nat.le_trans (Nat.pow_le_pow_right (by omega) hn5) (by decide)
      have HP := Lib.hid hp
      clear hp
      go_wp2_with fail
      refine (spec_l5Of i t wr (by omega) HT.out).mono ?_
      rintro e _ ⟨⟨u, rfl, hu⟩, rfl⟩
      have hus : u.size ≤ 31 := by have := HP.out; omega
      clear hu
      go_wp2_with fail
      refine (spec_pick wr r A cap bs (q + 1 + i) 8 HR.out (by omega) (by omega)).mono ?_
      rintro e w3 ⟨k, rfl, _, R3, hgr3⟩
      have HG3 := Lib.hid (HG.out.trans hgr3)
      have HR3 := Lib.hid R3
      clear R3 hgr3 HG HR
      by_cases hk0 : k = 0
      · subst hk0
        by_cases hu0 : u.size = 0
        · have p0 : ¬ (0 < u.size) := by omega
          have d0 : decide ((0 : Int) < (u.size : Int)) = false := decide_eq_false (by omega)
          clear hu0
          go_wp2_with fail
          go_ret
          exact ⟨u, rfl, by omega, HG3.out⟩
        · have p0 : 0 < u.size := by omega
          have d0 : decide ((0 : Int) < (u.size : Int)) = true := decide_eq_true (by omega)
          clear hu0
          go_wp2_with fail
          refine (spec_pick w3 r A cap bs (q + 1 + i + 1) u.size HR3.out (by omega) (by omega)).mono ?_
          rintro e w4 ⟨m, rfl, hm, R4, hgr4⟩
          have HG4 := Lib.hid (HG3.out.trans hgr4)
          have hms : m < u.size := by omega
          clear R4 hgr4 hm HG3 HR3
          obtain ⟨E1, hE1⟩ : ∃ E, E = u.extract 0 m := ⟨_, rfl⟩
          obtain ⟨E2, hE2⟩ : ∃ E, E = u.extract m (m + 1) := ⟨_, rfl⟩
          obtain ⟨E3, hE3⟩ : ∃ E, E = u.extract (m + 1) u.size := ⟨_, rfl⟩
          have z1 : E1.size = m := by rw [hE1, ByteArray.size_extract]; omega
          have z2 : E2.size = 1 := by rw [hE2, ByteArray.size_extract]; omega
          have z3 : E3.size ≤ 31 := by rw [hE3, ByteArray.size_extract]; omega
          have z4 : (swT E2).size = 1 := by rw [swT_size]; exact z2
          have e1 : u.extract 0 m = E1 := hE1.symm
          have e2 : u.extract m (m + 1) = E2 := hE2.symm
          have e3 : u.extract (m + 1) u.size = E3 := hE3.symm
          have z5 : E1.size + E3.size ≤ 31 := by rw [hE1, hE3, ByteArray.size_extract, ByteArray.size_extract]; omega
          have hf : ∀ W : World, Calls Try.prog 39 #[.string E2] W fun e w' => e = .returned (.string (swT E2)) ∧ W = w' := fun W => spec_FoldsSwap E2 W (by omega)
          obtain ⟨F, hF⟩ : ∃ F, F = swT E2 := ⟨_, rfl⟩
          rw [← hF] at z4 hf
          have HF := Lib.hid hf
          have a1 : ∀ W, (Op.stringOp .add E1 F).run Try.prog W = .ok (.string (E1 ++ F)) W := fun W => run_string_add_sum W _ _ (by omega)
          have a2 : ∀ W, (Op.stringOp .add (E1 ++ F) E3).run Try.prog W = .ok (.string (E1 ++ F ++ E3)) W := fun W => run_string_add_sum W _ _ (by rw [ByteArray.size_append]; omega)
          have hz : (E1 ++ F ++ E3).size ≤ 40 := by rw [ByteArray.size_append, ByteArray.size_append]; omega
          have HZ := Lib.hid hz
          have m0 : (0 : Int) ≤ (m : Int) := by omega
          have m1 : (m : Int) ≤ (u.size : Int) := by omega
          have m2 : (m : Int) + 1 ≤ (u.size : Int) := by omega
          have m3 : (0 : Int) ≤ (m : Int) + 1 := by omega
          have m4 : (m : Int) ≤ (m : Int) + 1 := by omega
          have mw : IntKind.i64.wrap ((m : Int) + 1) = (m : Int) + 1 := IntWalk.i64_in _ (by omega)
          have mt : ((m : Int) + 1).toNat = m + 1 := by omega
          clear hE1 hE2 hE3 hF hf hz z1 z2 z3 z4 z5
          go_wp2_with fail
          go_quiet ((go_at_call 39; exact quietl (HF.out _)))
          go_wp2_with fail
          go_ret
          exact ⟨_, rfl, HZ.out, HG4.out.trans (World.grownBy_drewN' _ _ _)⟩
      · have d0 : ((k : Int) == 0) = false := by rw [beq_eq_false_iff_ne]; omega
        by_cases hk1 : k = 1
        · have d1 : ((k : Int) == 1) = true := by rw [beq_iff_eq]; omega
          clear hk0 hk1
          have hrl := HR3.out.blk.lt
          have R2 := HR3.out.far' (.cells #[.string ⟨#[120]⟩, .string ⟨#[77]⟩, .string ⟨#[77, 86]⟩] 9)
          have hgr2 := HG3.out.trans (grown_alloc' w3 (.cells #[.string ⟨#[120]⟩, .string ⟨#[77]⟩, .string ⟨#[77, 86]⟩] 9) (some r))
          have hcell : ∀ k s, [ByteArray.mk #[120], ByteArray.mk #[77], ByteArray.mk #[77, 86]][k]? = some s → (w3.alloc (.cells #[.string ⟨#[120]⟩, .string ⟨#[77]⟩, .string ⟨#[77, 86]⟩] 9)).cell? ⟨w3.heap.size, k, none⟩ = some (.string s) := by
            intro k s hk
            rw [(Blk.new w3 9 #[.string ⟨#[120]⟩, .string ⟨#[77]⟩, .string ⟨#[77, 86]⟩]).cell k]
            match k, hk with
            | 0, hk => cases hk; rfl
            | 1, hk => cases hk; rfl
            | 2, hk => cases hk; rfl
          have HG2 := Lib.hid hgr2
          clear HR3 HG3 hgr2
          go_wp2_with fail
          refine (spec_of _ r A cap bs (q + 1 + i + 1) w3.heap.size 3 [ByteArray.mk #[120], ByteArray.mk #[77], ByteArray.mk #[77, 86]] R2 (by omega) (by decide) (by decide) (by omega) (by simp) hcell).mono ?_
          rintro e w5 ⟨s, hs, rfl, R5, hgr5⟩
          have HG5 := Lib.hid (HG2.out.trans hgr5)
          have hs1 : s.size ≤ 2 := by
            simp at hs
            rcases hs with rfl | rfl | rfl <;> decide
          have b12 : ∀ W, (Op.stringOp .add u s).run Try.prog W = .ok (.string (u ++ s)) W := fun W => run_string_add_sum W _ _ (by omega)
          have hz : (u ++ s).size ≤ 40 := by rw [ByteArray.size_append]; omega
          have HZ := Lib.hid hz
          clear hs hcell hs1 hgr5 R2 R5 HG2 hz
          go_wp2_with fail
          go_ret
          exact ⟨_, rfl, HZ.out, HG5.out⟩
        · have d1 : ((k : Int) == 1) = false := by rw [beq_eq_false_iff_ne]; omega
          clear hk0 hk1
          go_wp2_with fail
          go_ret
          exact ⟨u, rfl, by omega, HG3.out⟩
set_option maxHeartbeats 400000 in
theorem spec_DrawWordRank (w : World) (A : Option Addr) (cap : Nat) (bs : List UInt8) (h : Codes w w.heap.size A bs) (hl : bs.length ≤ 1048576) (hcap : bs.length ≤ cap) (hcm : cap ≤ maxLen) :
    Calls Try.prog 14 #[.slice A bs.length cap] w fun e w' => ∃ s : ByteArray, e = .returned (.string s) ∧ s.size ≤ 40 ∧ Below w.heap.size w w' := by
  go_enter Try.func14, Try.ntmps14
  go_wp2_with fail
  refine (spec_l6Open w A cap bs h hl hcap hcm).mono ?_
  rintro e w1 ⟨bs', rfl, R1, hb1⟩
  go_wp2_with fail
  refine (spec_l92Word w1 w.heap.size A cap bs' 0 R1 (by omega)).mono ?_
  rintro e w2 ⟨s, rfl, hs, G2⟩
  have b2 := below_of_grown hb1 G2 (Nat.le_refl _) hb1.size
  go_wp2_with fail
  go_ret
  exact ⟨s, rfl, hs, b2⟩
end Go.Proofs.Ytfhogdbhfbnocaa
