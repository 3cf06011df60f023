/- A drawn text of letters; lists of ones; right layers and steps of a strip. No condition but sizes. -/
import Derived.Test.YtnckbiacfnokiaaZordG
import Derived.Test.YtnckbiacfnokiaaFlatI
namespace Go.Proofs.Ytnckbiacfnokiaa
open Go.RowKit

theorem Rd.farZ {w : World} {r : Nat} {A : Option Addr} {cap : Nat} {bs : List UInt8} {q : Nat} (h : Rd w r A cap bs q) (o : Obj) : Rd (w.alloc o) r A cap bs q := by
  refine ⟨h.blk.alloc o, fun hn => ?_, h.len⟩
  obtain ⟨b, off, e, hb, hc⟩ := h.codes hn
  refine ⟨b, off, e, hb, fun k c hk => ?_⟩
  have hlt : b < w.heap.size := Nat.lt_trans hb h.blk.lt
  exact (((Below.refl w.heap.size w).alloc (Nat.le_refl _) o).cell (p := ⟨b, off + k, none⟩) hlt).trans (hc k c hk)
theorem grown_allocZ (w : World) (o : Obj) (row : Option Nat) : w.grownBy (w.alloc o) row := World.grownBy_alloc w o row
theorem below_of_grownZ {w w1 w2 : World} {r : Nat} (h1 : Below w.heap.size w w1) (h2 : w1.grownBy w2 (some r)) (hr : w.heap.size ≤ r) (hs : w.heap.size ≤ w1.heap.size) : Below w.heap.size w w2 :=
  h1.grown h2 hs (fun g e => by cases e; exact hr)
set_option maxHeartbeats 2000000 in
set_option maxRecDepth 100000 in
theorem spec_DrawWordOf (w : World) (A : Option Addr) (cap : Nat) (bs0 : List UInt8) (h : Codes w w.heap.size A bs0) (hl : bs0.length ≤ 1048576) (hcap : bs0.length ≤ cap) (hcm : cap ≤ maxLen) :
    Calls Try.prog 5 #[.slice A bs0.length cap] w fun e w' => ∃ s : ByteArray, e = .returned (.string s) ∧ s.size ≤ 40 ∧ Below w.heap.size w w' := by
  go_enter Try.func5, Try.ntmps5
  go_wp2_with fail
  refine (spec_l6Open w A cap bs0 h hl hcap hcm).mono ?_
  rintro e w0 ⟨bs, rfl, R0, hb0⟩
  clear h hl hcap hcm
  obtain ⟨r, hr⟩ : ∃ r, r = w.heap.size := ⟨_, rfl⟩
  have HRR := Lib.hid hr
  have HB0 := Lib.hid hb0
  rw [← hr] at R0 ⊢
  clear hr hb0
  go_wp2_with fail
  refine (spec_pick w0 r A cap bs 0 6 R0 (by omega) (by omega)).mono ?_
  rintro e w1 ⟨n, rfl, hn, R1, g1⟩
  have hn5 : n ≤ 5 := by omega
  have HG1 := Lib.hid g1
  have HR1 := Lib.hid R1
  clear hn g1 R1 R0
  go_wp2_with fail
  go_loopg [4, 6] (n + 1) (fun g s4 s6 wr => ∃ (i : Nat) (t : ByteArray), i ≤ n ∧ s6 = .int .i64 i ∧ s4 = .string t ∧ t.size ≤ 100 ∧ Hid (t.size = i) ∧ n - i < g ∧ Hid (Rd wr r A cap bs (1 + i)) ∧ Hid (w0.grownBy wr (some r)))
  case atStart => exact ⟨0, ByteArray.empty, Nat.zero_le _, rfl, rfl, by decide, rfl, by omega, HR1, HG1⟩
  case round =>
    clear HR1 HG1
    obtain ⟨i, t, hi, rfl, rfl, hts, HT, hg, HR, HG⟩ := hrel
    cases gk with
    | zero => omega
    | succ g =>
    by_cases hlt : i < n
    · have hrl := HR.out.blk.lt
      have R2 := HR.out.farZ (.cells #[.string ⟨#[82]⟩, .string ⟨#[114]⟩, .string ⟨#[76]⟩, .string ⟨#[108]⟩] 9)
      have hgr2 := HG.out.trans (grown_allocZ wr (.cells #[.string ⟨#[82]⟩, .string ⟨#[114]⟩, .string ⟨#[76]⟩, .string ⟨#[108]⟩] 9) (some r))
      have hcell : ∀ k s, [ByteArray.mk #[82], ByteArray.mk #[114], ByteArray.mk #[76], ByteArray.mk #[108]][k]? = some s → (wr.alloc (.cells #[.string ⟨#[82]⟩, .string ⟨#[114]⟩, .string ⟨#[76]⟩, .string ⟨#[108]⟩] 9)).cell? ⟨wr.heap.size, k, none⟩ = some (.string s) := by
        intro k s hk
        rw [(Blk.new wr 9 #[.string ⟨#[82]⟩, .string ⟨#[114]⟩, .string ⟨#[76]⟩, .string ⟨#[108]⟩]).cell k]
        match k, hk with
        | 0, hk => cases hk; rfl
        | 1, hk => cases hk; rfl
        | 2, hk => cases hk; rfl
        | 3, hk => cases hk; rfl
      have HG2 := Lib.hid hgr2
      clear HR HG hgr2
      go_wp2_with fail
      refine (spec_of _ r A cap bs (1 + i) wr.heap.size 4 [ByteArray.mk #[82], ByteArray.mk #[114], ByteArray.mk #[76], ByteArray.mk #[108]] R2 (by omega) (by decide) (by decide) (by omega) (by simp) hcell).mono ?_
      rintro e w2 ⟨s, hs, rfl, R3, hgr3⟩
      have HG4 := Lib.hid (HG2.out.trans hgr3)
      have hs1 : s.size = 1 := by
        simp at hs
        rcases hs with rfl | rfl | rfl | rfl <;> rfl
      have h63 : t.size + s.size ≤ 9223372036854775807 := by omega
      have b12 : ∀ W, (Op.stringOp .add t s).run Try.prog W = .ok (.string (t ++ s)) W := fun W => run_string_add_sum W _ _ h63
      have HS := Lib.hid hs1
      have HR3 := Lib.hid R3
      have hi100 : i + 1 ≤ 100 := by omega
      clear hs hcell hs1 h63 hgr3 R2 R3 HG2
      go_wp2_with fail
      go_roundg g
      case measure => omega
      case rel => exact ⟨i + 1, t ++ s, by omega, by go_num, rfl, by rw [ByteArray.size_append, HS.out, HT.out]; exact hi100, by show _ = _; rw [ByteArray.size_append, HS.out, HT.out], by omega, HR3, HG4⟩
    · obtain rfl : i = n := by omega
      have hti : t.size ≤ 5 := by rw [HT.out]; exact hn5
      go_wp2_with fail
      refine (spec_pick wr r A cap bs (1 + i) 12 HR.out (by omega) (by omega)).mono ?_
      rintro e w3 ⟨k, rfl, _, R3, hgr3⟩
      have HG3 := Lib.hid (HG.out.trans hgr3)
      have HR3 := Lib.hid R3
      clear R3 hgr3 HG HR
      by_cases hk0 : k = 0
      · have d1 : ((k : Int) == 0) = true := by rw [beq_iff_eq]; omega
        clear hk0
        have hrl := HR3.out.blk.lt
        have R2 := HR3.out.farZ (.cells #[.string ⟨#[85]⟩, .string ⟨#[120]⟩, .string ⟨#[77]⟩] 9)
        have hgr2 := HG3.out.trans (grown_allocZ w3 (.cells #[.string ⟨#[85]⟩, .string ⟨#[120]⟩, .string ⟨#[77]⟩] 9) (some r))
        have hcell : ∀ k s, [ByteArray.mk #[85], ByteArray.mk #[120], ByteArray.mk #[77]][k]? = some s → (w3.alloc (.cells #[.string ⟨#[85]⟩, .string ⟨#[120]⟩, .string ⟨#[77]⟩] 9)).cell? ⟨w3.heap.size, k, none⟩ = some (.string s) := by
          intro k s hk
          rw [(Blk.new w3 9 #[.string ⟨#[85]⟩, .string ⟨#[120]⟩, .string ⟨#[77]⟩]).cell k]
          match k, hk with
          | 0, hk => cases hk; rfl
          | 1, hk => cases hk; rfl
          | 2, hk => cases hk; rfl
        have HG2 := Lib.hid hgr2
        clear HR3 HG3 hgr2
        go_wp2_with fail
        refine (spec_of _ r A cap bs (1 + i + 1) w3.heap.size 3 [ByteArray.mk #[85], ByteArray.mk #[120], ByteArray.mk #[77]] R2 (by omega) (by decide) (by decide) (by omega) (by simp) hcell).mono ?_
        rintro e w5 ⟨s, hs, rfl, R5, hgr5⟩
        have HB5 := Lib.hid (below_of_grownZ HB0.out (HG2.out.trans hgr5) (by rw [HRR.out]; exact Nat.le_refl _) HB0.out.size)
        have hs1 : s.size ≤ 2 := by
          simp at hs
          rcases hs with rfl | rfl | rfl <;> decide
        have b12 : ∀ W, (Op.stringOp .add t s).run Try.prog W = .ok (.string (t ++ s)) W := fun W => run_string_add_sum W _ _ (by omega)
        have hz : (t ++ s).size ≤ 40 := by rw [ByteArray.size_append]; omega
        have HZ := Lib.hid hz
        clear hs hcell hs1 hgr5 R2 R5 HG2 hz
        go_wp2_with fail
        go_ret
        exact ⟨_, rfl, HZ.out, HB5.out⟩
      · have d0 : ((k : Int) == 0) = false := by rw [beq_eq_false_iff_ne]; omega
        have HB5 := Lib.hid (below_of_grownZ HB0.out HG3.out (by rw [HRR.out]; exact Nat.le_refl _) HB0.out.size)
        by_cases hk1 : k = 1
        · have d1 : ((k : Int) == 1) = true := by rw [beq_iff_eq]; omega
          clear hk0 hk1
          go_wp2_with fail
          go_ret
          exact ⟨_, rfl, by decide, HB5.out⟩
        · have d1 : ((k : Int) == 1) = false := by rw [beq_eq_false_iff_ne]; omega
          clear hk0 hk1
          go_wp2_with fail
          go_ret
          exact ⟨t, rfl, by omega, HB5.out⟩
set_option maxHeartbeats 1000000 in
set_option maxRecDepth 100000 in
theorem laws_ones (n : Nat) (w : World) (hn : n ≤ 1000) :
    Calls Try.prog 10 #[.int .i64 n] w fun e w' => (∃ (B : Option Addr) (c : Nat), e = .returned (.slice B n c) ∧ Ints w' B (List.replicate n 1) ∧ n ≤ c ∧ c ≤ maxLen) ∧ Below w.heap.size w w' := by
  go_enter Try.func10, Try.ntmps10
  obtain ⟨w1, hw1⟩ : ∃ w1, w1 = w.alloc (.cells #[] 3) := ⟨_, rfl⟩
  have HB0 : Hid (Below w.heap.size w w1) := by show Below _ _ _; rw [hw1]; exact (Below.refl _ _).alloc (Nat.le_refl _) _
  have HO0 : Hid (Own w1 w.heap.size (.slice (some ⟨w.heap.size, 0, none⟩) 0 0) (List.replicate 0 1)) := by show Own _ _ _ _; rw [hw1]; exact own_empty w (Nat.le_refl _)
  have HW1 := Lib.hid hw1
  clear hw1
  go_wp2_with fail
  rw [← HW1.out]
  go_loopg [3, 4] (n + 1) (fun gg s3 s4 wr => ∃ i : Nat, i ≤ n ∧ s4 = .int .i64 i ∧ n - i < gg ∧ Hid (Own wr w.heap.size s3 (List.replicate i 1)) ∧ Hid (Below w.heap.size w wr))
  case atStart => exact ⟨0, Nat.zero_le _, rfl, by omega, HO0, HB0⟩
  case round =>
    clear HB0 HO0 HW1
    obtain ⟨i, hi, rfl, hg, HO, HB⟩ := hrel
    cases gk with
    | zero => omega
    | succ g1 =>
    by_cases hlt : i < n
    · have hown2 := own_below2' HO.out ((Below.refl wr.heap.size wr).alloc (Nat.le_refl _) (.cells #[.int .i64 1] 3))
      have HO2 := Lib.hid hown2
      have HI2 : Hid (Ints (wr.alloc (.cells #[.int .i64 1] 3)) (some ⟨wr.heap.size, 0, none⟩) [1]) := Ints.of_own (own_one wr (B := 0) 1 (Nat.zero_le _))
      have hz : w.heap.size ≤ (wr.alloc (.cells #[.int .i64 1] 3)).heap.size := Nat.le_trans HB.out.size (by simp)
      have HZ := Lib.hid hz
      obtain ⟨A, c, rfl, hS, hLc, hcm⟩ := HO.out.form
      clear hown2 hz hS hLc hcm
      go_wp2_with (at_builtin; go_loud (refine wpList_app (by rfl) _ _ (by rfl) w.heap.size _ (List.replicate i 1) [1] _ _ (by rfl) 1 rfl (by rfl) HO2.out HI2.out HZ.out (by simp; omega) ?_))
      intro v' w2 hown hgr hb2
      have hr : List.replicate i (1 : Int) ++ [1] = List.replicate (i + 1) 1 := by rw [List.replicate_succ']
      rw [hr] at hown
      have HO3 := Lib.hid hown
      have HB3 := Lib.hid ((HB.out.alloc HB.out.size _).trans hb2)
      clear hown hgr hb2 HO HO2 HB
      go_wp2_with fail
      go_roundg g1
      case measure => omega
      case rel => exact ⟨i + 1, by omega, by go_num, by omega, HO3, HB3⟩
    · obtain rfl : i = n := by omega
      obtain ⟨A, c, rfl, hS, hLc, hcm⟩ := HO.out.form
      rw [List.length_replicate] at hLc ⊢
      have HS := Lib.hid hS
      have HC := Lib.hid hLc
      have HM := Lib.hid hcm
      clear hS hLc hcm
      go_wp2_with fail
      go_ret
      exact ⟨⟨A, c, rfl, HS.out, HC.out, HM.out⟩, HB.out⟩
/-- is it a strip -/
def svB (xs : List Int) (cs : List UInt8) : Bool := lvB xs && fvB cs ((xs.length : Int) - 1)
set_option maxHeartbeats 400000 in
theorem impl_StripValid (A : Option Addr) (cap : Nat) (xs : List Int) (s : ByteArray) (w : World) (h : Ints w A xs) (hl : xs.length ≤ maxLen) (hs : s.size ≤ maxLen) :
    Calls Try.prog 25 #[.slice A xs.length cap, .string s] w fun e w' => e = .returned (.bool (svB xs s.data.toList)) ∧ w = w' := by
  have hlm := hl
  unfold maxLen at hlm
  cases hv : lvB xs with
  | false =>
    have hq : svB xs s.data.toList = false := by unfold svB; rw [hv]; rfl
    rw [hq]
    go_enter Try.func25, Try.ntmps25
    go_wp2_with fail
    refine (impl_lengthsValid A cap xs w h hl).mono ?_
    rintro e _ ⟨rfl, rfl⟩
    rw [hv]
    clear hq hv
    go_wp2_with fail
    go_ret
    exact ⟨rfl, rfl⟩
  | true =>
    have hq : svB xs s.data.toList = fvB s.data.toList ((xs.length : Int) - 1) := by unfold svB; rw [hv]; rfl
    rw [hq]
    have kw : IntKind.i64.wrap ((xs.length : Int) - 1) = (xs.length : Int) - 1 := IntWalk.i64_in _ (by omega)
    go_enter Try.func25, Try.ntmps25
    go_wp2_with fail
    refine (impl_lengthsValid A cap xs w h hl).mono ?_
    rintro e _ ⟨rfl, rfl⟩
    rw [hv]
    clear hq hv
    go_wp2_with fail
    refine (impl_FoldsValid s ((xs.length : Int) - 1) w hs).mono ?_
    rintro e _ ⟨rfl, rfl⟩
    go_wp2_with fail
    go_ret
    exact ⟨rfl, rfl⟩
set_option maxHeartbeats 400000 in
set_option maxRecDepth 100000 in
theorem impl_StripMany (A : Option Addr) (cap : Nat) (xs : List Int) (s : ByteArray) (w : World) (h : Ints w A xs) (hr : svB xs s.data.toList = true) (h2 : 2 ≤ xs.length) (hz : fdS xs s s.size ≠ []) :
    Calls Try.prog 9 #[.slice A xs.length cap, .string s] w fun e w' => e = .returned (.int .i64 (smany xs s : Nat)) ∧ Below w.heap.size w w' := by
  have hrr := hr
  unfold svB at hrr
  simp only [Bool.and_eq_true] at hrr
  obtain ⟨h1, h3⟩ := hrr
  obtain ⟨l1, l6, hx⟩ := lvB_parts h1
  have hss : (s.size : Int) = (xs.length : Int) - 1 := by have := (fvB_iff _ _).1 h3; rw [size_list] at this; exact this.1
  have HV := Lib.hid (impl_StripValid A cap xs s w h (by unfold maxLen; omega) (by unfold maxLen; omega))
  have HF := Lib.hid (impl_flatStrip A cap xs s w h (by omega) (fun x hm => ⟨by have := (hx x hm).1; omega, (hx x hm).2⟩) (by omega))
  have HC := Lib.hid (fun (r : Nat) (W : World) (hF : Flat W r w.heap.size xs.length (plcL xs) (fdS xs s s.size)) => impl_count r w.heap.size xs.length (plcL xs) (fdS xs s s.size) W hF (by omega) (plcL_len xs) hz (by rw [fdS_len]; omega) (fdS_mem (by omega)))
  rw [hr] at HV
  have HM : Hid (smany xs s = rcount xs.length (plcL xs) (fdS xs s s.size)) := rfl
  obtain ⟨z, hz⟩ : ∃ z, z = rcount xs.length (plcL xs) (fdS xs s s.size) := ⟨_, rfl⟩
  rw [← hz] at HC HM
  clear h1 h3 hx hr h hz
  go_enter Try.func9, Try.ntmps9
  go_wp2_with fail
  refine HV.out.mono ?_
  rintro e w' ⟨rfl, rfl⟩
  go_wp2_with fail
  refine HF.out.mono ?_
  rintro e w1 ⟨r, rfl, hF, hb1⟩
  have HFF := Lib.hid (HC.out r w1 hF)
  have HB := Lib.hid hb1
  clear hF hb1 HF HC
  go_wp2_with fail
  refine HFF.out.mono ?_
  rintro e w2 ⟨rfl, hb2⟩
  have HB2 := Lib.hid (HB.out.trans (hb2.mono HB.out.size))
  clear hb2
  go_wp2_with fail
  go_ret
  exact ⟨ret_int (by rw [HM.out]), HB2.out⟩
set_option maxHeartbeats 400000 in
set_option maxRecDepth 100000 in
theorem impl_withoutFirst (b off n cap : Nat) (s : ByteArray) (w : World) (hn : 1 ≤ n) (hc : n + 1 ≤ cap) (hm : cap ≤ maxLen) (hs : 1 ≤ s.size) :
    Calls Try.prog 49 #[.agg #[.slice (some ⟨b, off, none⟩) (n + 1) cap, .string s]] w fun e w' => e = .returned (.agg #[.slice (some ⟨b, off + 1, none⟩) n (cap - 1), .string (s.extract 1 s.size)]) ∧ Below w.heap.size w w' := by
  unfold maxLen at hm
  have c1 : ¬ cap = 1 := by omega
  have k1 : (1 : Int) ≤ ((n + 1 : Nat) : Int) := by omega
  have k2 : (1 : Int) ≤ (s.size : Int) := by omega
  have k3 : ((n + 1 : Nat) : Int) ≤ (cap : Int) := by omega
  go_enter Try.func49, Try.ntmps49
  go_wp2_with fail
  go_region
  all_goals
    go_wp2_with fail
    refine bodyPost_ret (v := .agg #[.slice (some ⟨b, off + 1, none⟩) n (cap - 1), .string (s.extract 1 s.size)]) (by simp [results, Try.results49, go_sem]) rfl ⟨rfl, ?_⟩
    exact below_drewN (((Below.refl _ _).alloc (Nat.le_refl _) _).alloc (by simp) _) 1
set_option maxHeartbeats 1000000 in
set_option maxRecDepth 100000 in
theorem impl_foldable1 (n : Nat) (b off cap : Nat) (s : ByteArray) (w : World) (h : Ints w (some ⟨b, off, none⟩) (List.replicate (n + 1) 1)) (hb : b < w.heap.size) (hn : n ≤ 1000) (hc : n + 1 ≤ cap) (hm : cap ≤ maxLen) (hs : n ≤ s.size) :
    Calls Try.prog 28 #[.agg #[.slice (some ⟨b, off, none⟩) (n + 1) cap, .string s]] w fun e w' => e = .returned (.bool true) ∧ Below w.heap.size w w' := by
  induction n generalizing b off cap s w with
  | zero =>
    go_enter Try.func28, Try.ntmps28
    go_wp2_with fail
    go_ret
    exact ⟨rfl, (Below.refl _ _).alloc (Nat.le_refl _) _⟩
  | succ m ih =>
    unfold maxLen at hm
    have c0 : w.cell? ⟨b, off, none⟩ = some (.int .i64 1) := by
      obtain ⟨b', off', e, _, hcc⟩ := h (by simp)
      cases e
      exact hcc 0 1 (by rw [List.getElem?_replicate, if_pos (by omega)])
    have c1 : w.cell? ⟨b, off + 1, none⟩ = some (.int .i64 1) := by
      obtain ⟨b', off', e, _, hcc⟩ := h (by simp)
      cases e
      exact hcc 1 1 (by rw [List.getElem?_replicate, if_pos (by omega)])
    have HW := Lib.hid (fun W : World => impl_withoutFirst b off (m + 1) cap s W (by omega) (by omega) (by unfold maxLen; omega) (by omega))
    have HI : Hid (∀ W : World, Below w.heap.size w W → Calls Try.prog 28 #[.agg #[.slice (some ⟨b, off + 1, none⟩) (m + 1) (cap - 1), .string (s.extract 1 s.size)]] W fun e w' => e = .returned (.bool true) ∧ Below W.heap.size W w') := by
      show ∀ W, _
      intro W hW
      refine ih b (off + 1) (cap - 1) (s.extract 1 s.size) W ?_ (Nat.lt_of_lt_of_le hb hW.size) (by omega) (by omega) (by unfold maxLen; omega) (by rw [ByteArray.size_extract]; omega)
      have h2 := (h.below hW).cut 1 (m + 1)
      have e : ((List.replicate (m + 1 + 1) (1 : Int)).drop 1).take (m + 1) = List.replicate (m + 1) 1 := by simp
      rw [e] at h2
      exact h2
    have hw1 : Below w.heap.size w (w.alloc (.cells #[.slice (some ⟨b, off, none⟩) (m + 1 + 1) cap, .string s] 47)) := (Below.refl _ _).alloc (Nat.le_refl _) _
    have d0 := (hw1.cell (p := ⟨b, off, none⟩) hb).trans c0
    have d1 := (hw1.cell (p := ⟨b, off + 1, none⟩) hb).trans c1
    clear ih h
    go_enter Try.func28, Try.ntmps28
    go_wp2_with fail
    obtain ⟨w1, hW1⟩ : ∃ w1, w1 = w.alloc (.cells #[.slice (some ⟨b, off, none⟩) (m + 1 + 1) cap, .string s] 47) := ⟨_, rfl⟩
    have e0 : w1.cell? ⟨w.heap.size, 0, none⟩ = some (.slice (some ⟨b, off, none⟩) (m + 1 + 1) cap) := by rw [hW1]; exact (Blk.new w _ _).cell 0
    have e1 : w1.cell? ⟨w.heap.size, 1, none⟩ = some (.string s) := by rw [hW1]; exact (Blk.new w _ _).cell 1
    have hq : w.heap.size < w1.heap.size := by rw [hW1]; simp
    rw [← hW1] at hw1 d0 d1 ⊢
    have HB1 := Lib.hid hw1
    have hb1 : b < w1.heap.size := Nat.lt_of_lt_of_le hb hw1.size
    obtain ⟨q, hqq⟩ : ∃ q, q = w.heap.size := ⟨_, rfl⟩
    rw [← hqq] at e0 e1 hq ⊢
    have HQ := Lib.hid hqq
    clear hW1 hw1 hqq c0 c1 hb
    have k0 : (0 : Int) < (m : Int) + 1 + 1 := by omega
    have k1 : (1 : Int) < (m : Int) + 1 + 1 := by omega
    go_region_held3 (fun W => W.cell? ⟨q, 0, none⟩ = some (.slice (some ⟨b, off, none⟩) (m + 1 + 1) cap) ∧ W.cell? ⟨q, 1, none⟩ = some (.string s) ∧ W.cell? ⟨b, off, none⟩ = some (.int .i64 1) ∧ W.cell? ⟨b, off + 1, none⟩ = some (.int .i64 1))
      (first
        | exact ⟨e0, e1, d0, d1⟩
        | exact ⟨(hby.cell (p := ⟨q, 0, none⟩) (Nat.lt_of_lt_of_le hq hbx.size)).trans ((hbx.cell (p := ⟨q, 0, none⟩) hq).trans e0), (hby.cell (p := ⟨q, 1, none⟩) (Nat.lt_of_lt_of_le hq hbx.size)).trans ((hbx.cell (p := ⟨q, 1, none⟩) hq).trans e1), (hby.cell (p := ⟨b, off, none⟩) (Nat.lt_of_lt_of_le hb1 hbx.size)).trans ((hbx.cell (p := ⟨b, off, none⟩) hb1).trans d0), (hby.cell (p := ⟨b, off + 1, none⟩) (Nat.lt_of_lt_of_le hb1 hbx.size)).trans ((hbx.cell (p := ⟨b, off + 1, none⟩) hb1).trans d1)⟩
        | exact ⟨(hbx.cell (p := ⟨q, 0, none⟩) hq).trans e0, (hbx.cell (p := ⟨q, 1, none⟩) hq).trans e1, (hbx.cell (p := ⟨b, off, none⟩) hb1).trans d0, (hbx.cell (p := ⟨b, off + 1, none⟩) hb1).trans d1⟩)
      (first
        | (have _hz := hbx.size; go_simp; go_at_call 28; refine (HI.out _ ((HB1.out.trans (below_drewN (Below.refl _ _) 1)).trans (hbx.mono HB1.out.size))).mono ?_; rintro e w3 ⟨rfl, hby⟩)
        | (go_simp; go_at_call 49; refine (HW.out _).mono ?_; rintro e w2 ⟨rfl, hbx⟩))
    all_goals
      go_wp2_with fail
      go_ret
      exact ⟨rfl, ((HB1.out.trans (below_drewN (Below.refl _ _) 1)).trans (hbx.mono HB1.out.size)).trans (hby.mono (Nat.le_trans HB1.out.size hbx.size))⟩
end Go.Proofs.Ytnckbiacfnokiaa
