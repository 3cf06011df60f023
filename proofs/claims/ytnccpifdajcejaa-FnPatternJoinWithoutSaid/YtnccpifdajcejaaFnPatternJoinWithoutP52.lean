/- The law on a pattern's first folds: the walk of the law itself. No condition but sizes. The law on chains of three vertices: the walk of the law itself. No condition but sizes. The laws on joined patterns: the walk of the laws themselves. No condition but sizes. A joined vertex left out again. No program, no condition. -/
import Derived.Test.YtnccpifdajcejaaFnPatternJoinWithoutP51
import Derived.Test.YtnccpifdajcejaaFnPatternJoinWithoutP47
import Derived.Test.YtnccpifdajcejaaFnPatternJoinWithoutP40
import Derived.Test.YtnccpifdajcejaaFnPatternJoinWithoutP48
import Derived.Test.YtnccpifdajcejaaDrawQ
import Derived.Test.YtnccpifdajcejaaFnPatternJoinWithoutP43
import Derived.Test.YtnccpifdajcejaaDrawS
import Derived.Test.YtnccpifdajcejaaFnPatternJoinWithoutP45
namespace Go.Proofs.Ytnccpifdajcejaa
open Go.RowKit

theorem toList_ne' {a b : ByteArray} (h : a ≠ b) : (a.toList == b.toList) = false := by
  rw [beq_eq_false_iff_ne]
  intro e
  rw [ByteArray.toList_eq, ByteArray.toList_eq] at e
  exact h (ByteArray.ext (Array.ext' e))
theorem txtL_comp {n k : Nat} (h : k < 2 ^ n) : txtL n (2 ^ n - 1 - k) = (txtL n k).map swB := by
  induction n generalizing k with
  | zero => rfl
  | succ n ih =>
    rw [txtL, txtL, List.map_cons]
    have hp : 2 ^ (n + 1) = 2 ^ n + 2 ^ n := by rw [Nat.pow_succ]; omega
    by_cases hk : k < 2 ^ n
    · have e : 2 ^ (n + 1) - 1 - k = 2 ^ n + (2 ^ n - 1 - k) := by omega
      rw [e, bitL_high (by omega), bitL_low hk, txtL_drop (Nat.le_refl _), ih hk]
      rfl
    · obtain ⟨q, rfl⟩ : ∃ q, k = 2 ^ n + q := ⟨k - 2 ^ n, by omega⟩
      have hq : q < 2 ^ n := by omega
      have e : 2 ^ (n + 1) - 1 - (2 ^ n + q) = 2 ^ n - 1 - q := by omega
      rw [e, bitL_low (by omega), bitL_high hq, txtL_drop (Nat.le_refl _), ih hq]
      rfl
theorem txt_comp {n k : Nat} (h : k < 2 ^ n) : txt n (2 ^ n - 1 - k) = swT (txt n k) := by
  unfold txt swT bts
  rw [txtL_comp h]
theorem rank_comp {vs : List Vx} {n k : Nat} (hp : patB vs = true) (hn : ncr vs = (n : Int)) (h : k < 2 ^ n) : rankB vs n (2 ^ n - 1 - k) = rankB vs n k := by
  have hv := pat_vok hp hn k
  unfold rankB
  rw [txt_comp h, Bool.eq_iff_iff, List.all_eq_true, List.all_eq_true]
  constructor <;> intro hh v hm <;> have h1 := hh v hm <;> have h2 := vfT_swap (s := txt n k) (v := v) (hv v hm).2.2
  · rwa [h2] at h1
  · rwa [h2]
theorem fstP_some {p : Nat → Bool} {k g r : Nat} (h : fstP p k g = some r) : k ≤ r ∧ r < k + g ∧ p r = true ∧ ∀ j, k ≤ j → j < r → p j = false := by
  induction g generalizing k with
  | zero => simp [fstP] at h
  | succ g ih =>
    rw [fstP] at h
    by_cases hp : p k = true
    · rw [if_pos hp] at h
      cases h
      exact ⟨Nat.le_refl _, by omega, hp, fun j h1 h2 => by omega⟩
    · rw [if_neg hp] at h
      obtain ⟨h1, h2, h3, h4⟩ := ih h
      refine ⟨by omega, by omega, h3, fun j h5 h6 => ?_⟩
      by_cases e : j = k
      · subst e; simpa using hp
      · exact h4 j (by omega) h6
/-- a pattern's first rank -/
theorem pfo_some {vs : List Vx} {r : Nat} (h : pfo vs = some r) : patB vs = true ∧ ∃ n : Nat, ncr vs = (n : Int) ∧ n ≤ 10 ∧ 2 ≤ n ∧ pcI vs = (n : Int) ∧ r < 2 ^ (n - 1) ∧ rankB vs n r = true ∧ (∀ j, j < r → rankB vs n j = false) ∧ pfT vs = txt n r := by
  have h0 := h
  unfold pfo at h
  cases hp : patB vs with
  | false => rw [hp] at h; simp at h
  | true =>
    rw [hp, if_pos rfl] at h
    obtain ⟨n, hn, hn10, hpc⟩ := pat_n hp
    rw [hn, Int.toNat_natCast] at h
    obtain ⟨h1, h2, h3, h4⟩ := fstP_some h
    refine ⟨rfl, n, hn, hn10, ?_, hpc, ?_, h3, fun j hj => h4 j (by omega) hj, ?_⟩
    · obtain ⟨p1, _, hall, _, _, _⟩ := patB_parts hp
      have hm := List.getElem_mem (l := vs) (n := 0) (by omega)
      have hb := vtxB_bd (List.all_eq_true.1 hall _ hm)
      have hd := pat_bd3 hp _ hm
      have ha := hd.2.2 _ (List.getElem_mem (n := 0) (by omega : 0 < vs[0].2.length))
      have hc := hd.2.2 _ (List.getElem_mem (n := 1) (by omega : 1 < vs[0].2.length))
      have hne := List.pairwise_iff_getElem.1 (List.nodup_iff_pairwise_ne.1 hd.2.1) 0 1 (by omega) (by omega) (by omega)
      omega
    · rcases Nat.lt_or_ge r (2 ^ (n - 1)) with hl | hl
      · exact hl
      · exfalso
        have hp2 : 2 ^ n = 2 ^ (n - 1) + 2 ^ (n - 1) ∨ n = 0 := by
          cases n with
          | zero => exact Or.inr rfl
          | succ m => left; rw [Nat.succ_sub_one, Nat.pow_succ]; omega
        have hpos := Nat.two_pow_pos (n - 1)
        rcases hp2 with hp2 | hp2
        · have := h4 (2 ^ n - 1 - r) (by omega) (by omega)
          rw [rank_comp hp hn (by omega), h3] at this
          cases this
        · subst hp2; simp at hl h2; omega
    · unfold pfT
      rw [h0, hn, Int.toNat_natCast]

set_option maxHeartbeats 4000000 in
theorem law_FnPatternFirst (A : Option Addr) (cap : Nat) (bs : List UInt8) (w : World) (h : Codes w w.heap.size A bs) (hcap : bs.length ≤ cap) (hcm : cap ≤ maxLen) :
    Calls Try.prog 8 #[.slice A bs.length cap] w fun e w' => e = .returned (.bool true) ∧ Below w.heap.size w w' := by
  have hlm : bs.length ≤ maxLen := Nat.le_trans hcap hcm
  have hlm2 := hlm
  unfold maxLen at hlm2
  by_cases g1 : 1048576 < bs.length
  · have d1 : decide ((1048576 : Int) < (bs.length : Int)) = true := by simp; omega
    go_enter Try.func8, Try.ntmps8
    go_wp2_with fail
    go_ret
    exact ⟨rfl, Below.refl _ _⟩
  · have d1 : decide ((1048576 : Int) < (bs.length : Int)) = false := by simp; omega
    go_enter Try.func8, Try.ntmps8
    go_wp2_with fail
    refine (spec_DrawPatternFirst w A cap bs h (by omega) hcap hcm).mono ?_
    rintro e w1 ⟨B, vs, c, rfl, hV, hl2, hlc, hcm2, hlen, hb1⟩
    have HLen := Lib.hid hlen
    have hlv : vs.length ≤ maxLen := by unfold maxLen; omega
    obtain ⟨T, hT⟩ : ∃ T, T = pfT vs := ⟨_, rfl⟩
    obtain ⟨fb, hfb⟩ : ∃ fb, fb = (pfo vs).isSome := ⟨_, rfl⟩
    have hTT : (T.toList != T.toList) = false := by simp
    have hTT2 : (T.toList == T.toList) = true := by simp
    have HT := Lib.hid hT
    have HFb := Lib.hid hfb
    clear hlen hT hfb
    go_wp2_with fail
    refine (impl_PatternFirst B c vs w1 hV hlv hlc hcm2).mono ?_
    rintro e w2 ⟨rfl, hb2⟩
    rw [← HT.out, ← HFb.out]
    have b2 := below_from hb1 hb2 hb1.size
    have hV2 := hV.below hb2
    clear hb1 hb2 hV
    go_wp2_with fail
    refine (spec_PatternFirst B c vs w2 hV2 hlv).mono ?_
    rintro e w3 ⟨rfl, hb3⟩
    rw [← HT.out, ← HFb.out]
    have b3 := below_from b2 hb3 b2.size
    have hV3 := hV2.below hb3
    clear b2 hb3 hV2
    cases fb with
    | false =>
      go_wp2_with fail
      go_ret
      exact ⟨rfl, b3⟩
    | true =>
      obtain ⟨r, hr⟩ := Option.isSome_iff_exists.1 HFb.out.symm
      obtain ⟨hp, n, hn, hn10, hn2, hpc, hr2, hrr, hrl, hpt⟩ := pfo_some hr
      rw [← HT.out] at hpt
      have hTs : T.size = n := by rw [hpt]; exact txt_size' n r
      have hP10 : 2 ^ n ≤ 1024 := pow_le_1024 hn10
      have hrP : r < 2 ^ n := Nat.lt_of_lt_of_le hr2 (Nat.pow_le_pow_right (by omega) (by omega))
      obtain ⟨P, hP⟩ : ∃ P, P = 2 ^ n := ⟨_, rfl⟩
      rw [← hP] at hP10 hrP
      have h0 : ∃ h : 0 < T.size, ((T[0]'h : UInt8).toNat : Int) = 77 := by
        refine ⟨by omega, ?_⟩
        have e : T.data.toList[0]? = some 77 := by
          rw [hpt]
          unfold txt
          obtain ⟨m, rfl⟩ : ∃ m, n = m + 1 := ⟨n - 1, by omega⟩
          show (txtL (m + 1) r)[0]? = some 77
          rw [txtL, bitL_low (by simpa using hr2)]; rfl
        have hl : 0 < T.data.toList.length := (List.getElem?_eq_some_iff.1 e).1
        have e2 : T.data.toList[0] = 77 := by rw [List.getElem?_eq_getElem hl] at e; exact Option.some.inj e
        have e3 : (T[0]'(by omega) : UInt8) = T.data.toList[0] := by simp; rfl
        rw [e3, e2]; rfl
      have hpw : ∀ W : World, Calls Try.prog 37 #[.int .i64 n] W fun e w' => e = .returned (.int .i64 (P : Int)) ∧ W = w' := fun W => by rw [hP]; exact laws_power n W (by omega)
      have hfT : pfB vs T = true := by rw [hpt, pfB_txt hp hn]; exact hrr
      have hfk : ∀ k, k < r → pfB vs (txt n k) = false := fun k hk => by rw [pfB_txt hp hn]; exact hrl k hk
      have HPW := Lib.hid hpw
      have HPT := Lib.hid hpt
      have HFT := Lib.hid hfT
      have HFK := Lib.hid hfk
      have HTS := Lib.hid hTs
      have HPC := Lib.hid hpc
      have H0 := Lib.hid h0
      have HV3 := Lib.hid hV3
      have HB3 := Lib.hid b3
      obtain rfl : n = T.size := hTs.symm
      clear hr hp hn hr2 hrr hrl hpt hTs hP hpc hpw hfT hfk h0 hV3 b3
      go_wp2_with fail
      go_loopg [9, 10] (r + 2) (fun g s9 s10 wr => ∃ (k : Nat), s10 = s10 ∧ k ≤ r ∧ s9 = .int .i64 k ∧ r + 1 - k < g ∧ Hid (Below w.heap.size w wr) ∧ Hid (Verts wr B vs))
      case atStart => exact ⟨0, rfl, Nat.zero_le _, rfl, by omega, HB3, HV3⟩
      case round =>
        clear HB3 HV3
        obtain ⟨k, _, hk, rfl, hg, HB, HV⟩ := hrel
        cases gk with
        | zero => omega
        | succ g =>
        have dP : decide ((k : Int) < (P : Int)) = true := by simp; omega
        have dP2 : (k : Int) < (P : Int) := by omega
        have dP3 : k < P := by omega
        by_cases hkr : k = r
        · subst hkr
          obtain ⟨hz0, hz1⟩ := H0.out
          have hz2 : (0 : Int) < (T.size : Int) := by omega
          have hq0 : (((T[0]'hz0 : UInt8).toNat : Int) == 77) = true := by rw [hz1]; rfl
          have hqn : ((T.size : Int) == (T.size : Int)) = true := by simp
          clear hz1
          go_wp2_with fail
          refine (HPW.out wr).mono ?_
          rintro e w' ⟨rfl, rfl⟩
          go_wp2_with fail
          refine (laws_foldsOf T.size k wr (by omega) (by omega)).mono ?_
          rintro e w' ⟨rfl, rfl⟩
          rw [← HPT.out]
          go_wp2_with fail
          refine (impl_PatternFolds B c vs T wr HV.out hlv (by unfold maxLen; omega) hlc hcm2).mono ?_
          rintro e w5 ⟨rfl, hb5⟩
          rw [HFT.out]
          have HB5 := Lib.hid (below_from HB.out hb5 HB.out.size)
          have HV5 := Lib.hid (HV.out.below hb5)
          clear hb5 HB HV
          go_wp2_with fail
          refine (impl_PatternCreases B c vs w5 HV5.out hlv).mono ?_
          rintro e w6 ⟨rfl, hb6⟩
          rw [HPC.out]
          have b6 := below_from HB5.out hb6 HB5.out.size
          go_wp2_with fail
          go_ret
          exact ⟨rfl, b6⟩
        · have hkl : k < r := by omega
          have hne : txt T.size k ≠ T := by
            intro e
            have h1 := HFK.out k hkl
            rw [e, HFT.out] at h1
            cases h1
          have hnl := toList_ne' hne
          obtain ⟨tk, htk⟩ : ∃ tk, tk = txt T.size k := ⟨_, rfl⟩
          rw [← htk] at hnl
          have htks : tk.size ≤ maxLen := by rw [htk, txt_size']; unfold maxLen; omega
          have hfk := HFK.out k hkl
          rw [← htk] at hfk
          have HFk := Lib.hid hfk
          have HTk := Lib.hid htk
          clear hne htk hfk hkr
          go_wp2_with fail
          refine (HPW.out wr).mono ?_
          rintro e w' ⟨rfl, rfl⟩
          go_wp2_with fail
          refine (laws_foldsOf T.size k wr (by omega) (by omega)).mono ?_
          rintro e w' ⟨rfl, rfl⟩
          rw [← HTk.out]
          go_wp2_with fail
          refine (impl_PatternFolds B c vs tk wr HV.out hlv htks hlc hcm2).mono ?_
          rintro e w5 ⟨rfl, hb5⟩
          rw [HFk.out]
          have HB5 := Lib.hid (below_from HB.out hb5 HB.out.size)
          have HV5 := Lib.hid (HV.out.below hb5)
          clear hb5 HB HV
          go_wp2_with fail
          go_roundg g
          case measure => omega
          case rel => exact ⟨k + 1, trivial, by omega, by go_num, by omega, HB5, HV5⟩
end Go.Proofs.Ytnccpifdajcejaa
namespace Go.Proofs.Ytnccpifdajcejaa
open Go.RowKit

theorem pm_bd {vs : List Vx} (hp : patB vs = true) : 0 ≤ pmI vs ∧ pmI vs ≤ 1024 := by
  obtain ⟨n, hn, hn10, _⟩ := pat_num hp
  rw [pm_cnt hp hn]
  have h : ∀ (n : Nat) (P : (Nat → UInt8) → Bool), cntF n P ≤ 2 ^ n := by
    intro n
    induction n with
    | zero => intro P; rw [cntF]; split <;> omega
    | succ n ih =>
      intro P
      rw [cntF, Nat.pow_succ]
      have := ih (fun s => P (upd s n 77))
      have := ih (fun s => P (upd s n 86))
      omega
  have h2 := h n (aA vs)
  have h3 : 2 ^ n ≤ 1024 := pow_le_1024 hn10
  omega
theorem cube_bd {m : Int} (h : 0 ≤ m ∧ m ≤ 1024) : 0 ≤ m * m ∧ m * m ≤ 1048576 ∧ 0 ≤ m * m * m ∧ m * m * m ≤ 1073741824 := by
  obtain ⟨a, rfl⟩ : ∃ a : Nat, m = (a : Int) := ⟨m.toNat, by omega⟩
  have ha : a ≤ 1024 := by omega
  have h1 : a * a ≤ 1048576 := Nat.mul_le_mul ha ha
  have h2 : a * a * a ≤ 1073741824 := Nat.mul_le_mul h1 ha
  rw [← Int.natCast_mul, ← Int.natCast_mul]
  omega
theorem first_folds {vs : List Vx} (h : (pfo vs).isSome = true) : pfB vs (pfT vs) = true ∧ patB vs = true ∧ (pfT vs).size ≤ maxLen := by
  obtain ⟨r, hr⟩ := Option.isSome_iff_exists.1 h
  obtain ⟨hp, n, hn, hn10, hn2, hpc, hr2, hrr, hrl, hpt⟩ := pfo_some hr
  rw [hpt]
  exact ⟨by rw [pfB_txt hp hn]; exact hrr, hp, by rw [txt_size']; unfold maxLen; omega⟩
set_option maxHeartbeats 1600000 in
theorem law_FnPatternChain (A : Option Addr) (cap : Nat) (bs : List UInt8) (w : World) (h : Codes w w.heap.size A bs) (hcap : bs.length ≤ cap) (hcm : cap ≤ maxLen) :
    Calls Try.prog 13 #[.slice A bs.length cap] w fun e w' => e = .returned (.bool true) ∧ Below w.heap.size w w' := by
  have hlm : bs.length ≤ maxLen := Nat.le_trans hcap hcm
  have hlm2 := hlm
  unfold maxLen at hlm2
  by_cases g1 : 1048576 < bs.length
  · have d1 : decide ((1048576 : Int) < (bs.length : Int)) = true := by simp; omega
    go_enter Try.func13, Try.ntmps13
    go_wp2_with fail
    go_ret
    exact ⟨rfl, Below.refl _ _⟩
  · have d1 : decide ((1048576 : Int) < (bs.length : Int)) = false := by simp; omega
    go_enter Try.func13, Try.ntmps13
    go_wp2_with fail
    refine (spec_DrawPatternFirst w A cap bs h (by omega) hcap hcm).mono ?_
    rintro e w1 ⟨B, vs, c, rfl, hV, hl2, hlc, hcm2, hlen, hb1⟩
    have HLen := Lib.hid hlen
    have hlv : vs.length ≤ maxLen := by unfold maxLen; omega
    obtain ⟨T, hT⟩ : ∃ T, T = pfT vs := ⟨_, rfl⟩
    obtain ⟨fb, hfb⟩ : ∃ fb, fb = (pfo vs).isSome := ⟨_, rfl⟩
    have hTT : (T.toList != T.toList) = false := by simp
    have hTT2 : (T.toList == T.toList) = true := by simp
    have HT := Lib.hid hT
    have HFb := Lib.hid hfb
    clear hlen hT hfb
    go_wp2_with fail
    refine (impl_PatternFirst B c vs w1 hV hlv hlc hcm2).mono ?_
    rintro e w2 ⟨rfl, hb2⟩
    rw [← HT.out, ← HFb.out]
    have b2 := below_from hb1 hb2 hb1.size
    have hV2 := hV.below hb2
    clear hb1 hb2 hV
    go_wp2_with fail
    refine (spec_PatternFirst B c vs w2 hV2 hlv).mono ?_
    rintro e w3 ⟨rfl, hb3⟩
    rw [← HT.out, ← HFb.out]
    have b3 := below_from b2 hb3 b2.size
    have hV3 := hV2.below hb3
    clear b2 hb3 hV2
    cases fb with
    | false =>
      go_wp2_with fail
      go_ret
      exact ⟨rfl, b3⟩
    | true =>
      obtain ⟨hfT, hp, hTs⟩ := first_folds HFb.out.symm
      rw [← HT.out] at hfT hTs
      have HP := Lib.hid hp
      have hF : ∀ W : World, Verts W B vs → Calls Try.prog 34 #[.slice B vs.length c, .string T] W fun e w' => e = .returned (.bool true) ∧ Below W.heap.size W w' := fun W hW => by
        have := impl_PatternFolds B c vs T W hW hlv hTs hlc hcm2
        rwa [hfT] at this
      have HF := Lib.hid hF
      have HB3 := Lib.hid b3
      have HV3 := Lib.hid hV3
      clear hfT hTs hp hF b3 hV3
      by_cases h1 : vs.length = 1
      · have n1 : ((vs.length : Int) != 1) = false := by rw [h1]; rfl
        have z1 : (0 : Int) < (vs.length : Int) := by omega
        obtain ⟨v, hone⟩ := List.length_eq_one_iff.1 h1
        obtain ⟨b, off, A1, c1, m, rfl, r1, HMM⟩ : ∃ b off A1 c1 m, B = some ⟨b, off, none⟩ ∧ w3.cell? ⟨b, off, none⟩ = some (.slice A1 m c1) ∧ Hid (m = v.1.length) := by
          obtain ⟨b, off, A1, c1, A2, c2, e, hb, r1, r2, i1, l1, m1, _, _, _⟩ := HV3.out.at_ (k := 0) (by omega)
          refine ⟨b, off, A1, c1, vs[0].1.length, e, by simpa using r1, ?_⟩
          subst hone
          rfl
        have HOne := Lib.hid hone
        clear hone h1
        by_cases h4 : m = 4
        · have n4 : ((m : Int) != 4) = false := by rw [h4]; rfl
          obtain ⟨two, three, q1, q2, q3, q4, q5, q6, q7, q8⟩ := chain (v := v) (by rw [← HOne.out]; exact HP.out) (by rw [← HMM.out]; exact h4)
          rw [← HOne.out] at q1 q2 q4 q5 q8
          clear h4
          have hbd := pm_bd HP.out
          have hcb := cube_bd hbd
          obtain ⟨M, hM⟩ : ∃ M, M = pmI vs := ⟨_, rfl⟩
          obtain ⟨X, hX⟩ : ∃ X, X = pmI three := ⟨_, rfl⟩
          rw [← hM, ← hX] at q8
          rw [← hM] at hcb
          have y1 : IntKind.i64.wrap (4 * X) = 4 * X := IntWalk.i64_in _ (by omega)
          have y2 : IntKind.i64.wrap (M * M) = M * M := IntWalk.i64_in _ (by omega)
          have y3 : IntKind.i64.wrap (M * M * M) = M * M * M := IntWalk.i64_in _ (by omega)
          have y4 : (4 * X == M * M * M) = true := by rw [beq_iff_eq]; exact q8
          have hj1 : ∀ W : World, Verts W (some ⟨b, off, none⟩) vs → Calls Try.prog 21 #[.slice (some ⟨b, off, none⟩) vs.length c, .slice (some ⟨b, off, none⟩) vs.length c, .int .i64 1, .int .i64 2] W (RowRes W two true) := fun W hW => by
            have := impl_PatternJoin (some ⟨b, off, none⟩) (some ⟨b, off, none⟩) c c vs vs 1 2 W hW hW hlv hlv
            rwa [q1, q2] at this
          have hj2 : ∀ (W : World) (g : Nat), Verts W (some ⟨g, 0, none⟩) two → Verts W (some ⟨b, off, none⟩) vs → Calls Try.prog 21 #[.slice (some ⟨g, 0, none⟩) two.length two.length, .slice (some ⟨b, off, none⟩) vs.length c, .int .i64 4, .int .i64 0] W (RowRes W three true) := fun W g hW hW2 => by
            have := impl_PatternJoin (some ⟨g, 0, none⟩) (some ⟨b, off, none⟩) two.length c two vs 4 0 W hW hW2 (by unfold maxLen; omega) hlv
            rwa [q4, q5] at this
          have HJ1 := Lib.hid hj1
          have HJ2 := Lib.hid hj2
          have HM := Lib.hid hM
          have HX := Lib.hid hX
          have H7 := Lib.hid q7
          have H3 := Lib.hid q3
          have H6 := Lib.hid q6
          clear hj1 hj2 hM hX q1 q2 q3 q4 q5 q6 q7 q8 hcb hbd
          go_wp2_with fail
          refine (HJ1.out w3 HV3.out).mono ?_
          rintro e w4 ⟨g4, L4, rfl, hr4, ho4, hb4⟩
          have b4 := below_from HB3.out hb4 HB3.out.size
          have HV4 := Lib.hid (HV3.out.below hb4)
          have HW4 := Lib.hid (hr4.read ho4 rfl)
          have HB4 := Lib.hid b4
          clear hr4 ho4 hb4 b4 HB3 HV3 r1
          go_wp2_with fail
          refine (HJ2.out w4 g4 HW4.out HV4.out).mono ?_
          rintro e w5 ⟨g5, L5, rfl, hr5, ho5, hb5⟩
          have b5 := below_from HB4.out hb5 HB4.out.size
          have HV5 := Lib.hid (HV4.out.below hb5)
          have HW5 := Lib.hid (hr5.read ho5 rfl)
          have HB5 := Lib.hid b5
          clear hr5 ho5 hb5 b5 HB4 HV4 HW4
          go_wp2_with fail
          refine (impl_PatternMany _ _ vs w5 HV5.out hlv hlc hcm2).mono ?_
          rintro e w6 ⟨rfl, hb6⟩
          rw [← HM.out]
          have HB6 := Lib.hid (below_from HB5.out hb6 HB5.out.size)
          have HW6 := Lib.hid (HW5.out.below hb6)
          clear hb6 HB5 HV5 HW5
          go_wp2_with fail
          refine (impl_PatternMany _ _ three w6 HW6.out (by rw [H6.out]; unfold maxLen; omega) (Nat.le_refl _) (by rw [H6.out]; unfold maxLen; omega)).mono ?_
          rintro e w7 ⟨rfl, hb7⟩
          rw [← HX.out]
          have HB7 := Lib.hid (below_from HB6.out hb7 HB6.out.size)
          have HW7 := Lib.hid (HW6.out.below hb7)
          clear hb7 HB6 HW6
          go_wp2_with fail
          refine (impl_PatternCreases _ _ three w7 HW7.out (by rw [H6.out]; unfold maxLen; omega)).mono ?_
          rintro e w8 ⟨rfl, hb8⟩
          rw [H7.out]
          have HB8 := Lib.hid (below_from HB7.out hb8 HB7.out.size)
          clear hb8 HB7 HW7
          go_wp2_with fail
          go_ret
          exact ⟨rfl, HB8.out⟩
        · have n4 : ((m : Int) != 4) = true := by rw [bne_iff_ne]; omega
          clear h4
          go_wp2_with fail
          refine (HF.out w3 HV3.out).mono ?_
          rintro e w4 ⟨rfl, hb4⟩
          have b4 := below_from HB3.out hb4 HB3.out.size
          go_wp2_with fail
          go_ret
          exact ⟨rfl, b4⟩
      · have n1 : ((vs.length : Int) != 1) = true := by rw [bne_iff_ne]; omega
        go_wp2_with fail
        refine (HF.out w3 HV3.out).mono ?_
        rintro e w4 ⟨rfl, hb4⟩
        have b4 := below_from HB3.out hb4 HB3.out.size
        go_wp2_with fail
        go_ret
        exact ⟨rfl, b4⟩
end Go.Proofs.Ytnccpifdajcejaa
namespace Go.Proofs.Ytnccpifdajcejaa
open Go.RowKit

theorem mul_bd {a b : Int} (h : 0 ≤ a ∧ a ≤ 1024) (h2 : 0 ≤ b ∧ b ≤ 1024) : 0 ≤ a * b ∧ a * b ≤ 1048576 := by
  obtain ⟨m, rfl⟩ : ∃ m : Nat, a = (m : Int) := ⟨a.toNat, by omega⟩
  obtain ⟨n, rfl⟩ : ∃ n : Nat, b = (n : Int) := ⟨b.toNat, by omega⟩
  have h1 : m * n ≤ 1048576 := Nat.mul_le_mul (by omega : m ≤ 1024) (by omega : n ≤ 1024)
  rw [← Int.natCast_mul]
  omega
theorem join_facts {us vs : List Vx} {i j : Int} (h : joinB us vs i j = true) : ∃ na nb, JoinOk us vs i j na nb ∧ jR us vs i j = joinL us vs i j ∧ patB (jR us vs i j) = true ∧ (jR us vs i j).length = us.length + vs.length ∧
    pcI (jR us vs i j) = pcI us + pcI vs - 1 ∧ 0 ≤ pcI us ∧ pcI us ≤ 10 ∧ 0 ≤ pcI vs ∧ pcI vs ≤ 10 ∧ 2 * pmI (jR us vs i j) = pmI us * pmI vs := by
  have hj : jR us vs i j = joinL us vs i j := by unfold jR; rw [h, if_pos rfl]
  unfold joinB at h
  simp only [Bool.and_eq_true, decide_eq_true_eq] at h
  obtain ⟨⟨⟨⟨h1, h2⟩, h3⟩, h4⟩, h5⟩ := h
  obtain ⟨na, ha, ha10, hpa⟩ := pat_num h1
  obtain ⟨nb, hb, hb10, hpb⟩ := pat_num h2
  have J : JoinOk us vs i j na nb := ⟨h1, h2, h3, h4, ha, hb⟩
  have hna := pat_two h1 ha
  refine ⟨na, nb, J, hj, by rw [hj]; exact h5, by rw [hj, joinL_len], ?_, by omega, by omega, by omega, by omega, by rw [hj]; exact J.pm_join h5⟩
  rw [hj, hpa, hpb]
  unfold pcI
  rw [h5, if_pos rfl, J.ncr_join]; omega

set_option maxHeartbeats 4000000 in
theorem law_FnPatternJoin (A : Option Addr) (cap : Nat) (bs : List UInt8) (w : World) (h : Codes w w.heap.size A bs) (hcap : bs.length ≤ cap) (hcm : cap ≤ maxLen) :
    Calls Try.prog 9 #[.slice A bs.length cap] w fun e w' => e = .returned (.bool true) ∧ Below w.heap.size w w' := by
  have hlm : bs.length ≤ maxLen := Nat.le_trans hcap hcm
  have hlm2 := hlm
  unfold maxLen at hlm2
  by_cases g1 : 1048576 < bs.length
  · have d1 : decide ((1048576 : Int) < (bs.length : Int)) = true := by simp; omega
    go_enter Try.func9, Try.ntmps9
    go_wp2_with fail
    go_ret
    exact ⟨rfl, Below.refl _ _⟩
  · have d1 : decide ((1048576 : Int) < (bs.length : Int)) = false := by simp; omega
    go_enter Try.func9, Try.ntmps9
    go_wp2_with fail
    refine (spec_DrawPatternJoin w A cap bs h (by omega) hcap hcm).mono ?_
    rintro e w1 ⟨B1, B2, us, vs, c1, c2, i, j, rfl, hU, hV, hu2, hv2, huc, hvc, hcm1, hcm2, hlu, hlv, hb1⟩
    have hum : us.length ≤ maxLen := by unfold maxLen; omega
    have hvm : vs.length ≤ maxLen := by unfold maxLen; omega
    obtain ⟨rs, hrs⟩ : ∃ rs, rs = jR us vs i j := ⟨_, rfl⟩
    obtain ⟨b, hb⟩ : ∃ b, b = joinB us vs i j := ⟨_, rfl⟩
    have hrl : rs.length ≤ 4 := by
      rw [hrs]; unfold jR
      split
      · rw [joinL_len]; omega
      · simp
    have hbb : (b != b) = false := by cases b <;> rfl
    have hbb2 : (b == b) = true := by cases b <;> rfl
    have HRS := Lib.hid hrs
    have HBb := Lib.hid hb
    have HB1 := Lib.hid hb1
    have HU1 := Lib.hid hU
    have HV1 := Lib.hid hV
    clear hrs hb hlu hlv hb1 hU hV
    go_wp2_with fail
    refine (impl_PatternJoin B1 B2 c1 c2 us vs i j w1 HU1.out HV1.out hum hvm).mono ?_
    rintro e w2 ⟨g2, L2, rfl, hr2, ho2, hb2⟩
    rw [← HRS.out] at hr2 ho2 ⊢
    rw [← HBb.out]
    have b2 := below_from HB1.out hb2 HB1.out.size
    have HU2 := Lib.hid (HU1.out.below hb2)
    have HV2 := Lib.hid (HV1.out.below hb2)
    have HR2 := Lib.hid (hr2.read ho2 rfl)
    have HB2 := Lib.hid b2
    clear hr2 ho2 hb2 b2 HB1 HU1 HV1
    go_wp2_with fail
    refine (spec_PatternJoin B1 B2 c1 c2 us vs i j w2 HU2.out HV2.out hum hvm).mono ?_
    rintro e w3 ⟨A3, c3, rfl, hv3, _, _, hb3⟩
    rw [← HRS.out] at hv3 ⊢
    rw [← HBb.out]
    have HU3 := Lib.hid (HU2.out.below hb3)
    have HV3 := Lib.hid (HV2.out.below hb3)
    have HR3 := Lib.hid (HR2.out.below hb3)
    have HS3 := Lib.hid hv3
    have HB3 := Lib.hid (below_from HB2.out hb3 HB2.out.size)
    clear hb3 hv3 HB2 HU2 HV2 HR2
    go_wp2_with fail
    refine (laws_samePattern _ _ rs.length c3 rs w3 HR3.out HS3.out (by omega)).mono ?_
    rintro e w4 ⟨rfl, hb4⟩
    have HU4 := Lib.hid (HU3.out.below hb4)
    have HV4 := Lib.hid (HV3.out.below hb4)
    have HR4 := Lib.hid (HR3.out.below hb4)
    have HS4 := Lib.hid (HS3.out.below hb4)
    have HB4 := Lib.hid (below_from HB3.out hb4 HB3.out.size)
    clear hb4 HB3 HU3 HV3 HR3 HS3
    cases b with
    | false =>
      go_wp2_with fail
      refine (laws_samePattern _ _ rs.length c3 rs w4 HR4.out HS4.out (by omega)).mono ?_
      rintro e w5 ⟨rfl, hb5⟩
      have b5 := below_from HB4.out hb5 HB4.out.size
      go_wp2_with fail
      go_ret
      exact ⟨rfl, b5⟩
    | true =>
      obtain ⟨na, nb, J, _, hpr, hlr, hpc, p1, p2, p3, p4, hpm⟩ := join_facts HBb.out.symm
      rw [← HRS.out] at hpr hlr hpc hpm
      have hM1 := pm_bd J.pa
      have hM2 := pm_bd J.pb
      have hM3 := pm_bd hpr
      obtain ⟨M1, e1⟩ : ∃ M, M = pmI us := ⟨_, rfl⟩
      obtain ⟨M2, e2⟩ : ∃ M, M = pmI vs := ⟨_, rfl⟩
      obtain ⟨X, e3⟩ : ∃ M, M = pmI rs := ⟨_, rfl⟩
      obtain ⟨P1, e4⟩ : ∃ M, M = pcI us := ⟨_, rfl⟩
      obtain ⟨P2, e5⟩ : ∃ M, M = pcI vs := ⟨_, rfl⟩
      obtain ⟨P, e6⟩ : ∃ M, M = pcI rs := ⟨_, rfl⟩
      rw [← e1] at hM1 hpm
      rw [← e2] at hM2 hpm
      rw [← e3] at hM3 hpm
      rw [← e4] at hpc p1 p2
      rw [← e5] at hpc p3 p4
      rw [← e6] at hpc
      have hmb := mul_bd hM1 hM2
      have y1 : IntKind.i64.wrap (2 * X) = 2 * X := IntWalk.i64_in _ (by omega)
      have y2 : IntKind.i64.wrap (M1 * M2) = M1 * M2 := IntWalk.i64_in _ (by omega)
      have y3 : (2 * X == M1 * M2) = true := by rw [beq_iff_eq]; exact hpm
      have y4 : IntKind.i64.wrap (P1 + P2) = P1 + P2 := IntWalk.i64_in _ (by omega)
      have y5 : IntKind.i64.wrap (P1 + P2 - 1) = P1 + P2 - 1 := IntWalk.i64_in _ (by omega)
      have y6 : (P == P1 + P2 - 1) = true := by rw [beq_iff_eq]; exact hpc
      have y7 : IntKind.i64.wrap ((us.length : Int) + (vs.length : Int)) = (us.length : Int) + (vs.length : Int) := IntWalk.i64_in _ (by omega)
      have y8 : ((rs.length : Int) == (us.length : Int) + (vs.length : Int)) = true := by rw [beq_iff_eq]; omega
      have E1 := Lib.hid e1
      have E2 := Lib.hid e2
      have E3 := Lib.hid e3
      have E4 := Lib.hid e4
      have E5 := Lib.hid e5
      have E6 := Lib.hid e6
      have HPR := Lib.hid hpr
      have hrm : rs.length ≤ maxLen := by unfold maxLen; omega
      clear J hpr hlr hpc hpm hmb e1 e2 e3 e4 e5 e6 hM1 hM2 hM3 p1 p2 p3 p4
      go_wp2_with fail
      refine (impl_PatternValid _ _ rs w4 HR4.out hrm).mono ?_
      rintro e w5 ⟨rfl, hb5⟩
      rw [HPR.out]
      have HU5 := Lib.hid (HU4.out.below hb5)
      have HV5 := Lib.hid (HV4.out.below hb5)
      have HR5 := Lib.hid (HR4.out.below hb5)
      have HB5 := Lib.hid (below_from HB4.out hb5 HB4.out.size)
      clear hb5 HB4 HU4 HV4 HR4 HS4
      go_wp2_with fail
      refine (impl_PatternCreases _ _ rs w5 HR5.out hrm).mono ?_
      rintro e w6 ⟨rfl, hb6⟩
      rw [← E6.out]
      have HU6 := Lib.hid (HU5.out.below hb6)
      have HV6 := Lib.hid (HV5.out.below hb6)
      have HR6 := Lib.hid (HR5.out.below hb6)
      have HB6 := Lib.hid (below_from HB5.out hb6 HB5.out.size)
      clear hb6 HB5 HU5 HV5 HR5
      go_wp2_with fail
      refine (impl_PatternCreases _ _ us w6 HU6.out hum).mono ?_
      rintro e w7 ⟨rfl, hb7⟩
      rw [← E4.out]
      have HU7 := Lib.hid (HU6.out.below hb7)
      have HV7 := Lib.hid (HV6.out.below hb7)
      have HR7 := Lib.hid (HR6.out.below hb7)
      have HB7 := Lib.hid (below_from HB6.out hb7 HB6.out.size)
      clear hb7 HB6 HU6 HV6 HR6
      go_wp2_with fail
      refine (impl_PatternCreases _ _ vs w7 HV7.out hvm).mono ?_
      rintro e w8 ⟨rfl, hb8⟩
      rw [← E5.out]
      have HU8 := Lib.hid (HU7.out.below hb8)
      have HV8 := Lib.hid (HV7.out.below hb8)
      have HR8 := Lib.hid (HR7.out.below hb8)
      have HB8 := Lib.hid (below_from HB7.out hb8 HB7.out.size)
      clear hb8 HB7 HU7 HV7 HR7
      go_wp2_with fail
      refine (impl_PatternMany _ _ rs w8 HR8.out hrm (Nat.le_refl _) hrm).mono ?_
      rintro e w9 ⟨rfl, hb9⟩
      rw [← E3.out]
      have HU9 := Lib.hid (HU8.out.below hb9)
      have HV9 := Lib.hid (HV8.out.below hb9)
      have HB9 := Lib.hid (below_from HB8.out hb9 HB8.out.size)
      clear hb9 HB8 HU8 HV8 HR8
      go_wp2_with fail
      refine (impl_PatternMany _ _ us w9 HU9.out hum huc hcm1).mono ?_
      rintro e w10 ⟨rfl, hb10⟩
      rw [← E1.out]
      have HV10 := Lib.hid (HV9.out.below hb10)
      have HB10 := Lib.hid (below_from HB9.out hb10 HB9.out.size)
      clear hb10 HB9 HU9 HV9
      go_wp2_with fail
      refine (impl_PatternMany _ _ vs w10 HV10.out hvm hvc hcm2).mono ?_
      rintro e w11 ⟨rfl, hb11⟩
      rw [← E2.out]
      have HB11 := Lib.hid (below_from HB10.out hb11 HB10.out.size)
      clear hb11 HB10 HV10
      go_wp2_with fail
      go_ret
      exact ⟨rfl, HB11.out⟩
end Go.Proofs.Ytnccpifdajcejaa
namespace Go.Proofs.Ytnccpifdajcejaa

theorem numW_all {vs : List Vx} {n : Nat} (h : ∀ k, k < n → 0 < useN vs (k : Int)) : ∀ k, k ≤ n → numW vs k = k := by
  intro k
  induction k with
  | zero => intro _; rfl
  | succ k ih => intro hk; rw [numW, ih (by omega), if_pos (h k (by omega))]
theorem JoinOk.without {us vs : List Vx} {i j : Int} {na nb : Nat} (h : JoinOk us vs i j na nb) (hp : patB (joinL us vs i j) = true) (h1 : vs.length = 1) :
    withoutB (joinL us vs i j) (us.length : Int) = true ∧ woR (joinL us vs i j) (us.length : Int) = us := by
  obtain ⟨v, rfl⟩ := List.length_eq_one_iff.1 h1
  obtain ⟨a1, _, _, _, _, _⟩ := patB_parts h.pa
  have hl := joinL_len us [v] i j
  rw [List.length_singleton] at hl
  have hw : withoutB (joinL us [v] i j) (us.length : Int) = true := by
    unfold withoutB
    rw [hp, decide_eq_true (by omega), decide_eq_true (by omega), decide_eq_true (by omega)]; rfl
  refine ⟨hw, ?_⟩
  have he : (joinL us [v] i j).eraseIdx us.length = us := by
    unfold joinL
    rw [List.eraseIdx_append_of_length_le (Nat.le_refl _), Nat.sub_self]
    simp
  unfold woR
  rw [hw, if_pos rfl, Int.toNat_natCast]
  unfold withoutL
  rw [he]
  have : us.map (renV fun c => (numW us c : Int)) = us.map id := by
    refine List.map_congr_left fun u hu => ?_
    have hb := bd_n h.pa h.ha u hu
    rw [renV_congr (g := fun c => (c : Int)) fun c hc => by
      have := hb c hc
      rw [numW_all (fun k hk => by have := use_in h.pa h.ha hk; omega) c.toNat (by omega)]]
    exact renV_id fun c hc => (hb c hc).1
  rw [this, List.map_id]
end Go.Proofs.Ytnccpifdajcejaa
