/- The law on words and their ranks: the walk of the law itself. No condition but sizes. -/
import Derived.Test.YtfhogdbhfbnocaaLawWordO
import Derived.Test.YtfhogdbhfbnocaaWordK
namespace Go.Proofs.Ytfhogdbhfbnocaa
open Go.RowKit

theorem nth_facts {n z : Int} {x : Tx} (h : wOf n z = some x) : ∃ m r : Nat, n = (m : Int) ∧ z = (r : Int) ∧ m ≤ 6 ∧ r < 2 ^ m ∧ x ∈ wlI m ∧ rankZ x = (r : Int) ∧ x.length + 1 = 2 ^ m ∧ ((wOf n (z + 1) = none ∧ r + 1 = 2 ^ m) ∨ ∃ y, wOf n (z + 1) = some y ∧ x < y) := by
  unfold wOf at h
  split at h
  · next hc =>
    obtain ⟨h1, h2, h3⟩ := hc
    obtain ⟨m, rfl⟩ : ∃ m : Nat, n = (m : Int) := ⟨n.toNat, by omega⟩
    obtain ⟨r, rfl⟩ : ∃ r : Nat, z = (r : Int) := ⟨z.toNat, by omega⟩
    rw [Int.toNat_natCast, Int.toNat_natCast] at h
    obtain ⟨hm, hr⟩ := rank_at h
    have hmI := (wl_perm m).mem_iff.2 hm
    have h0 := h
    unfold wNth at h0
    obtain ⟨hlt, hx⟩ := List.getElem?_eq_some_iff.1 h0
    have hlt2 := hlt
    rw [srt_len] at hlt2
    refine ⟨m, r, rfl, rfl, by omega, hlt2, hmI, by rw [rankZ_at (by omega) hmI, hr], wlI_size hmI, ?_⟩
    have hw : wOf (m : Int) ((r : Int) + 1) = wNth m (r + 1) := by
      unfold wOf
      rw [if_pos (by omega), Int.toNat_natCast]
      congr 1
    rw [hw]
    unfold wNth
    rcases Nat.lt_or_ge (r + 1) (srt (wlI m)).length with hl | hl
    · right
      refine ⟨_, List.getElem?_eq_getElem hl, ?_⟩
      rw [← hx]
      exact List.pairwise_iff_getElem.1 (srt_lt (wlI_nodup m)) r (r + 1) hlt hl (by omega)
    · left
      refine ⟨List.getElem?_eq_none hl, ?_⟩
      rw [srt_len] at hl
      omega
  · cases h
set_option maxHeartbeats 2000000 in
theorem law_FnWordRank (A : Option Addr) (cap : Nat) (bs : List UInt8) (w : World) (h : Codes w w.heap.size A bs) (hcap : bs.length ≤ cap) (hcm : cap ≤ maxLen) :
    Calls Try.prog 5 #[.slice A bs.length cap] w fun e w' => e = .returned (.bool true) ∧ Below w.heap.size w w' := by
  have hlm : bs.length ≤ maxLen := Nat.le_trans hcap hcm
  have hlm2 := hlm
  unfold maxLen at hlm2
  by_cases g1 : 1048576 < bs.length
  · have d1 : decide ((1048576 : Int) < (bs.length : Int)) = true := by simp; omega
    go_enter Try.func5, Try.ntmps5
    go_wp2_with fail
    go_ret
    exact ⟨rfl, Below.refl _ _⟩
  · have d1 : decide ((1048576 : Int) < (bs.length : Int)) = false := by simp; omega
    go_enter Try.func5, Try.ntmps5
    go_wp2_with fail
    refine (spec_DrawWordNth w A cap bs h (by omega) hcap hcm).mono ?_
    rintro e w1 ⟨n, z, rfl, hn1, hn2, hz1, hz2, hb1⟩
    have HB1 := Lib.hid hb1
    clear hb1
    have hboth : ∀ (T : ByteArray) (b : Bool), T = bts ((wOf n z).getD []) → b = (wOf n z).isSome → (∀ W : World, Calls Try.prog 8 #[.int .i64 n, .int .i64 z] W fun e w' => e = .returned (.tuple #[.string T, .bool b]) ∧ Below W.heap.size W w') ∧ (∀ W : World, Calls Try.prog 7 #[.int .i64 n, .int .i64 z] W fun e w' => e = .returned (.tuple #[.string T, .bool b]) ∧ Below W.heap.size W w') := by
      rintro T b rfl rfl
      exact ⟨impl_WordNth n z, spec_WordNth n z⟩
    cases hw : wOf n z with
    | none =>
      obtain ⟨T, hT⟩ : ∃ T, T = bts ((wOf n z).getD []) := ⟨_, rfl⟩
      obtain ⟨h1, h2⟩ := hboth T false hT (by rw [hw]; rfl)
      have HI := Lib.hid h1
      have HS := Lib.hid h2
      have dT : (T.toList == T.toList) = true := by simp
      have dT2 : (T.toList != T.toList) = false := by simp
      clear h1 h2 hboth hT hw
      go_wp2_with fail
      refine (HI.out w1).mono ?_
      rintro e w2 ⟨rfl, hb2⟩
      have HB2 := Lib.hid (below_from HB1.out hb2 HB1.out.size)
      clear hb2 HB1
      go_wp2_with fail
      refine (HS.out w2).mono ?_
      rintro e w3 ⟨rfl, hb3⟩
      have HB3 := Lib.hid (below_from HB2.out hb3 HB2.out.size)
      clear hb3 HB2
      go_wp2_with fail
      go_ret
      exact ⟨rfl, HB3.out⟩
    | some x =>
      obtain ⟨T, hT⟩ : ∃ T, T = bts ((wOf n z).getD []) := ⟨_, rfl⟩
      obtain ⟨h1, h2⟩ := hboth T true hT (by rw [hw]; rfl)
      obtain ⟨m, r, rfl, rfl, hm6, hr, hmI, hrk, hlen, hnx⟩ := nth_facts hw
      have hTx : T = bts x := by rw [hT, hw]; rfl
      have hTl : T.data.toList = x := by rw [hTx]
      have hTs : T.size + 1 = 2 ^ m := by rw [hTx, bts_size]; exact hlen
      obtain ⟨P, hP⟩ : ∃ P, P = 2 ^ m := ⟨_, rfl⟩
      have hP64 : P ≤ 64 := by rw [hP]; exact Nat.le_trans (Nat.pow_le_pow_right (by omega) hm6) (by decide)
      have hpw : ∀ W : World, Calls Try.prog 13 #[.int .i64 m] W fun e w' => e = .returned (.int .i64 (P : Int)) ∧ W = w' := fun W => by rw [hP]; exact laws_power m W (by omega)
      rw [← hP] at hr hTs hnx
      have hTm : T.size ≤ maxLen := by unfold maxLen; omega
      have hwv : wrdB T.data.toList = true := by rw [hTl]; exact wrd_iff.2 ⟨m, hm6, hmI⟩
      have hrk2 : rankZ T.data.toList = (r : Int) := by rw [hTl]; exact hrk
      have hnw : ∀ W : World, Calls Try.prog 8 #[.int .i64 m, .int .i64 ((r : Int) + 1)] W fun e w' => e = .returned (.tuple #[.string (bts ((wOf (m : Int) ((r : Int) + 1)).getD [])), .bool (wOf (m : Int) ((r : Int) + 1)).isSome]) ∧ Below W.heap.size W w' := fun W => impl_WordNth (m : Int) ((r : Int) + 1) W
      have HI := Lib.hid h1
      have HS := Lib.hid h2
      have HPW := Lib.hid hpw
      have HWV := Lib.hid hwv
      have HRK := Lib.hid hrk2
      have dT : (T.toList == T.toList) = true := by simp
      have dT2 : (T.toList != T.toList) = false := by simp
      have kw1 : IntKind.i64.wrap ((r : Int) + 1) = (r : Int) + 1 := IntWalk.i64_in _ (by omega)
      have kw2 : IntKind.i64.wrap ((P : Int) - 1) = (P : Int) - 1 := IntWalk.i64_in _ (by omega)
      have dl : ((T.size : Int) == (P : Int) - 1) = true := by rw [beq_iff_eq]; omega
      have dr : ((r : Int) == (r : Int)) = true := by simp
      obtain ⟨N, hN⟩ : ∃ N, N = bts ((wOf (m : Int) ((r : Int) + 1)).getD []) := ⟨_, rfl⟩
      rw [← hN] at hnw
      rcases hnx with ⟨hnone, hrP⟩ | ⟨y, hsome, hxy⟩
      · rw [hnone] at hnw
        have dz : ((r : Int) == (P : Int) - 1) = true := by rw [beq_iff_eq]; omega
        have HNW : Hid (∀ W : World, Calls Try.prog 8 #[.int .i64 m, .int .i64 ((r : Int) + 1)] W fun e w' => e = .returned (.tuple #[.string N, .bool false]) ∧ Below W.heap.size W w') := hnw
        clear h1 h2 hboth hT hw hmI hrk hlen hTx hTl hTs hP hpw hwv hrk2 hnw hnone hrP hN
        go_wp2_with fail
        refine (HI.out w1).mono ?_
        rintro e w2 ⟨rfl, hb2⟩
        have HB2 := Lib.hid (below_from HB1.out hb2 HB1.out.size)
        clear hb2 HB1
        go_wp2_with fail
        refine (HS.out w2).mono ?_
        rintro e w3 ⟨rfl, hb3⟩
        have HB3 := Lib.hid (below_from HB2.out hb3 HB2.out.size)
        clear hb3 HB2
        go_wp2_with fail
        refine (HNW.out w3).mono ?_
        rintro e w4 ⟨rfl, hb4⟩
        have HB4 := Lib.hid (below_from HB3.out hb4 HB3.out.size)
        clear hb4 HB3
        go_wp2_with fail
        refine (impl_WordValid T w4 hTm).mono ?_
        rintro e w5 ⟨rfl, hb5⟩
        rw [HWV.out]
        have HB5 := Lib.hid (below_from HB4.out hb5 HB4.out.size)
        clear hb5 HB4
        go_wp2_with fail
        refine (HPW.out w5).mono ?_
        rintro e _ ⟨rfl, rfl⟩
        go_wp2_with fail
        refine (impl_WordRank T w5 hTm).mono ?_
        rintro e w6 ⟨rfl, hb6⟩
        rw [HRK.out]
        have HB6 := Lib.hid (below_from HB5.out hb6 HB5.out.size)
        clear hb6 HB5
        go_wp2_with fail
        refine (HPW.out w6).mono ?_
        rintro e _ ⟨rfl, rfl⟩
        go_wp2_with fail
        go_ret
        exact ⟨rfl, HB6.out⟩
      · rw [hsome] at hnw
        have hNy : N = bts y := by rw [hN, hsome]; rfl
        have dless : Op.bytesLess T.toList N.toList = true := by
          rw [bytesLess_eq, ByteArray.toList_eq, ByteArray.toList_eq, hTl, hNy]
          exact decide_eq_true hxy
        have HNW : Hid (∀ W : World, Calls Try.prog 8 #[.int .i64 m, .int .i64 ((r : Int) + 1)] W fun e w' => e = .returned (.tuple #[.string N, .bool true]) ∧ Below W.heap.size W w') := hnw
        clear h1 h2 hboth hT hw hmI hrk hlen hTx hTl hTs hP hpw hwv hrk2 hnw hsome hN hNy hxy
        go_wp2_with fail
        refine (HI.out w1).mono ?_
        rintro e w2 ⟨rfl, hb2⟩
        have HB2 := Lib.hid (below_from HB1.out hb2 HB1.out.size)
        clear hb2 HB1
        go_wp2_with fail
        refine (HS.out w2).mono ?_
        rintro e w3 ⟨rfl, hb3⟩
        have HB3 := Lib.hid (below_from HB2.out hb3 HB2.out.size)
        clear hb3 HB2
        go_wp2_with fail
        refine (HNW.out w3).mono ?_
        rintro e w4 ⟨rfl, hb4⟩
        have HB4 := Lib.hid (below_from HB3.out hb4 HB3.out.size)
        clear hb4 HB3
        go_wp2_with fail
        refine (impl_WordValid T w4 hTm).mono ?_
        rintro e w5 ⟨rfl, hb5⟩
        rw [HWV.out]
        have HB5 := Lib.hid (below_from HB4.out hb5 HB4.out.size)
        clear hb5 HB4
        go_wp2_with fail
        refine (HPW.out w5).mono ?_
        rintro e _ ⟨rfl, rfl⟩
        go_wp2_with fail
        refine (impl_WordRank T w5 hTm).mono ?_
        rintro e w6 ⟨rfl, hb6⟩
        rw [HRK.out]
        have HB6 := Lib.hid (below_from HB5.out hb6 HB5.out.size)
        clear hb6 HB5
        go_wp2_with fail
        go_ret
        exact ⟨rfl, HB6.out⟩
end Go.Proofs.Ytfhogdbhfbnocaa
