/- Ranks of words and letters of words: the program's and the reference's. No condition but sizes. -/
import Derived.Test.YtfhogdbhfbnocaaWordF
namespace Go.Proofs.Ytfhogdbhfbnocaa
open Go.RowKit

set_option maxHeartbeats 1000000 in
theorem slices_Index (L : List Tx) (A : Option Addr) (c r : Nat) (x : Tx) (w : World) (h : Strs w A L) (hl : L.length ≤ 1000) (hr : r < L.length) (hx : L[r] = x) (hn : ∀ j, j < r → ∀ hj : j < L.length, L[j] ≠ x) :
    Calls Try.prog 24 #[.slice A L.length c, .string (bts x)] w fun e w' => e = .returned (.int .i64 r) ∧ w = w' := by
  have HX := Lib.hid hx
  have HN := Lib.hid hn
  obtain ⟨X, hX⟩ : ∃ X, X = bts x := ⟨_, rfl⟩
  have HXX := Lib.hid hX
  rw [← hX]
  clear hx hn hX
  go_enter Try.func24, Try.ntmps24
  go_wp2_with fail
  go_loop [5, 8] (fun s5 s8 => ∃ k : Nat, s5 = s5 ∧ k ≤ r ∧ s8 = .int .i64 k) (fun _ s8 => L.length - (intOf s8).toNat)
  case atStart => exact ⟨0, rfl, Nat.zero_le _, rfl⟩
  case round =>
    obtain ⟨k, _, hk, rfl⟩ := hrel
    have hkl : k < L.length := by omega
    obtain ⟨b, off, rfl, hb, hc⟩ := h (by intro e; rw [e] at hkl; simp at hkl)
    have r1 := hc k L[k] (List.getElem?_eq_getElem hkl)
    obtain ⟨y, hy⟩ : ∃ y, y = L[k] := ⟨_, rfl⟩
    obtain ⟨Y, hY⟩ : ∃ Y, Y = bts y := ⟨_, rfl⟩
    rw [← hy] at r1
    have r2 : w.cell? ⟨b, off + k, none⟩ = some (.string Y) := by rw [hY]; exact r1
    have k1 : (k : Int) < (L.length : Int) := by omega
    have k0 : (0 : Int) ≤ (k : Int) := by omega
    by_cases hkr : k = r
    · subst hkr
      have d : (X.toList == Y.toList) = true := by
        have : X = Y := by rw [HXX.out, hY, hy, HX.out]
        rw [this]; simp
      clear hc hy hY r1
      go_wp2_with fail
      go_ret
      exact ⟨rfl, rfl⟩
    · have d : (X.toList == Y.toList) = false := by
        rw [HXX.out, hY]
        exact bts_ne (fun e => HN.out k (by omega) hkl (by rw [← hy, e]))
      clear hc hy hY r1
      go_wp2_with fail
      go_round
      case rel => exact ⟨k + 1, trivial, by omega, by go_num⟩
      case measure => simp [intOf]; omega
theorem half_of {j : Nat} {l : Tx} (h : l ∈ wlI (j + 1)) : l.length = 2 * (l.length / 2) + 1 ∧ l.take (l.length / 2) ∈ wlI j ∧ ∃ hm : l.length / 2 < l.length, l[l.length / 2] = 86 ∨ l[l.length / 2] = 77 := by
  obtain ⟨w, hw, e⟩ := mem_wlI_succ.1 h
  have key : ∀ c : UInt8, l = w ++ c :: othL w → l.length = 2 * (l.length / 2) + 1 ∧ l.take (l.length / 2) ∈ wlI j ∧ ∃ hm : l.length / 2 < l.length, l[l.length / 2] = c := by
    rintro c rfl
    have hl : (w ++ c :: othL w).length = 2 * w.length + 1 := by simp [othL_len]; omega
    have hd : (w ++ c :: othL w).length / 2 = w.length := by omega
    refine ⟨by omega, ?_, by omega, ?_⟩
    · rw [hd]
      have t1 : (w ++ c :: othL w).take w.length = w := by simp
      rw [t1]; exact hw
    · have e1 : (w ++ c :: othL w)[(w ++ c :: othL w).length / 2]? = some c := by rw [hd]; simp
      exact (List.getElem?_eq_some_iff.1 e1).2
  rcases e with e | e
  · obtain ⟨a, b, hm, q⟩ := key 86 e
    exact ⟨a, b, hm, Or.inl q⟩
  · obtain ⟨a, b, hm, q⟩ := key 77 e
    exact ⟨a, b, hm, Or.inr q⟩
set_option maxHeartbeats 2000000 in
theorem impl_WordText (T0 : ByteArray) (w : World) (hs : T0.size ≤ maxLen) :
    Calls Try.prog 23 #[.string T0] w fun e w' => (∃ t : ByteArray, e = .returned (.tuple #[.string t, .bool (wrdB T0.data.toList)]) ∧ ∀ n, n ≤ 6 → T0.data.toList ∈ wlI n → t.size = n) ∧ Below w.heap.size w w' := by
  cases hc : wrdB T0.data.toList with
  | false =>
    have HC := Lib.hid hc
    have HNo := Lib.hid (show ∀ n, n ≤ 6 → T0.data.toList ∈ wlI n → False from fun n h6 hn => by
      have := wrd_iff.2 ⟨n, h6, hn⟩
      rw [hc] at this; cases this)
    clear hc
    go_enter Try.func23, Try.ntmps23
    go_wp2_with fail
    refine (impl_WordValid T0 w hs).mono ?_
    rintro e w1 ⟨rfl, hb1⟩
    rw [HC.out]
    go_wp2_with fail
    go_ret2
    exact ⟨⟨_, rfl, fun n h6 hn => absurd hn (HNo.out n h6)⟩, hb1⟩
  | true =>
    obtain ⟨n, hn6, hn⟩ := wrd_iff.1 hc
    have HC := Lib.hid hc
    have HN := Lib.hid hn
    clear hc hn
    go_enter Try.func23, Try.ntmps23
    go_wp2_with fail
    refine (impl_WordValid T0 w hs).mono ?_
    rintro e w1 ⟨rfl, hb1⟩
    rw [HC.out]
    obtain ⟨i0, hi, hz0, hz1, hz2⟩ := info_parts Try.infoByte
    obtain ⟨w2, hrun, hown2, hg2⟩ := run_make_own (P := Try.prog) w1 w1.heap.size 27 5 i0 (.int .u8 0) 1 Try.underlying27 hi hz0 hz1 .i64 .i64 6 (by rw [hz2]; omega) (by unfold maxLen; omega) (Nat.le_refl _)
    have hb2 : Below w1.heap.size w1 w2 := (Below.refl _ _).grown hg2 (Nat.le_refl _) (by intro k hk; cases hk)
    have HRun : Hid ((Instr.makeSlice 27 (.int .i64 0) (.int .i64 6)).run Try.prog w1 = .ok (.slice (some ⟨w1.heap.size, 0, none⟩) 0 6) w2) := by
      show _ = _
      have := hrun
      simpa using this
    have HO2 : Hid (OwnB w2 w1.heap.size (.slice (some ⟨w1.heap.size, 0, none⟩) 0 6) []) := hown2
    have HB2 := Lib.hid (below_from hb1 hb2 hb1.size)
    have HZ := Lib.hid hb1.size
    have hsz2 : w1.heap.size ≤ w2.heap.size := hb2.size
    clear hb1 hb2 hi hz0 hz1 hz2 hrun hown2 hg2
    go_wp2_with fail
    rw [HRun.out]
    clear HRun
    go_wp2_with fail
    go_loopg [0, 4, 5, 6] (n + 1) (fun g s0 s4 s5 s6 wr => ∃ (T : ByteArray) (j : Nat) (bs : List UInt8), s5 = s5 ∧ s6 = s6 ∧ s0 = .string T ∧ j ≤ n ∧ j < g ∧ bs.length + j = n ∧ Hid (T.data.toList ∈ wlI j) ∧ Hid (OwnB wr w1.heap.size s4 bs) ∧ Hid (Below w.heap.size w wr) ∧ w1.heap.size ≤ wr.heap.size)
    case atStart => exact ⟨T0, n, [], rfl, rfl, rfl, Nat.le_refl _, by omega, by simp, HN, HO2, HB2, hsz2⟩
    case round =>
      clear HO2 HB2
      obtain ⟨T, j, bs, _, _, rfl, hj, hg, hbj, HM, HO, HB, hsz⟩ := hrel
      cases gk with
      | zero => omega
      | succ g =>
      cases j with
      | zero =>
        have hnil : T.data.toList = [] := by have := HM.out; simpa [wlI] using this
        have h0 : T.size = 0 := by rw [← size_list, hnil]; rfl
        have d0 : decide ((0 : Int) < (T.size : Int)) = false := decide_eq_false (by omega)
        have p0 : ¬ (0 < T.size) := by omega
        have hcv := run_ownB_string HO.out
        have hfin : ∀ m, m ≤ 6 → T0.data.toList ∈ wlI m → bs.length = m := fun m _ hm => by rw [wlI_one hm HN.out]; omega
        have HF := Lib.hid hfin
        clear h0 hnil hfin
        go_wp2_with fail
        go_ret2
        exact ⟨⟨_, rfl, fun m h6 hm => by show (List.toArray bs).size = m; rw [List.size_toArray]; exact HF.out m h6 hm⟩, HB.out⟩
      | succ j =>
        obtain ⟨hl1, hl2, hl3, hl4⟩ := half_of HM.out
        rw [size_list] at hl1 hl2
        obtain ⟨m, hm⟩ : ∃ m, m = T.size / 2 := ⟨_, rfl⟩
        rw [← hm] at hl1 hl2
        have hms : m < T.size := by omega
        have hb : T[m]'hms = 86 ∨ T[m]'hms = 77 := by
          have e1 : (T[m]'hms) = T.data.toList[T.data.toList.length / 2] := by
            have : T.data.toList.length / 2 = m := by rw [size_list, hm]
            simp only [this]; rfl
          rw [e1]; exact hl4
        have hjs : T.size < 64 := by
          have := wlI_short (n := j + 1) (by omega) HM.out
          rw [size_list] at this; omega
        obtain ⟨q1, q2, _, _⟩ := quo2 T.size
        rw [← hm] at q1 q2
        obtain ⟨T1, hT1⟩ : ∃ T1, T1 = bts (T.data.toList.take m) := ⟨_, rfl⟩
        have e1 : T.extract 0 m = T1 := by rw [hT1]; exact ext_front T m
        have HM2 : Hid (T1.data.toList ∈ wlI j) := by show _ ∈ _; rw [hT1]; exact hl2
        have m2 : (m : Int) ≤ (T.size : Int) := by omega
        have m3 : (0 : Int) ≤ (m : Int) := by omega
        have m4 : (m : Int) < (T.size : Int) := by omega
        have p0 : 0 < T.size := by omega
        have d0 : decide ((0 : Int) < (T.size : Int)) = true := decide_eq_true (by omega)
        have hown := HO.out
        have hbl : bs.length ≤ 6 := by omega
        by_cases h86 : T[m]'hms = 86
        · have d1 : (((T[m]'hms).toNat : Int) == 86) = true := by rw [h86]; rfl
          clear hl1 hl2 hl4 hb hm hT1 h86 HM HO
          go_wp2_with (at_builtin; go_loud (refine wpList_pushB (W := wr) rfl _ _ rfl w1.heap.size _ bs 82 82 rfl (by rfl) (by rfl) hown hsz (by omega) ?_))
          intro v4 w4 hown4 hgr4 hb4
          have HO4 := Lib.hid hown4
          have HB4 := Lib.hid (HB.out.trans (hb4.mono HZ.out))
          have hsz4 : w1.heap.size ≤ w4.heap.size := Nat.le_trans hsz hgr4.size
          clear hown hown4 hgr4 hb4
          go_wp2_with fail
          go_roundg g
          case measure => omega
          case rel => exact ⟨T1, j, _, trivial, trivial, rfl, by omega, by omega, by simp; omega, HM2, HO4, HB4, hsz4⟩
        · have h77 : T[m]'hms = 77 := by rcases hb with q | q; exact absurd q h86; exact q
          have d1 : (((T[m]'hms).toNat : Int) == 86) = false := by rw [h77]; rfl
          clear hl1 hl2 hl4 hb hm hT1 h86 h77 HM HO
          go_wp2_with (at_builtin; go_loud (refine wpList_pushB (W := wr) rfl _ _ rfl w1.heap.size _ bs 114 114 rfl (by rfl) (by rfl) hown hsz (by omega) ?_))
          intro v4 w4 hown4 hgr4 hb4
          have HO4 := Lib.hid hown4
          have HB4 := Lib.hid (HB.out.trans (hb4.mono HZ.out))
          have hsz4 : w1.heap.size ≤ w4.heap.size := Nat.le_trans hsz hgr4.size
          clear hown hown4 hgr4 hb4
          go_wp2_with fail
          go_roundg g
          case measure => omega
          case rel => exact ⟨T1, j, _, trivial, trivial, rfl, by omega, by omega, by simp; omega, HM2, HO4, HB4, hsz4⟩
theorem nth_of {n : Nat} {l : Tx} (h : l ∈ wlI n) : ∃ hr : cntLt (wlS n) l < (srt (wlI n)).length, (srt (wlI n))[cntLt (wlS n) l] = l ∧ ∀ j, j < cntLt (wlS n) l → ∀ hj : j < (srt (wlI n)).length, (srt (wlI n))[j] ≠ l := by
  have h1 := rank_of ((wl_perm n).mem_iff.1 h)
  unfold wNth at h1
  obtain ⟨hr, hx⟩ := List.getElem?_eq_some_iff.1 h1
  refine ⟨hr, hx, fun j hj hjl e => ?_⟩
  have hp := List.pairwise_iff_getElem.1 (srt_lt (wlI_nodup n)) j _ hjl hr hj
  rw [e, hx] at hp
  exact List.lt_irrefl _ hp
set_option maxHeartbeats 1000000 in
theorem impl_WordRank (T : ByteArray) (w : World) (hs : T.size ≤ maxLen) :
    Calls Try.prog 10 #[.string T] w fun e w' => e = .returned (.int .i64 (rankZ T.data.toList)) ∧ Below w.heap.size w w' := by
  cases hc : wrdB T.data.toList with
  | false =>
    have HR := Lib.hid (rankZ_no hc)
    have HC := Lib.hid hc
    clear hc
    go_enter Try.func10, Try.ntmps10
    go_wp2_with fail
    refine (impl_WordText T w hs).mono ?_
    rintro e w1 ⟨⟨t, rfl, _⟩, hb1⟩
    rw [HC.out]
    go_wp2_with fail
    go_ret
    exact ⟨ret_int (by rw [HR.out]), hb1⟩
  | true =>
    obtain ⟨n, hn6, hn⟩ := wrd_iff.1 hc
    have HR := Lib.hid (rankZ_at hn6 hn)
    obtain ⟨hr, hx, hno⟩ := nth_of hn
    obtain ⟨r, hr0⟩ : ∃ r, r = cntLt (wlS n) T.data.toList := ⟨_, rfl⟩
    obtain ⟨L, hL⟩ : ∃ L, L = srt (wlI n) := ⟨_, rfl⟩
    have hLl : L.length ≤ 64 := by rw [hL, srt_len]; exact Nat.le_trans (Nat.pow_le_pow_right (by omega) hn6) (by decide)
    have hidx : ∀ (A : Option Addr) (c : Nat) (W : World), Strs W A L → Calls Try.prog 24 #[.slice A L.length c, .string T] W fun e w' => e = .returned (.int .i64 r) ∧ W = w' := fun A c W hS => by
      subst hL hr0
      exact slices_Index _ A c _ T.data.toList W hS (by omega) hr hx hno
    have hw := fun W : World => impl_wordsOf n W hn6
    rw [← hL] at hw
    rw [← hr0] at HR
    have HI := Lib.hid hidx
    have HW := Lib.hid hw
    have HC := Lib.hid hc
    have HN := Lib.hid hn
    clear hc hn hr hx hno hr0 hL hidx hw
    go_enter Try.func10, Try.ntmps10
    go_wp2_with fail
    refine (impl_WordText T w hs).mono ?_
    rintro e w1 ⟨⟨t, rfl, ht⟩, hb1⟩
    rw [HC.out]
    have hts : t.size = n := ht n hn6 HN.out
    have kts : (t.size : Int) = (n : Int) := by omega
    have HB1 := Lib.hid hb1
    obtain rfl : n = t.size := hts.symm
    clear ht hb1 hts kts
    go_wp2_with fail
    refine (HW.out w1).mono ?_
    rintro e w2 ⟨g, cap, rfl, hown, hb2⟩
    have hS : Strs w2 (some ⟨g, 0, none⟩) L := by
      obtain ⟨A, c, e, hS, _, _⟩ := hown.form
      cases e; exact hS
    have HS := Lib.hid hS
    have HB2 := Lib.hid (below_from HB1.out hb2 HB1.out.size)
    clear hown hb2 hS
    go_wp2_with fail
    refine (HI.out _ _ w2 HS.out).mono ?_
    rintro e _ ⟨rfl, rfl⟩
    go_wp2_with fail
    go_ret
    exact ⟨ret_int (by rw [HR.out]), HB2.out⟩
theorem wv_half {n : Nat} {l : Tx} (h : l.length + 1 = 2 ^ (n + 1)) : l.length % 2 = 1 ∧ (l.take (l.length / 2)).length + 1 = 2 ^ n := by
  rw [Nat.pow_succ] at h
  have hp := Nat.two_pow_pos n
  refine ⟨by omega, ?_⟩
  rw [List.length_take]; omega
set_option maxHeartbeats 1000000 in
theorem spec_l5Word (n : Nat) (T : ByteArray) (w : World) (hn : n ≤ 6) (hs : T.size + 1 = 2 ^ n) :
    Calls Try.prog 35 #[.string T] w fun e w' => e = .returned (.bool (wv T.data.toList)) ∧ ∃ m, w.drewN m = w' := by
  induction n generalizing T w with
  | zero =>
    have h0 : T.size = 0 := by simpa using hs
    have hnil : T.data.toList = [] := List.eq_nil_of_length_eq_zero (by rw [size_list]; exact h0)
    have d0 : ((T.size : Int) == 0) = true := by rw [beq_iff_eq]; omega
    have HW := Lib.hid (show wv T.data.toList = true by rw [hnil]; rfl)
    clear hs hnil
    go_enter Try.func35, Try.ntmps35
    go_wp2_with fail
    go_ret
    exact ⟨ret_bool (by rw [HW.out]), 0, rfl⟩
  | succ n ih =>
    have h63 : T.size ≤ 63 := by
      have : 2 ^ (n + 1) ≤ 2 ^ 6 := Nat.pow_le_pow_right (by omega) hn
      have h8 : (2 : Nat) ^ 6 = 64 := by decide
      omega
    obtain ⟨hodd, hhalf⟩ := wv_half (l := T.data.toList) (by rw [size_list]; exact hs)
    have hwv := wv_odd hodd
    rw [size_list] at hodd hhalf hwv
    obtain ⟨m, hm⟩ : ∃ m, m = T.size / 2 := ⟨_, rfl⟩
    rw [← hm] at hhalf hwv
    obtain ⟨q1, q2, _, _⟩ := quo2 T.size
    rw [← hm] at q1 q2
    obtain ⟨T1, hT1⟩ : ∃ T1, T1 = bts (T.data.toList.take m) := ⟨_, rfl⟩
    obtain ⟨T2, hT2⟩ : ∃ T2, T2 = bts (T.data.toList.drop (m + 1)) := ⟨_, rfl⟩
    obtain ⟨O, hO⟩ : ∃ O, O = bts (othL (T.data.toList.take m)) := ⟨_, rfl⟩
    have e1 : T.extract 0 m = T1 := by rw [hT1]; exact ext_front T m
    have e2 : T.extract (m + 1) T.size = T2 := by rw [hT2]; exact ext_back T (m + 1)
    have hz1 : T1.size = m := by rw [hT1, bts_size, List.length_take, size_list]; omega
    have ho : ∀ W : World, Calls Try.prog 31 #[.string T1] W fun e w' => e = .returned (.string O) ∧ W = w' := fun W => by
      have := spec_l5Other T1 W (by omega)
      rw [hT1] at this ⊢
      rw [hO]; exact this
    obtain ⟨b, hb⟩ : ∃ b, b = wv (T.data.toList.take m) := ⟨_, rfl⟩
    have hih : ∀ W : World, Calls Try.prog 35 #[.string T1] W fun e w' => e = .returned (.bool b) ∧ ∃ m, W.drewN m = w' := fun W => by
      have := ih T1 W (by omega) (by rw [hz1]; rw [List.length_take, size_list] at hhalf; omega)
      rw [hT1] at this ⊢
      rw [hb]; exact this
    rw [← hb] at hwv
    have HO := Lib.hid ho
    have HIH := Lib.hid hih
    have m1 : (m : Int) + 1 ≤ (T.size : Int) := by omega
    have m0 : (0 : Int) ≤ (m : Int) + 1 := by omega
    have m2 : (m : Int) ≤ (T.size : Int) := by omega
    have m3 : (0 : Int) ≤ (m : Int) := by omega
    have mw : IntKind.i64.wrap ((m : Int) + 1) = (m : Int) + 1 := IntWalk.i64_in _ (by omega)
    have mt : ((m : Int) + 1).toNat = m + 1 := by omega
    have p0 : ¬ (T.size = 0) := by omega
    have d0 : ((T.size : Int) == 0) = false := by rw [beq_eq_false_iff_ne]; omega
    by_cases hd : T.data.toList.drop (m + 1) = othL (T.data.toList.take m)
    · have d4 : (T2.toList == O.toList) = true := by
        have : T2 = O := by rw [hT2, hO, hd]
        rw [this]; simp
      rw [decide_eq_true hd, Bool.true_and] at hwv
      have HX := Lib.hid hwv
      clear hs ih hodd hhalf hwv hm hT1 hT2 hO hb ho hih hd
      go_enter Try.func35, Try.ntmps35
      cases b with
      | true =>
        go_wp2_with fail
        go_quiet ((first | (go_at_call 35; exact quietd (HIH.out _)) | (go_at_call 31; exact quietl (HO.out _))))
        go_wp2_with fail
        go_ret
        exact ⟨by rw [HX.out]; rfl, _, rfl⟩
      | false =>
        go_wp2_with fail
        go_quiet ((first | (go_at_call 35; exact quietd (HIH.out _)) | (go_at_call 31; exact quietl (HO.out _))))
        go_wp2_with fail
        go_ret
        exact ⟨by rw [HX.out]; rfl, _, rfl⟩
    · have d4 : (T2.toList == O.toList) = false := by rw [hT2, hO]; exact bts_ne hd
      rw [decide_eq_false hd, Bool.false_and] at hwv
      have HX := Lib.hid hwv
      clear hs ih hodd hhalf hwv hm hT1 hT2 hO hb ho hih hd
      go_enter Try.func35, Try.ntmps35
      cases b with
      | true =>
        go_wp2_with fail
        go_quiet ((first | (go_at_call 35; exact quietd (HIH.out _)) | (go_at_call 31; exact quietl (HO.out _))))
        go_wp2_with fail
        go_ret
        exact ⟨by rw [HX.out]; rfl, _, rfl⟩
      | false =>
        go_wp2_with fail
        go_quiet ((first | (go_at_call 35; exact quietd (HIH.out _)) | (go_at_call 31; exact quietl (HO.out _))))
        go_wp2_with fail
        go_ret
        exact ⟨by rw [HX.out]; rfl, _, rfl⟩
end Go.Proofs.Ytfhogdbhfbnocaa
