/- Words of letters are words; those of two letters are strips that fold. The walk of steps. No condition but sizes. The law on words of two folds and strips: the walk of the law itself. No condition but sizes. -/
import Derived.Test.YtnckbiacfnokiaaZordH
namespace Go.Proofs.Ytnckbiacfnokiaa
open Go.RowKit

theorem othL_othL (l : Tx) : othL (othL l) = l := by
  unfold othL
  rw [← List.map_reverse, List.reverse_reverse, List.map_map]
  have : (swB ∘ swB) = id := by funext c; exact swB_swB c
  rw [this, List.map_id]
theorem othL_app (a b : Tx) (c : UInt8) : othL (a ++ c :: b) = othL b ++ swB c :: othL a := by
  unfold othL; simp
theorem othL_mem {n : Nat} {w : Tx} (h : w ∈ wlI n) : othL w ∈ wlI n := by
  cases n with
  | zero => simp [wlI] at h; subst h; simp [wlI, othL]
  | succ n =>
    obtain ⟨v, hv, e⟩ := mem_wlI_succ.1 h
    rw [mem_wlI_succ]
    rcases e with rfl | rfl
    · exact ⟨v, hv, Or.inr (by rw [othL_app, othL_othL]; rfl)⟩
    · exact ⟨v, hv, Or.inl (by rw [othL_app, othL_othL]; rfl)⟩
theorem midB_is (c : UInt8) : midB c = 77 ∨ midB c = 86 := by unfold midB; split; exact Or.inl rfl; exact Or.inr rfl
theorem wof_mem (l : Tx) : wof l ∈ wlI l.length := by
  induction l with
  | nil => simp [wof, wlI]
  | cons c r ih =>
    rw [List.length_cons, mem_wlI_succ]
    show ∃ w ∈ wlI r.length, wof1 c (wof r) = w ++ 86 :: othL w ∨ wof1 c (wof r) = w ++ 77 :: othL w
    unfold wof1
    split
    · refine ⟨wof r, ih, ?_⟩
      rcases midB_is c with e | e
      · rw [e]; exact Or.inr rfl
      · rw [e]; exact Or.inl rfl
    · refine ⟨othL (wof r), othL_mem ih, ?_⟩
      rw [othL_othL]
      rcases midB_is c with e | e
      · rw [e]; exact Or.inr rfl
      · rw [e]; exact Or.inl rfl
theorem wof_wrd {l : Tx} (h : l.length ≤ 6) : wrdB (wof l) = true := wrd_iff.2 ⟨l.length, h, wof_mem l⟩
/-- the words of two letters, as strips of four equal parts -/
def twoB (t : Tx) : Bool := svB [1, 1, 1, 1] t && decide (0 < smany [1, 1, 1, 1] (bts t)) && decide (t.length = 3)
theorem two_all : [[86, 86, 77], [77, 86, 86], [86, 77, 77], [77, 77, 86], [86, 77, 86], [77, 86, 77], [86, 86, 86], [77, 77, 77]].all (fun t => twoB t || !(wrdB t)) = true := by decide +kernel
theorem two_word {l : Tx} (h2 : l.length = 2) : svB [1, 1, 1, 1] (wof l) = true ∧ 0 < smany [1, 1, 1, 1] (bts (wof l)) ∧ (wof l).length = 3 := by
  have hm := wof_mem l
  rw [h2] at hm
  have h1 : ∀ t ∈ wlI 2, twoB t = true := by decide +kernel
  have h3 := h1 _ hm
  unfold twoB at h3
  simp only [Bool.and_eq_true, decide_eq_true_eq] at h3
  exact ⟨h3.1.1, h3.1.2, h3.2⟩
theorem wofO_some {l : Tx} {t : Tx} (h : wofO l = some t) : t = wof l ∧ l.length ≤ 6 := by
  unfold wofO at h
  split at h
  · next hc => cases h; exact ⟨rfl, hc.1⟩
  · cases h
set_option maxHeartbeats 400000 in
set_option maxRecDepth 100000 in
theorem impl_StripFolds1 (A : Option Addr) (cap : Nat) (s : ByteArray) (w : World) (h : Ints w A [1, 1, 1, 1]) (hr : svB [1, 1, 1, 1] s.data.toList = true) (hs : s.size = 3) (hc : 4 ≤ cap) (hm : cap ≤ maxLen) :
    Calls Try.prog 11 #[.slice A 4 cap, .string s] w fun e w' => e = .returned (.bool true) ∧ Below w.heap.size w w' := by
  have HV := Lib.hid (impl_StripValid A cap [1, 1, 1, 1] s w h (by unfold maxLen; decide) (by unfold maxLen; omega))
  rw [hr] at HV
  obtain ⟨b, off, rfl, hb, hcc⟩ := h (by simp)
  have HF := Lib.hid (impl_foldable1 3 b off cap s w h hb (by omega) hc hm (by omega))
  clear h hr hs hcc hc hm
  go_enter Try.func11, Try.ntmps11
  go_wp2_with fail
  refine HV.out.mono ?_
  rintro e _ ⟨rfl, rfl⟩
  go_wp2_with fail
  refine HF.out.mono ?_
  rintro e w1 ⟨rfl, hb1⟩
  go_wp2_with fail
  go_ret
  exact ⟨rfl, hb1⟩
end Go.Proofs.Ytnckbiacfnokiaa
namespace Go.Proofs.Ytnckbiacfnokiaa
open Go.RowKit

set_option maxHeartbeats 2000000 in
set_option maxRecDepth 100000 in
theorem law_FnWordStrip (A : Option Addr) (cap : Nat) (bs : List UInt8) (w : World) (h : Codes w w.heap.size A bs) (hcap : bs.length ≤ cap) (hcm : cap ≤ maxLen) :
    Calls Try.prog 3 #[.slice A bs.length cap] w fun e w' => e = .returned (.bool true) ∧ Below w.heap.size w w' := by
  have hlm : bs.length ≤ maxLen := Nat.le_trans hcap hcm
  have hlm2 := hlm
  unfold maxLen at hlm2
  by_cases g1 : 1048576 < bs.length
  · have d1 : decide ((1048576 : Int) < (bs.length : Int)) = true := by simp; omega
    go_enter Try.func3, Try.ntmps3
    go_wp2_with fail
    go_ret
    exact ⟨rfl, Below.refl _ _⟩
  · have d1 : decide ((1048576 : Int) < (bs.length : Int)) = false := by simp; omega
    go_enter Try.func3, Try.ntmps3
    go_wp2_with fail
    refine (spec_DrawWordOf w A cap bs h (by omega) hcap hcm).mono ?_
    rintro e w1 ⟨s, rfl, hs, hb1⟩
    have HB1 := Lib.hid hb1
    clear hb1
    cases ho : wofO s.data.toList with
    | none =>
      have HI := Lib.hid (fun W : World => impl_WordOf s W (by omega))
      have HS := Lib.hid (fun W : World => spec_WordOf s W (by omega))
      rw [ho] at HI HS
      clear ho hs
      go_wp2_with fail
      refine (HI.out w1).mono ?_
      rintro e w2 ⟨rfl, hb2⟩
      have HB2 := Lib.hid (below_from HB1.out hb2 HB1.out.size)
      clear hb2 HB1
      go_wp2_with fail
      refine (HS.out w2).mono ?_
      rintro e _ ⟨rfl, rfl⟩
      go_wp2_with fail
      go_ret
      exact ⟨rfl, HB2.out⟩
    | some t =>
      obtain ⟨rfl, h6⟩ := wofO_some ho
      have HI := Lib.hid (fun W : World => impl_WordOf s W (by omega))
      have HS := Lib.hid (fun W : World => spec_WordOf s W (by omega))
      rw [ho] at HI HS
      have ht63 := wof_short h6
      obtain ⟨T, hT⟩ : ∃ T, T = bts (wof s.data.toList) := ⟨_, rfl⟩
      have hTl : T.data.toList = wof s.data.toList := by rw [hT, bts_list]
      have hTs : T.size ≤ 63 := by rw [← size_list, hTl]; exact ht63
      have HI2 : Hid (∀ W : World, Calls Try.prog 6 #[.string s] W fun e w' => e = .returned (.tuple #[.string T, .bool true]) ∧ Below W.heap.size W w') := by show ∀ W : World, _; rw [hT]; exact HI.out
      have HS2 : Hid (∀ W : World, Calls Try.prog 7 #[.string s] W fun e w' => e = .returned (.tuple #[.string T, .bool true]) ∧ W = w') := by show ∀ W : World, _; rw [hT]; exact HS.out
      have HW := Lib.hid (fun W : World => impl_WordValid T W (by unfold maxLen; omega))
      rw [hTl, wof_wrd h6] at HW
      clear HI HS ht63 ho
      have te : (T.toList == T.toList) = true := by simp
      by_cases h2 : s.size = 2
      · obtain ⟨q1, q2, q3⟩ := two_word (l := s.data.toList) (by rw [size_list]; exact h2)
        have q3' : T.size = 3 := by rw [← size_list, hTl]; exact q3
        rw [← hTl] at q1
        rw [← hT] at q2
        have HM := Lib.hid (fun (B : Option Addr) (c : Nat) (W : World) (hI : Ints W B [1, 1, 1, 1]) => impl_StripMany B c [1, 1, 1, 1] T W hI q1 (by decide) (by intro e; have := congrArg List.length e; rw [fdS_len, q3'] at this; cases this))
        have HF := Lib.hid (fun (B : Option Addr) (c : Nat) (W : World) (hI : Ints W B [1, 1, 1, 1]) (hc : 4 ≤ c) (hm : c ≤ maxLen) => impl_StripFolds1 B c T W hI q1 q3' hc hm)
        obtain ⟨z, hz⟩ : ∃ z, z = smany [1, 1, 1, 1] T := ⟨_, rfl⟩
        rw [← hz] at HM q2
        have k1 : decide ((0 : Int) < (z : Int)) = true := by simp; omega
        have k2 : ((s.size : Int) == 2) = true := by rw [beq_iff_eq]; omega
        clear q1 q3 q3' hz hT hTl h2 hTs h6 HW
        go_wp2_with fail
        refine (HI2.out w1).mono ?_
        rintro e w2 ⟨rfl, hb2⟩
        have HB2 := Lib.hid (below_from HB1.out hb2 HB1.out.size)
        clear hb2 HB1
        go_wp2_with fail
        refine (HS2.out w2).mono ?_
        rintro e _ ⟨rfl, rfl⟩
        go_wp2_with fail
        refine (laws_ones 4 w2 (by omega)).mono ?_
        rintro e w3 ⟨⟨B, c, rfl, hI, _, _⟩, hb3⟩
        have HB3 := Lib.hid (below_from HB2.out hb3 HB2.out.size)
        have HMM := Lib.hid (HM.out B c w3 hI)
        clear hb3 HB2 hI HM
        go_wp2_with fail
        refine HMM.out.mono ?_
        rintro e w4 ⟨rfl, hb4⟩
        have HB4 := Lib.hid (below_from HB3.out hb4 HB3.out.size)
        clear hb4 HB3 HMM
        go_wp2_with fail
        refine (laws_ones 4 w4 (by omega)).mono ?_
        rintro e w5 ⟨⟨B2, c2, rfl, hI, hc2, hm2⟩, hb5⟩
        have HB5 := Lib.hid (below_from HB4.out hb5 HB4.out.size)
        have HFF := Lib.hid (HF.out B2 c2 w5 hI hc2 hm2)
        clear hb5 HB4 hI HF hc2 hm2
        go_wp2_with fail
        refine HFF.out.mono ?_
        rintro e w6 ⟨rfl, hb6⟩
        have HB6 := Lib.hid (below_from HB5.out hb6 HB5.out.size)
        clear hb6 HB5 HFF
        go_wp2_with fail
        go_ret
        exact ⟨rfl, HB6.out⟩
      · have k2 : ((s.size : Int) == 2) = false := by rw [beq_eq_false_iff_ne]; omega
        clear h2 hTl hT hTs h6
        go_wp2_with fail
        refine (HI2.out w1).mono ?_
        rintro e w2 ⟨rfl, hb2⟩
        have HB2 := Lib.hid (below_from HB1.out hb2 HB1.out.size)
        clear hb2 HB1
        go_wp2_with fail
        refine (HS2.out w2).mono ?_
        rintro e _ ⟨rfl, rfl⟩
        go_wp2_with fail
        refine (HW.out w2).mono ?_
        rintro e w3 ⟨rfl, hb3⟩
        have HB3 := Lib.hid (below_from HB2.out hb3 HB2.out.size)
        go_wp2_with fail
        go_ret
        exact ⟨rfl, HB3.out⟩
end Go.Proofs.Ytnckbiacfnokiaa
